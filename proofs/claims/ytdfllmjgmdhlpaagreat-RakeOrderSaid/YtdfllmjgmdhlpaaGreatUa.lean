/-
  What the document's reference of layer 3 computes; laws of layer 3; how a rake is read as an argument.
-/
import Derived.Test.YtdfllmjgmdhlpaaGreatLa
import Derived.Test.YtdfllmjgmdhlpaaGreatTa
import Derived.Test.YtdfllmjgmdhlpaaGreatAe
import Derived.Test.YtdfllmjgmdhlpaaGreatAf
import Derived.Test.YtdfllmjgmdhlpaaGreatRows
set_option linter.unusedVariables false
set_option linter.unusedSimpArgs false
set_option linter.unusedSectionVars false

/- The reference: Sets. -/
section
set_option maxRecDepth 100000
set_option linter.unusedSimpArgs false
namespace Go.Cw
open Go Go.Proofs

/-- The sets among the first so many numbers. -/
def setsTo (T : List (List Int)) : Nat → List Int
  | 0 => []
  | k + 1 => if T.any fun t => decide (leaksT t = k) then setsTo T k ++ [(k : Int)] else setsTo T k
theorem setsTo_len (T : List (List Int)) (k : Nat) : (setsTo T k).length ≤ k := by
  induction k with
  | zero => simp [setsTo]
  | succ k ih =>
    unfold setsTo
    split
    · rw [List.length_append]; simp; omega
    · omega
theorem setsTo_mem {T : List (List Int)} {k : Nat} {s : Int} : s ∈ setsTo T k ↔ (0 ≤ s ∧ s < k) ∧ ∃ t ∈ T, leaksT t = s := by
  induction k with
  | zero => simp [setsTo]; omega
  | succ k ih =>
    unfold setsTo
    split
    · rename_i hc
      obtain ⟨t, ht, h1⟩ := List.any_eq_true.1 hc
      rw [List.mem_append, ih, List.mem_singleton]
      constructor
      · rintro (⟨h2, h3⟩ | rfl)
        · exact ⟨by omega, h3⟩
        · exact ⟨by omega, t, ht, by simpa using h1⟩
      · rintro ⟨h2, h3⟩
        by_cases hk : s = k
        · exact .inr hk
        · exact .inl ⟨by omega, h3⟩
    · rename_i hc
      rw [ih]
      constructor
      · rintro ⟨h2, h3⟩; exact ⟨by omega, h3⟩
      · rintro ⟨h2, t, ht, h3⟩
        refine ⟨⟨h2.1, ?_⟩, t, ht, h3⟩
        by_cases hk : s = k
        · exact absurd (List.any_eq_true.2 ⟨t, ht, by simpa [hk] using h3⟩) hc
        · omega
theorem setsTo_lt (T : List (List Int)) (k : Nat) : (setsTo T k).Pairwise (· < ·) := by
  induction k with
  | zero => simp [setsTo]
  | succ k ih =>
    unfold setsTo
    split
    · rw [List.pairwise_append]
      refine ⟨ih, by simp, fun a ha b hb => ?_⟩
      obtain rfl : b = k := by simpa using hb
      have := (setsTo_mem.1 ha).1
      omega
    · exact ih
theorem sorted_ext : ∀ {l m : List Int}, l.Pairwise (· < ·) → m.Pairwise (· < ·) → (∀ x, x ∈ l ↔ x ∈ m) → l = m
  | [], [], _, _, _ => rfl
  | [], b :: m, _, _, h => absurd ((h b).2 (by simp)) (by simp)
  | a :: l, [], _, _, h => absurd ((h a).1 (by simp)) (by simp)
  | a :: l, b :: m, hl, hm, h => by
    have hl' := List.pairwise_cons.1 hl
    have hm' := List.pairwise_cons.1 hm
    have hab : a = b := by
      have h1 := (h a).1 (by simp)
      have h2 := (h b).2 (by simp)
      rcases List.mem_cons.1 h1 with h1 | h1
      · exact h1
      · rcases List.mem_cons.1 h2 with h2 | h2
        · exact h2.symm
        · have := hm'.1 a h1; have := hl'.1 b h2; omega
    subst hab
    congr 1
    refine sorted_ext hl'.2 hm'.2 fun x => ?_
    have hx := h x
    constructor
    · intro hxl
      rcases List.mem_cons.1 (hx.1 (List.mem_cons_of_mem _ hxl)) with h1 | h1
      · have := hl'.1 x hxl; omega
      · exact h1
    · intro hxm
      rcases List.mem_cons.1 (hx.2 (List.mem_cons_of_mem _ hxm)) with h1 | h1
      · have := hm'.1 x hxm; omega
      · exact h1
theorem setsTo_all {h : Hul} (hv : h.Valid) : setsTo (h.truths h.every) (2 ^ h.n) = h.setsL := by
  refine sorted_ext (setsTo_lt _ _) ?_ fun x => ?_
  · exact Rak.S_lt (r := ⟨h, []⟩)
  · rw [setsTo_mem, show x ∈ h.setsL ↔ _ from Rak.mem_S (r := ⟨h, []⟩)]
    constructor
    · rintro ⟨_, h2⟩; exact h2
    · rintro ⟨t, ht, rfl⟩
      have hl := (truths_in hv ht).1
      have := bits_lt (fun i => decide (0 < ofL t i)) t.length
      rw [hl] at this
      refine ⟨⟨?_, ?_⟩, t, ht, rfl⟩
      · unfold leaksT; rw [hl]; exact this.1
      · unfold leaksT; rw [hl]; simpa using this.2


end Go.Cw
end

/- Rake, the reference: is a rake valid; what agrees; the errors; Known. -/
section
set_option maxRecDepth 100000
set_option linter.unusedSimpArgs false
namespace Go.Cw
open Go Go.Proofs

theorem ref03_in_ok (n lo hi : Int) : APure Pg fn_ref03_in [.int .i64 n, .int .i64 lo, .int .i64 hi] (.bool (decide (lo ≤ n ∧ n ≤ hi))) := by
  refine ref03_in.pure (by simp) ?_
  by_cases h : lo ≤ n <;> simp [h] <;> refine RetV.refl ?_ <;> simp_all
theorem ref03_Rake_ok (r : Rak) (hs : r.Small) : APure Pg fn_ref03_Rake [r.v] (.bool (decide r.Valid)) := by
  have hf40 := hs.f
  have hs40 := hs.h.s
  have cH := ref01_Hull_ok r.h hs.h
  have nv : ¬ r.Valid → decide r.Valid = false := fun h => by simp [h]
  refine ref03_Rake.pure (by simp) ?_
  simp
  intro s1
  refine PCallK.intro (PInv.func (first := []) (cap := []) (args := [r.h.v]) cH) ?_
  by_cases hh : ¬ r.h.Valid
  · simp [hh]
    exact RetV.refl (by simp [show ¬ r.Valid from fun v => hh v.h])
  replace hh := Classical.not_not.1 hh
  by_cases hn : ¬ r.f.length = r.h.seams.length
  · have hn' : ¬ (r.f.length : Int) = r.h.seams.length := by omega
    simp [hh, hn, hn']
    exact RetV.refl (by simp [show ¬ r.Valid from fun v => hn v.len])
  replace hn := Classical.not_not.1 hn
  simp [hh, hn]
  refine Lp.intro (σ := Nat) (inv := fun k => k ≤ r.f.length ∧ ∀ j x, j < k → r.f[j]? = some x → 1 ≤ x ∧ x ≤ 20) (vw := fun k => [(1, .ptr 1 0 (s1+1)), (3, .int .i64 k)]) (hp := fun _ => [(1, .row r.cells (s1+1))]) (ms := fun k => r.f.length - k) 0 (by simp) (by simp) (by simp [Rak.cells]) ?_
  rintro k ⟨hk, inv⟩ J hJ
  by_cases hkc : k < r.f.length
  · obtain ⟨x, hx⟩ : ∃ x, r.f[k] = x := ⟨_, rfl⟩
    simp [hkc, hx, Rak.cells]
    refine PCallK.intro (PInv.func (ref03_in_ok x 1 20)) ?_
    by_cases hxb : 1 ≤ x ∧ x ≤ 20
    · simp [hxb]
      (repeat first | refine And.intro (by omega) ?_ | refine And.intro (Fits.of (by omega) (by omega)) ?_)
      refine hJ.next (k + 1) ⟨by omega, fun j y hj hy => ?_⟩ (by omega) (by simp) (by simp [Rak.cells])
      by_cases e : j = k
      · subst e
        obtain rfl : x = y := by simpa [hkc, hx] using hy
        exact hxb
      · exact inv j y (by omega) hy
    · simp [hxb]
      refine hJ.ret ?_
      simp
      refine RetV.refl ?_
      have : ¬ r.Valid := fun v => hxb (v.fa x (by rw [← hx]; simp))
      simp [this]
  obtain rfl : k = r.f.length := by omega
  simp [Rak.cells]
  refine hJ.exit ?_
  simp
  have : r.Valid := ⟨hh, hn, fun x hx => by
    obtain ⟨j, hj, e⟩ := List.getElem_of_mem hx
    exact inv j x hj (by rw [← e]; simp)⟩
  exact RetV.refl (by simp [this])




end Go.Cw
end

/- Rake, the reference: the best seam; Next, Worst, Any. -/
section
set_option maxRecDepth 100000
set_option linter.unusedSimpArgs false
namespace Go.Cw
open Go Go.Proofs

namespace Rk
/-- The best of the seams below a number. -/
def bestTo (n : Nat) (q : Int) (g : Nat → Int) (k : Nat) : Option (Nat × Int) := bestR g ((un n q).filter fun i => decide (i < k))
theorem bestTo_zero (n : Nat) (q : Int) (g : Nat → Int) : bestTo n q g 0 = none := by
  unfold bestTo; rw [List.filter_eq_nil_iff.2 (by simp)]; rfl
theorem bestTo_all (n : Nat) (q : Int) (g : Nat → Int) : bestTo n q g n = bestR g (un n q) := by
  unfold bestTo; rw [List.filter_eq_self.2 fun i hi => by simpa using (mem_un.1 hi).1]
theorem bestTo_succ {n : Nat} {q : Int} {g : Nat → Int} {k : Nat} (hk : k < n) : bestTo n q g (k + 1) = if inS q k then bestTo n q g k else betR g (bestTo n q g k) k := by
  have hpush : (un n q).filter (fun i => decide (i < k + 1)) = (un n q).filter (fun i => decide (i < k)) ++ if inS q k then [] else [k] := by
    unfold un
    rw [List.filter_filter, List.filter_filter]
    have e : ∀ m : Nat, m ≤ n → (List.range n).filter (fun i => decide (i < m) && !inS q i) = (List.range m).filter (fun i => !inS q i) := by
      intro m hm
      obtain ⟨d, rfl⟩ := Nat.exists_eq_add_of_le hm
      have e1 : (List.range m).filter (fun i => decide (i < m) && !inS q i) = (List.range m).filter (fun i => !inS q i) := List.filter_congr fun i hi => by simp [List.mem_range.1 hi]
      have e2 : ((List.range d).map (m + ·)).filter (fun i => decide (i < m) && !inS q i) = [] := List.filter_eq_nil_iff.2 fun i hi => by
        obtain ⟨x, _, rfl⟩ := List.mem_map.1 hi
        simp
        intro h; omega
      rw [List.range_add, List.filter_append, e1, e2, List.append_nil]
    rw [e (k + 1) (by omega), e k (by omega), List.range_succ, List.filter_append]
    cases h : inS q k <;> simp [h]
  unfold bestTo
  rw [hpush]
  cases h : inS q k
  · simp only [Bool.false_eq_true, if_false]
    rw [bestR_push]
  · simp
/-- The best so far, as the reference keeps it. -/
def leastV : Option (Nat × Int) → Int
  | none => -1
  | some b => b.2
end Rk







theorem Rak.zero_head {r : Rak} (hv : r.Valid) {x : Int} (hx : r.S.head? = some x) : (0 : Int) ∈ r.S ↔ x = 0 := by
  cases hS : r.S with
  | nil => rw [hS] at hx; cases hx
  | cons a l =>
    rw [hS] at hx
    obtain rfl : a = x := by simpa using hx
    have h1 := Rak.S_lt (r := r)
    rw [hS, List.pairwise_cons] at h1
    have h2 := Rak.S_in hv a (by rw [hS]; simp)
    constructor
    · intro h
      rcases List.mem_cons.1 h with h | h
      · exact h.symm
      · have := h1.1 0 h; omega
    · rintro rfl; simp

end Go.Cw
end

/- Rake, the reference: orders, what they cost. -/
section
set_option maxRecDepth 100000
set_option linter.unusedSimpArgs false
namespace Go.Cw
open Go Go.Proofs

theorem ref03_IsOrder_ok (r : Rak) (hs : r.Small) (o : List Int) (ho : o.length ≤ 40) : APure Pg fn_ref03_IsOrder [r.v, L o] (.bool (decide (Rk.IsOrd r.n o))) := by
  have hf40 := hs.f
  have hfn : r.f.length = r.n := rfl
  refine ref03_IsOrder.pure (by simp) ?_
  simp
  intro s2
  refine Lp.intro (σ := Nat) (inv := fun k => k ≤ r.n ∧ ∀ i, i < k → o.count (i : Int) = 1) (vw := fun k => [(1, L o), (2, .ptr 2 0 (s2+1)), (5, .int .i64 k)]) (hp := fun _ => [(2, .row r.cells (s2+1))]) (ms := fun k => r.n - k) 0 ⟨by omega, fun i h => by omega⟩ (by simp) (by simp [Rak.cells]) ?_
  rintro k ⟨hk, inv⟩ J hJ
  by_cases hkc : k < r.n
  · have hkl : k < r.f.length := hkc
    simp [hkl, Rak.cells]
    refine Lp.intro (σ := Nat) (inv := fun j => j ≤ o.length) (vw := fun j => [(1, L o), (2, .ptr 2 0 (s2+1)), (5, .int .i64 k), (6, .int .i64 ((o.take j).count (k : Int) : Nat)), (7, .int .i64 j)]) (hp := fun _ => [(2, .row r.cells (s2+1))]) (ms := fun j => o.length - j) 0 (by simp) (by simp) (by simp [Rak.cells]) ?_
    intro j hj J2 hJ2
    have hcl : (o.take j).count (k : Int) ≤ j := Nat.le_trans List.count_le_length (by simp; omega)
    by_cases hjc : j < o.length
    · obtain ⟨x, hx⟩ : ∃ x, o[j] = x := ⟨_, rfl⟩
      have hst : (o.take (j + 1)).count (k : Int) = (o.take j).count (k : Int) + if x = (k : Int) then 1 else 0 := by
        rw [← List.take_append_getElem hjc, List.count_append, hx, List.count_singleton]
        simp
      by_cases hxk : x = (k : Int)
      · rw [if_pos hxk] at hst
        simp [hjc, hx, hxk]
        (repeat first | refine And.intro (by omega) ?_ | refine And.intro (Fits.of (by omega) (by omega)) ?_)
        exact hJ2.next (j + 1) (by omega) (by omega) (by simp [hst]) (by simp [Rak.cells])
      · rw [if_neg hxk] at hst
        simp [hjc, hx, hxk]
        (repeat first | refine And.intro (by omega) ?_ | refine And.intro (Fits.of (by omega) (by omega)) ?_)
        exact hJ2.next (j + 1) (by omega) (by omega) (by simp [hst]) (by simp [Rak.cells])
    obtain rfl : j = o.length := by omega
    simp
    refine hJ2.exit ?_
    by_cases h1 : o.count (k : Int) = 1
    · simp [h1]
      (repeat first | refine And.intro (by omega) ?_ | refine And.intro (Fits.of (by omega) (by omega)) ?_)
      refine hJ.next (k + 1) ⟨by omega, fun i hi => ?_⟩ (by omega) (by simp) (by simp [Rak.cells])
      by_cases e : i = k
      · subst e; exact h1
      · exact inv i (by omega)
    · simp [show ¬ ((o.count (k : Int) : Nat) : Int) = 1 by omega]
      refine hJ.ret ?_
      simp
      refine RetV.refl ?_
      have : ¬ Rk.IsOrd r.n o := fun h => h1 ((Rk.ord_count h.1).1 h k hkc)
      simp [this]
  obtain rfl : k = r.n := by omega
  simp [Rak.cells, hfn]
  refine hJ.exit ?_
  simp [hfn]
  refine RetV.refl ?_
  refine congrArg (fun b => AEnd.ret (AVal.bool b)) ?_
  rw [Bool.eq_iff_iff, decide_eq_true_eq, decide_eq_true_eq]
  constructor
  · intro h
    have hl : o.length = r.n := by omega
    exact (Rk.ord_count hl).2 inv
  · intro h
    have := h.1
    omega

theorem Rak.ask_set {r : Rak} (hv : r.Valid) {o : List Int} {s : Int} : r.Ask o s ↔ Rk.IsOrd r.n o ∧ r.h.Set s := by
  unfold Rak.Ask Hul.Set
  rw [show r.n = r.h.n from hv.len]

end Go.Cw
end

/- Rake, the reference: all orders. -/
section
set_option maxRecDepth 100000
set_option linter.unusedSimpArgs false
namespace Go.Cw
open Go Go.Proofs

namespace Rk
theorem flat_len {α β : Type} {g : α → List β} {m : Nat} : ∀ {l : List α}, (∀ i ∈ l, (g i).length ≤ m) → (l.flatMap g).length ≤ l.length * m
  | [], _ => by simp
  | a :: l, h => by
    have h1 := h a (by simp)
    have h2 := flat_len (l := l) fun i hi => h i (by simp [hi])
    rw [List.flatMap_cons, List.length_append, List.length_cons, Nat.succ_mul]
    omega
theorem ords_len (n : Nat) : ∀ (k : Nat) (b : List Nat), (ords n k b).length ≤ n ^ k
  | 0, b => by simp [ords]
  | k + 1, b => by
    simp only [ords]
    have h1 := flat_len (l := fr n b) (g := fun i => ords n k (b ++ [i])) (m := n ^ k) fun i _ => ords_len n k (b ++ [i])
    have h2 : (fr n b).length ≤ n := Nat.le_trans (List.length_filter_le _ _) (by simp)
    have h3 := Nat.mul_le_mul_right (n ^ k) h2
    rw [Nat.pow_succ, Nat.mul_comm (n ^ k) n]
    omega
/-- Orders, as lists of numbers. -/
def oL (l : List (List Nat)) : List (List Int) := l.map toI
theorem oL_append (a b : List (List Nat)) : oL (a ++ b) = oL a ++ oL b := by simp [oL]
end Rk

end Go.Cw
end

/- Rake, the reference: Order. -/
section
set_option maxRecDepth 100000
set_option linter.unusedSimpArgs false
namespace Go.Cw
open Go Go.Proofs

namespace Rk
def outO : Option (List Nat × Int) → AVal
  | none => .nils
  | some b => L (toI b.1)
def leastO : Option (List Nat × Int) → Int
  | none => -1
  | some b => b.2
end Rk

end Go.Cw
end

/- Rake, the reference: Enough. -/
section
set_option maxRecDepth 100000
set_option linter.unusedSimpArgs false
namespace Go.Cw
open Go Go.Proofs

namespace Rk
/-- Do two sets differ, at the first so many seams of a set? -/
def difB (q a b : Int) (k : Nat) : Bool := (List.range k).any fun i => inS q i && (inS a i != inS b i)
theorem difB_succ (q a b : Int) (k : Nat) : difB q a b (k + 1) = (difB q a b k || (inS q k && (inS a k != inS b k))) := by
  unfold difB; rw [List.range_succ, List.any_append]; simp
theorem difB_same {n : Nat} (hn : n ≤ 6) {q a b : Int} (hq : 0 ≤ q ∧ q < 2 ^ n) : difB q a b 6 = !same n q b a := by
  rw [Bool.eq_iff_iff, Bool.not_eq_true', ← Bool.not_eq_true, same_iff]
  unfold difB
  rw [List.any_eq_true]
  constructor
  · rintro ⟨i, hi, h⟩ hs
    rw [Bool.and_eq_true] at h
    by_cases hin : i < n
    · have := hs i hin h.1
      rw [this] at h
      simp at h
    · rw [inS_big hq (by omega)] at h
      simp at h
  · intro h
    refine Classical.byContradiction fun hc => h fun i hi hqi => ?_
    refine Classical.byContradiction fun hab => hc ⟨i, by simp; omega, ?_⟩
    rw [hqi]
    simp
    exact fun e => hab e.symm
end Rk



end Go.Cw
end

/- Rake: what the document fixes of its example is met; which rakes a law goes through. -/
section
set_option maxRecDepth 100000
set_option linter.unusedSimpArgs false
namespace Go.Cw
open Go Go.Proofs

/-- The document's example. -/
def rsm : Rak := ⟨⟨[⟨2, 0, 3⟩, ⟨5, -1, 2⟩, ⟨5, 1, 4⟩], [⟨3, 0, 1, 2⟩, ⟨6, 0, 4, 4⟩]⟩, [4, 3, 5]⟩
theorem rsm_small : rsm.Small := ⟨⟨by simp [rsm], by simp [rsm]⟩, by simp [rsm]⟩
theorem rsm_valid : rsm.Valid := ⟨⟨by simp [rsm, Hul.n], by simp [rsm, Hul.n], by simp [rsm, Hul.k], by decide, by decide⟩, by simp [rsm, Hul.n], by decide⟩
theorem rsm_S : rsm.S = [3, 5, 7] := by
  have h : rsm.h.truths rsm.h.every = [[1, 0, 3], [1, 1, 2], [1, 2, 1], [2, 0, 2], [2, 1, 1], [2, 2, 0]] := by decide +kernel
  unfold Rak.S Hul.setsL
  rw [h]
  exact sortI_eq (by decide +kernel) (by unfold SortedI; decide +kernel)
theorem rsm_n : rsm.n = 3 := rfl
theorem rsm_F : rsm.F = ofL [4, 3, 5] := rfl
def rsmE (l : List (Int × Bool)) (is : Bool) : Int := if (∀ x ∈ l, 0 ≤ x.1 ∧ x.1 < ((3 : Nat) : Int)) ∧ is = true then (if (l.map Prod.fst).Nodup then (if Rk.agF [3, 5, 7] l = [] then 10 else 0) else 5) else 2
theorem rsm_err (l : List (Int × Bool)) (is : Bool) : rsm.errE l is = rsmE l is := by
  unfold Rak.errE rsmE
  rw [if_pos rsm_valid, rsm_S]
  rfl
theorem rsm_known (l : List (Int × Bool)) {X : List Int} {e : Int} (h : ((if rsmE l true = 0 then Rk.agF [3, 5, 7] l else []), rsmE l true) = (X, e)) : rsm.knownV l = .tup [L X, .int .i64 e] := by
  rw [Prod.mk.injEq] at h
  unfold Rak.knownV
  rw [rsm_err, rsm_S, h.1, h.2]
theorem rsm_next (l : List (Int × Bool)) {a : Nat} {b e : Int} (h : (if rsmE l true = 0 then (if (Rk.agF [3, 5, 7] l).length ≤ 1 then (0, 0, 4) else ((Rk.planQ 3 (ofL [4, 3, 5]) false (Rk.agF [3, 5, 7] l) (Rk.fq l)).1, (Rk.planQ 3 (ofL [4, 3, 5]) false (Rk.agF [3, 5, 7] l) (Rk.fq l)).2, 0)) else (0, 0, rsmE l true)) = ((a, b, e) : Nat × Int × Int)) : rsm.nextV l = .tup [.int .i64 a, .int .i64 b, .int .i64 e] := by
  have : rsm.nextP l = (a, b, e) := by
    rw [← h]
    unfold Rak.nextP
    rw [rsm_err, rsm_S, rsm_n, rsm_F]
  unfold Rak.nextV
  rw [this]
theorem rsm_worst : rsm.worstV = .tup [.int .i64 8, .int .i64 0] := by
  unfold Rak.worstV
  rw [rsm_err, rsm_S, rsm_n, rsm_F, show rsmE [] true = 0 by decide +kernel, show Rk.planQ 3 (ofL [4, 3, 5]) false [3, 5, 7] 0 = (1, 8) by decide +kernel]
  rfl
theorem rsm_any : rsm.anyV = .tup [.int .i64 0, .int .i64 4, .int .i64 0] := by
  unfold Rak.anyV Rak.anyP
  rw [rsm_err, rsm_S, rsm_n, rsm_F, show rsmE [] true = 0 by decide +kernel, show Rk.planQ 3 (ofL [4, 3, 5]) true [3, 5, 7] 0 = (0, 4) by decide +kernel]
  rfl
theorem rsm_ord : rsm.ordV = .tup [L [1, 2, 0], .int .i64 8, .int .i64 0] := by
  unfold Rak.ordV Rak.ordL Rak.ordN
  rw [rsm_err, rsm_S, rsm_n, rsm_F, show rsmE [] true = 0 by decide +kernel, show Rk.ordP 3 (ofL [4, 3, 5]) [3, 5, 7] = ([1, 2, 0], 8) by decide +kernel]
  rfl
theorem rsm_en : rsm.enV = .tup [.int .i64 6, .int .i64 8, .int .i64 0] := by
  unfold Rak.enV
  rw [rsm_err, rsm_S, rsm_n, rsm_F, show rsmE [] true = 0 by decide +kernel, show Rk.enP 3 (ofL [4, 3, 5]) [3, 5, 7] = (6, 8) by decide +kernel]
  rfl
theorem rsm_cost (o : List Int) (s : Int) (ho : Rk.IsOrd 3 o ∧ 0 ≤ s ∧ s < 2 ^ 3) {a e : Int} (h : (if s ∈ [3, 5, 7] then (Rk.costL (ofL [4, 3, 5]) (Rk.toN o) [3, 5, 7] s, 0) else (0, 4)) = ((a, e) : Int × Int)) : rsm.costV o s = .tup [.int .i64 a, .int .i64 e] := by
  have hA : rsm.Ask o s := ho
  have : rsm.costP o s = (a, e) := by
    rw [← h]
    unfold Rak.costP
    rw [decide_eq_true hA, rsm_err, rsm_S, rsm_F, show rsmE [] true = 0 by decide +kernel]
    rfl
  unfold Rak.costV
  rw [this]

theorem law03_span_ok (a b : Int) : APure Pg fn_law03_span [.int .i64 a, .int .i64 b] (SP2 (a, b)) := by
  refine law03_span.pure (by simp) ?_
  simp
  intro s
  exact RetV.refl (by simp [SP2])
theorem law03_find_ok (a : Int) (b : Bool) : APure Pg fn_law03_find [.int .i64 a, .bool b] (.agg [.int .i64 a, .bool b]) := by
  refine law03_find.pure (by simp) ?_
  simp
  intro s
  exact RetV.refl (by simp)
theorem law03_ints_ok (a b : List Int) (ha : a.length ≤ 100000) (hb : b.length ≤ 100000) : APure Pg fn_law03_ints [L a, L b] (.bool (decide (a = b))) := by
  refine law03_ints.pure (by simp) ?_
  simp
  refine PCallK.intro (PInv.func (ref01_Ints_ok a b ha hb)) ?_
  simp
  exact RetV.refl rfl
theorem law03_sample_ok : APure Pg fn_law03_sample [] rsm.v := by
  refine law03_sample.pure (by simp) ?_
  simp
  intro s1 s2
  refine PCallK.intro (PInv.func (law03_span_ok _ _)) ?_
  simp [SP2]
  refine PCallK.intro (PInv.func (law03_span_ok _ _)) ?_
  simp [SP2]
  intro s3 s4
  refine RetV.frz 4 rfl (RetV.frz 9 rfl (RetV.frz 11 rfl (RetV.refl ?_)))
  simp [rsm, LS, LD, sms, sds, fl, Sm.c, Sd.c, L, ints]
theorem law03_alive_ok : APure Pg fn_law03_alive [] (.bool true) := by
  refine law03_alive.pure (by simp) ?_
  simp
  refine PCallK.intro (PInv.func law03_sample_ok) ?_
  simp
  refine PCallK.intro (PInv.func (law03_find_ok 1 true)) ?_
  simp
  intro s1
  refine FCall.frz1 22 rfl (v := .tup [L [3, 7], .int .i64 0]) ?_ trivial ?_
  · have := rake_Known_ok rsm rsm_small [(1, true)] (by simp)
    rw [rsm_known [(1, true)] (X := [3, 7]) (e := 0) (by decide +kernel)] at this
    simpa [LK, fds, fl, fdC] using PInv.func (first := []) (cap := []) (args := [rsm.v, LK [(1, true)]]) this
  simp
  refine PCallK.intro (PInv.func law03_sample_ok) ?_
  simp
  refine PCallK.intro (v := .tup [.int .i64 1, .int .i64 8, .int .i64 0]) (fun hh => AInvoke.ale (ALe.refl _) (args' := [rsm.v, LK []]) ⟨ALe.refl _, ALe.nils_vl, trivial⟩ (PInv.func (first := []) (cap := []) (args := [rsm.v, LK []]) (by
    have := rake_Next_ok rsm rsm_small [] (by simp)
    rw [rsm_next [] (a := 1) (b := 8) (e := 0) (by decide +kernel)] at this
    exact this) hh)) ?_
  simp
  refine PCallK.intro (PInv.func law03_sample_ok) ?_
  simp
  refine PCallK.intro (PInv.func (first := []) (cap := []) (args := [rsm.v]) (rake_Worst_ok rsm rsm_small)) ?_
  rw [rsm_worst]
  simp
  refine PCallK.intro (PInv.func law03_sample_ok) ?_
  simp
  intro s2
  refine FCall.frz1 39 rfl (v := .tup [.int .i64 3, .int .i64 0]) ?_ trivial ?_
  · have := rake_Cost_ok rsm rsm_small [1, 2, 0] (by simp) 5
    rw [rsm_cost [1, 2, 0] 5 (by decide +kernel) (a := 3) (e := 0) (by decide +kernel)] at this
    simpa [L] using PInv.func (first := []) (cap := []) (args := [rsm.v, L [1, 2, 0], .int .i64 5]) this
  simp
  refine PCallK.intro (PInv.func law03_sample_ok) ?_
  simp
  refine PCallK.intro (PInv.func (first := []) (cap := []) (args := [rsm.v]) (rake_Order_ok rsm rsm_small)) ?_
  rw [rsm_ord]
  simp
  refine PCallK.intro (PInv.func law03_sample_ok) ?_
  simp
  refine PCallK.intro (PInv.func (first := []) (cap := []) (args := [rsm.v]) (rake_Enough_ok rsm rsm_small)) ?_
  rw [rsm_en]
  simp
  refine PCallK.intro (PInv.func law03_sample_ok) ?_
  simp
  refine PCallK.intro (PInv.func (first := []) (cap := []) (args := [rsm.v]) (rake_Any_ok rsm rsm_small)) ?_
  rw [rsm_any]
  simp
  intro s3
  refine FCall.frz1 62 rfl (v := .bool true) ?_ trivial ?_
  · simpa [L] using PInv.func (first := []) (cap := []) (args := [L [3, 7], L [3, 7]]) (law03_ints_ok [3, 7] [3, 7] (by simp) (by simp))
  simp
  intro s4
  refine FCall.frz1 98 rfl (v := .bool true) ?_ trivial ?_
  · simpa [L] using PInv.func (first := []) (cap := []) (args := [L [1, 2, 0], L [1, 2, 0]]) (law03_ints_ok [1, 2, 0] [1, 2, 0] (by simp) (by simp))
  simp
  exact RetV.refl rfl
/-- How long the longest list is. -/
def Rak.many (r : Rak) (l : List (Int × Bool)) (ls : List (List Int)) : Int := ls.foldl (fun m x => max m (x.length : Int)) (max (max (max (r.h.seams.length : Int) (r.h.snds.length : Int)) (r.f.length : Int)) (l.length : Int))
def Rak.longB (r : Rak) (l : List (Int × Bool)) (ls : List (List Int)) : Bool := decide (40 < r.many l ls)
theorem Rak.many_push (r : Rak) (l : List (Int × Bool)) (ls : List (List Int)) (x : List Int) : r.many l (ls ++ [x]) = max (r.many l ls) (x.length : Int) := by simp [Rak.many]
theorem Rak.many_le {r : Rak} {l : List (Int × Bool)} (ls : List (List Int)) : r.h.seams.length ≤ r.many l ls ∧ r.h.snds.length ≤ r.many l ls ∧ r.f.length ≤ r.many l ls ∧ l.length ≤ r.many l ls ∧ ∀ x ∈ ls, (x.length : Int) ≤ r.many l ls := by
  induction ls using Rk.push_ind with
  | h0 => simp [Rak.many]; omega
  | h1 ls x ih =>
    rw [Rak.many_push]
    obtain ⟨a, b, c, d, e⟩ := ih
    refine ⟨by omega, by omega, by omega, by omega, fun y hy => ?_⟩
    rcases List.mem_append.1 hy with h | h
    · have := e y h; omega
    · simp at h; subst h; omega
theorem Rak.short {r : Rak} {l : List (Int × Bool)} {ls : List (List Int)} (h : r.longB l ls = false) : r.Small ∧ l.length ≤ 40 ∧ ∀ x ∈ ls, x.length ≤ 40 := by
  unfold Rak.longB at h
  rw [decide_eq_false_iff_not] at h
  obtain ⟨a, b, c, d, e⟩ := Rak.many_le (r := r) (l := l) ls
  exact ⟨⟨⟨by omega, by omega⟩, by omega⟩, by omega, fun x hx => by have := e x hx; omega⟩
theorem law03_long_ok (r : Rak) (l : List (Int × Bool)) (ls : List (List Int)) (hls : ls.length ≤ 10) : APure Pg fn_law03_long [r.v, LK l, LLv ls] (.bool (r.longB l ls)) := by
  refine law03_long.pure (by simp) ?_
  simp
  intro s3
  refine Lp.intro (σ := Nat) (inv := fun k => k ≤ ls.length) (vw := fun k => [(7, .int .i64 (r.many l (ls.take k))), (24, LLv ls), (25, .int .i64 ls.length), (26, .int .i64 k)]) (hp := fun _ => []) (ms := fun k => ls.length - k) 0 (by simp) (by simp [Rak.many]) (by simp) ?_
  intro k hk J hJ
  by_cases hkc : k < ls.length
  · obtain ⟨x, hx⟩ : ∃ x, ls[k] = x := ⟨_, rfl⟩
    have hst : r.many l (ls.take (k + 1)) = max (r.many l (ls.take k)) (x.length : Int) := by rw [← List.take_append_getElem hkc, hx, Rak.many_push]
    have hget : ls[k]? = some x := by rw [List.getElem?_eq_getElem hkc, hx]
    simp [hkc, hget, hx, ← hst]
    (repeat first | refine And.intro (by omega) ?_ | refine And.intro (Fits.of (by omega) (by omega)) ?_)
    exact hJ.next (k + 1) (by omega) (by omega) (by simp) (by simp)
  obtain rfl : k = ls.length := by omega
  simp
  refine hJ.exit ?_
  simp
  exact RetV.refl (by simp [Rak.longB])
theorem law03_long0 (r : Rak) (l : List (Int × Bool)) : PInv Pg (.func (.func fn_law03_long) [] []) [r.v, LK l, .nils] (.bool (r.longB l [])) := fun hh =>
  AInvoke.ale (ALe.refl _) (args' := [r.v, LK l, LLv []]) ⟨ALe.refl _, ALe.refl _, ALe.nils_vl, trivial⟩ (PInv.func (first := []) (cap := []) (args := [r.v, LK l, LLv []]) (law03_long_ok r l [] (by simp)) hh)
theorem law03_long00 (r : Rak) : PInv Pg (.func (.func fn_law03_long) [] []) [r.v, .nils, .nils] (.bool (r.longB [] [])) := fun hh =>
  AInvoke.ale (ALe.refl _) (args' := [r.v, LK [], .nils]) ⟨ALe.refl _, ALe.nils_vl, ALe.refl _, trivial⟩ (law03_long0 r [] hh)
noncomputable def Rak.heavyB (r : Rak) (n : Int) (l : List (Int × Bool)) (ls : List (List Int)) : Bool := if r.longB l ls then true else if r.Valid then decide (n < (r.n : Int)) else false

theorem Rak.light {r : Rak} {n : Int} {l : List (Int × Bool)} {ls : List (List Int)} (h : r.heavyB n l ls = false) : r.longB l ls = false := by
  unfold Rak.heavyB at h
  split at h
  · cases h
  · rename_i hl; simpa using hl
end Go.Cw
end

/- The laws RakeTells, RakeOrders, RakeNames. -/
section
set_option maxRecDepth 100000
set_option linter.unusedSimpArgs false
namespace Go.Cw
open Go Go.Proofs

theorem Rak.known_len {r : Rak} (l : List (Int × Bool)) : (if r.errE l true = 0 then Rk.agF r.S l else []).length ≤ 100000 := by
  split
  · rename_i h
    have h1 := Rak.S_len (Rak.errE_zero.1 h).1
    have h2 := (Rk.agF_sub r.S l).length_le
    omega
  · simp



end Go.Cw
end

/- How a rake is read as an argument. -/
section
set_option maxRecDepth 100000
namespace Go.Cw
open Go Go.Proofs

section
variable {w : World} {μ : Mu}

theorem opens_int : Opens Pg w μ 3 fun av => ∃ n, (Lit.int .i64 n).wf = true ∧ av = [.int .i64 n] := Opens.int Tryz.underlying3 (by kernel_rfl)
theorem opens_bool : Opens Pg w μ 4 fun av => ∃ b, av = [.bool b] := Opens.bool Tryz.underlying4 (by kernel_rfl)
theorem opens_ints : Opens Pg w μ 26 fun av => ∃ l : List Int, av = [L l] := Opens.ints Tryz.underlying26 (by kernel_rfl) Tryz.underlying3 (by kernel_rfl)
theorem opens_span : Opens Pg w μ 65 fun av => ∃ p : Int × Int, av = [.int .i64 p.1, .int .i64 p.2] := by
  refine (Opens.struct (Vs := [_, _]) Tryz.underlying65 (by kernel_rfl) ⟨rfl, opens_int, by kernel_rfl, opens_int, trivial⟩).mono ?_
  rintro av ⟨ass, h, rfl⟩
  obtain ⟨a, b, rfl, ⟨n, _, rfl⟩, ⟨m, _, rfl⟩⟩ := h.two
  exact ⟨(n, m), rfl⟩
theorem opens_seam : Opens Pg w μ 118 fun av => ∃ a : Sm, av = a.c := by
  refine (Opens.struct (Vs := [_, _, _]) Tryz.underlying118 (by kernel_rfl) ⟨rfl, opens_int, by kernel_rfl, opens_int, by kernel_rfl, opens_int, trivial⟩).mono ?_
  rintro av ⟨ass, h, rfl⟩
  obtain ⟨a, b, c, rfl, ⟨n, _, rfl⟩, ⟨m, _, rfl⟩, ⟨k, _, rfl⟩⟩ := h.three
  exact ⟨⟨n, m, k⟩, rfl⟩
theorem opens_sounding : Opens Pg w μ 67 fun av => ∃ a : Sd, av = a.c := by
  refine (Opens.struct (Vs := [_, _, _]) Tryz.underlying67 (by kernel_rfl) ⟨rfl, opens_int, by kernel_rfl, opens_int, by kernel_rfl, opens_span, trivial⟩).mono ?_
  rintro av ⟨ass, h, rfl⟩
  obtain ⟨a, b, c, rfl, ⟨n, _, rfl⟩, ⟨m, _, rfl⟩, ⟨p, rfl⟩⟩ := h.three
  exact ⟨⟨n, m, p.1, p.2⟩, rfl⟩
theorem c118 : 0 < Pg.cellsOf 118 := by rw [show Pg.cellsOf 118 = 3 by kernel_rfl]; omega
theorem c67 : 0 < Pg.cellsOf 67 := by rw [show Pg.cellsOf 67 = 4 by kernel_rfl]; omega
theorem opens_hull : Opens Pg w μ 25 fun av => ∃ h : Hul, av = h.cells := by
  refine (Opens.struct (Vs := [_, _]) Tryz.underlying25 (by kernel_rfl) ⟨rfl, Opens.fl Tryz.underlying22 (by kernel_rfl) c118 opens_seam, by kernel_rfl, Opens.fl Tryz.underlying23 (by kernel_rfl) c67 opens_sounding, trivial⟩).mono ?_
  rintro av ⟨ass, h, rfl⟩
  obtain ⟨a, b, rfl, ⟨n, rfl⟩, ⟨m, rfl⟩⟩ := h.two
  exact ⟨⟨n, m⟩, rfl⟩
theorem opens_find : Opens Pg w μ 48 fun av => ∃ a : Int × Bool, av = fdC a := by
  refine (Opens.struct (Vs := [_, _]) Tryz.underlying48 (by kernel_rfl) ⟨rfl, opens_int, by kernel_rfl, opens_bool, trivial⟩).mono ?_
  rintro av ⟨ass, h, rfl⟩
  obtain ⟨a, b, rfl, ⟨n, _, rfl⟩, ⟨m, rfl⟩⟩ := h.two
  exact ⟨(n, m), rfl⟩
theorem c48 : 0 < Pg.cellsOf 48 := by rw [show Pg.cellsOf 48 = 2 by kernel_rfl]; omega
theorem opens_finds : Opens Pg w μ 29 fun av => ∃ l : List (Int × Bool), av = [LK l] := Opens.fl Tryz.underlying29 (by kernel_rfl) c48 opens_find
theorem opens_rake : Opens Pg w μ 28 fun av => ∃ r : Rak, av = r.cells := by
  refine (Opens.struct (Vs := [_, _]) Tryz.underlying28 (by kernel_rfl) ⟨rfl, opens_hull, by kernel_rfl, opens_ints, trivial⟩).mono ?_
  rintro av ⟨ass, h, rfl⟩
  obtain ⟨a, b, rfl, ⟨n, rfl⟩, ⟨m, rfl⟩⟩ := h.two
  exact ⟨⟨n, m⟩, rfl⟩
theorem opens_u8 : Opens Pg w μ 5 fun av => ∃ n : Int, (0 ≤ n ∧ n ≤ 255) ∧ av = [.int .u8 n] :=
  (Opens.int Tryz.underlying5 (by kernel_rfl)).mono fun av ⟨n, h1, h2⟩ => ⟨n, bounds_u8 h1, h2⟩
end

theorem kids : Kids Pg (· < Pg.types.size) := kids_rows (by kernel_rfl) (by kernel_rfl)
theorem slices_full : ∀ t e, t < Pg.types.size → Pg.underlying t = some (.slice e) → 0 < Pg.cellsOf e := slices_full_of Pg (by kernel_rfl)
theorem ownKnobNone : ownKnob Pg.godebug = none := by kernel_rfl

end Go.Cw
end

/- What is found if a seam is raked; the law RakeEnough. -/
section
set_option maxRecDepth 100000
set_option linter.unusedSimpArgs false
namespace Go.Cw
open Go Go.Proofs

theorem law03_finding_ok (i : Nat) (hi : i ≤ 60) (s : Int) (hs : 0 ≤ s ∧ s < 2 ^ 62) : APure Pg fn_law03_finding [.int .i64 i, .int .i64 s] (.agg [.int .i64 i, .bool (inS s i)]) := by
  have hdv : 0 ≤ s / 2 ^ i := Int.ediv_nonneg hs.1 (by have := two_pow_pos i; omega)
  have hand := bitI_and1 hdv (by have := Int.ediv_le_self (2 ^ i) hs.1; omega)
  refine law03_finding.pure (by simp) ?_
  simp [hand]
  intro s4
  refine ⟨by omega, ?_⟩
  refine PCallK.intro (PInv.func (law03_find_ok i (decide (s / 2 ^ i % 2 = 1)))) ?_
  simp
  exact RetV.refl rfl
theorem Sl.toV {n : Nat} {K : KT} {tm : TM} {df : DF} {h : Heap} (l : List (Nat × AVal)) (k : List (Nat × AObj)) (en : Sl n (fun tm' df' h' => df' = df ∧ Vw l tm' ∧ Hw k h') tm df h) (hK : K (tmV l) df (hpV k)) : Sl n K tm df h := by
  obtain ⟨tm₁, df₁, h₁, a, rfl, hv, hh⟩ := en
  exact ⟨_, _, _, a.trans (SLe.view hv hh), hK⟩
/-- A list that has grown becomes a value, by a temporary. -/
theorem Sl.gSt {n : Nat} {K : KT} {tm : TM} {df : DF} {h : Heap} (t nm : Nat) {cells : List AVal} {m s esz : Nat} (ht : tm t = gS esz nm m s) (hr : h nm = gO m cells s)
    (k0 : m = 0 → Sl n K (upd tm t (.vl 0 [])) df h) (k1 : m ≠ 0 → Sl n K (frzT nm s cells tm) df (upd h nm .dead)) : Sl n K tm df h := by
  by_cases h0 : m = 0
  · exact Sl.wk t (.vl 0 []) (by rw [ht, gS, if_pos h0]; exact ALe.es_vl) (k0 h0)
  · exact Sl.frz nm (by rw [hr, gO, if_neg h0]) (k1 h0)
namespace Rak
variable {r : Rak}
theorem S_small (hv : r.Valid) {s : Int} (hs : s ∈ r.S) : 0 ≤ s ∧ s < 64 := by
  have h1 := S_in hv s hs
  have h2 := two_pow_le hv.n6
  have e6 : (2 : Int) ^ 6 = 64 := by decide
  omega
/-- What is told of findings that a set agrees with. -/
theorem errE_mem (hv : r.Valid) {l : List (Int × Bool)} (hf : Rk.Fnd r.n l) {s : Int} (hs : s ∈ Rk.agF r.S l) : r.errE l true = 0 := by
  rw [errE_of hv hf rfl, if_neg]
  intro h; rw [h] at hs; cases hs
theorem knownV_mem (hv : r.Valid) {l : List (Int × Bool)} (hf : Rk.Fnd r.n l) {s : Int} (hs : s ∈ Rk.agF r.S l) : r.knownV l = .tup [L (Rk.agF r.S l), .int .i64 0] := by
  unfold knownV
  rw [errE_mem hv hf hs, if_pos rfl]
theorem self_agF {t : Int} (ht : t ∈ r.S) (n : Nat) (q : Int) : t ∈ Rk.agF r.S (Rk.fnds n q t) := Rk.agF_fnds.2 ⟨ht, Rk.same_refl _ _⟩
theorem fnds_len (n : Nat) (q t : Int) : (Rk.fnds n q t).length ≤ n := by
  unfold Rk.fnds Rk.els
  rw [List.length_map]
  exact Nat.le_trans (List.length_filter_le _ _) (by simp)
end Rak


end Go.Cw
end

/- The law RakeEnough. -/
section
set_option maxRecDepth 100000
set_option linter.unusedSimpArgs false
namespace Go.Cw
open Go Go.Proofs

theorem bitsI_andNot (p q : Nat → Bool) {n : Nat} (hn : n ≤ 60) : bitI .andNot .i64 (bits p n) (bits q n) = bits (fun i => p i && !q i) n := by
  have ha := natB_lt62 p hn
  have hb := natB_lt62 q hn
  have hc := natB_lt62 (fun i => p i && !q i) hn
  rw [bits_natB, bits_natB, bits_natB]
  have key : (BitVec.ofNat 64 (natB p n) &&& ~~~(BitVec.ofNat 64 (natB q n))).toNat = natB (fun i => p i && !q i) n := by
    apply Nat.eq_of_testBit_eq
    intro i
    rw [← BitVec.getLsbD, BitVec.getLsbD_and, BitVec.getLsbD_not, BitVec.getLsbD_ofNat, BitVec.getLsbD_ofNat, natB_bit, natB_bit, natB_bit]
    by_cases hi : i < n
    · have : i < 64 := by omega
      simp [hi, this]
    · simp [hi]
  show IntKind.i64.wrap (Int.ofNat (BitVec.ofInt 64 (natB p n : Nat) &&& ~~~(BitVec.ofInt 64 (natB q n : Nat))).toNat) = _
  rw [BitVec.ofInt_natCast, BitVec.ofInt_natCast, key]
  have hh : ((natB (fun i => p i && !q i) n : Nat) : Int) < 2 ^ 62 := by exact_mod_cast hc
  simp [IntKind.wrap, IntKind.signed, IntKind.bits]
  omega
namespace Rk
theorem bits_self {n : Nat} {q : Int} (hq : 0 ≤ q ∧ q < 2 ^ n) : bits (inS q) n = q := bits_of hq.1 hq.2
theorem bits_all1 (n : Nat) : bits (fun _ => true) n = 2 ^ n - 1 := by
  induction n with
  | zero => rfl
  | succ n ih => simp only [bits, ih, if_true]; rw [Int.pow_succ]; omega
/-- A set among all seams. -/
theorem and_every {m : Int} (hm : 0 ≤ m ∧ m < 2 ^ 60) {n : Nat} (hn : n ≤ 60) : ∃ o, bitI .and .i64 m (2 ^ n - 1) = o ∧ (0 ≤ o ∧ o < 2 ^ n) ∧ ∀ i, i < n → inS o i = inS m i := by
  have h2 : (2 : Int) ^ n - 1 = bits (fun i => decide (i < n)) 60 := by
    rw [bits_more (n := n) hn fun i h1 h2 => by simpa using h1, bits_congr (q := fun _ => true) fun i hi => by simpa using hi, bits_all1]
  refine ⟨bits (inS m) n, ?_, bits_lt _ _, fun i hi => inS_bits _ hi⟩
  conv => lhs; rw [h2, ← bits_self hm]
  rw [bitsI_and _ _ (by omega), bits_more (n := n) hn fun i h1 h2 => by simp; omega]
  exact bits_congr fun i hi => by simp [hi]
/-- A set without one of its seams. -/
theorem less {n : Nat} (hn : n ≤ 60) {q : Int} (hq : 0 ≤ q ∧ q < 2 ^ n) {i : Nat} (hi : i < n) : ∃ p : Nat, bitI .andNot .i64 q (2 ^ i) = p ∧ p < 2 ^ n ∧ ∀ j, j < n → inS (p : Int) j = (inS q j && !decide (j = i)) := by
  have e1 : bitI .andNot .i64 q (2 ^ i) = bits (fun j => inS q j && !decide (j = i)) n := by
    conv => lhs; rw [← bits_self hq, ← bits_one hi]
    exact bitsI_andNot _ _ hn
  have hb := bits_lt (fun j => inS q j && !decide (j = i)) n
  have hpc := pow_cast n
  obtain ⟨p, hp⟩ : ∃ p : Nat, (p : Int) = bits (fun j => inS q j && !decide (j = i)) n := ⟨_, Int.toNat_of_nonneg hb.1⟩
  refine ⟨p, by rw [e1, hp], by omega, fun j hj => ?_⟩
  rw [hp, inS_bits _ hj]
end Rk
namespace Rak
variable {r : Rak}
theorem errE_nil (hv : r.Valid) : r.errE [] true = if r.S = [] then 10 else 0 := by
  rw [errE_of hv Rk.Fnd.nil rfl, agF_nil]
theorem inS_truth (hv : r.Valid) {t : List Int} (ht : t ∈ r.h.truths r.h.every) {i : Nat} (hi : i < r.n) : inS (leaksT t) i = decide (0 < ofL t i) := by
  have h1 := (truths_in hv.h ht).1
  unfold leaksT
  rw [inS_bits _ (by rw [h1, ← show r.n = r.h.n from hv.len]; exact hi)]
/-- No seam of the sets that tell all surely leaks, or surely does not. -/
theorem en_leaks (hv : r.Valid) : bitI .and .i64 ((Rk.enP r.n r.F r.S).1 : Int) (bits (sureL (r.h.truths r.h.every)) 6) = 0 ∧ bitI .andNot .i64 ((Rk.enP r.n r.F r.S).1 : Int) (bits (canL (r.h.truths r.h.every)) 6) = 0 := by
  have hsp := Rk.enP_spec (n := r.n) (f := r.F) S_nodup (S_in hv)
  have hpc := Rk.pow_cast r.n
  have h2p := two_pow_le hv.n6
  obtain ⟨q, hq⟩ : ∃ q : Int, q = ((Rk.enP r.n r.F r.S).1 : Int) := ⟨_, rfl⟩
  have hqn : 0 ≤ q ∧ q < 2 ^ r.n := by omega
  have hq6 : 0 ≤ q ∧ q < 2 ^ 6 := by omega
  have hop : ∀ i, inS q i = true → i < r.n ∧ ∃ s ∈ r.S, ∃ t ∈ r.S, inS s i = true ∧ inS t i = false := fun i hi => by
    have hin : i < r.n := Nat.lt_of_not_le fun h => by rw [Rk.inS_big hqn h] at hi; cases hi
    rw [hq] at hi
    exact ⟨hin, Rk.en_open (fun i hi => by have := hv.fat hi; unfold F; omega) S_nodup (S_in hv) hin hi⟩
  rw [← hq, ← Rk.bits_self hq6]
  constructor
  · rw [bitsI_and _ _ (by omega), bits_zero]
    intro i _
    cases hi : inS q i with
    | false => rfl
    | true =>
      obtain ⟨hin, _, _, t, ht, _, h2⟩ := hop i hi
      obtain ⟨u, hu, rfl⟩ := mem_S.1 ht
      rw [inS_truth hv hu hin] at h2
      rw [Bool.true_and]
      unfold sureL
      rw [List.all_eq_false]
      exact ⟨u, hu, by simpa using h2⟩
  · rw [bitsI_andNot _ _ (by omega), bits_zero]
    intro i _
    cases hi : inS q i with
    | false => rfl
    | true =>
      obtain ⟨hin, s, hs, _, _, h1, _⟩ := hop i hi
      obtain ⟨u, hu, rfl⟩ := mem_S.1 hs
      rw [inS_truth hv hu hin] at h1
      have : canL (r.h.truths r.h.every) i = true := by
        unfold canL
        rw [List.any_eq_true]
        exact ⟨u, hu, h1⟩
      rw [this]; rfl
end Rak
theorem rake_Known0 (r : Rak) (hs : r.Small) : PInv Pg (.func (.func fn_rake_Known) [] []) [r.v, .nils] (r.knownV []) := fun hh =>
  AInvoke.ale (ALe.refl _) (args' := [r.v, LK []]) ⟨ALe.refl _, ALe.nils_vl, trivial⟩ (PInv.func (first := []) (cap := []) (args := [r.v, LK []]) (rake_Known_ok r hs [] (by simp)) hh)
section
variable {F n₀ : Nat} {inr : Bool} {keep : List Nat} {fa fl : List It} {t : Option Nat} {K : KT} {Q : Post} {tm : TM} {df : DF} {h : Heap}


end

end Go.Cw
end

/- Known as a row that can be written. -/
section
set_option maxRecDepth 100000
set_option linter.unusedSimpArgs false
namespace Go.Cw
open Go Go.Proofs

theorem rake_hull_agreeing_gen (f : Nat → Int) (n : Nat) (hn : n ≤ 6) (S : List Int) (hl : S.length ≤ 100000) (hS : ∀ s ∈ S, 0 ≤ s ∧ s < 2 ^ n) {q p : Int} (hk : Rk.Kn n q p) (hne : Rk.agQ n S q p ≠ []) (K : AEnd → Heap → Prop)
    (hK : ∀ s', K (.ret (.sl 900 0 s' (Rk.agQ n S q p).length (.gr 1))) (hpV [(900, .row (ints (Rk.agQ n S q p)) s')])) :
    ACalls Pg fn_rake_hull_agreeing [.pv (Rk.Hc f n S), .agg [.int .i64 q, .int .i64 p]] (hpV [(900, .dead)]) K := by
  refine rake_hull_agreeing.enter 0 (by simp) ?_
  simp [Rk.Hc]
  intro s
  obtain ⟨m, hm⟩ : ∃ m : Nat → List Int, m = fun k => (S.take k).filter (fun s => Rk.same n q s p) := ⟨_, rfl⟩
  have hml : ∀ k, (m k).length ≤ k := fun k => by
    rw [hm]; have := List.length_filter_le (fun s => Rk.same n q s p) (S.take k); simp at this ⊢; omega
  have hm0 : m 0 = [] := by rw [hm]; rfl
  refine Lp.intro' (σ := Nat × Nat) (inv := fun x => x.1 ≤ S.length)
    (vw := fun x => [(3, .ptr 3 0 (s+1)), (4, gS 1 22 (m x.1).length x.2), (10, L S), (11, .int .i64 S.length), (12, .int .i64 x.1)])
    (hp := fun x => [(3, .row [.int .i64 q, .int .i64 p] (s+1)), (22, gO (m x.1).length (ints (m x.1)) x.2)]) (ms := fun x => S.length - x.1) (0, 0) (by simp) (Sl.wk 4 .es (by simpa using ALe.nils_es) (Sl.refl ⟨by simp, by simp [hm0], by simp [hm0]⟩)) ?_
  rintro ⟨k, st⟩ hk2 J hJ
  simp at hk2
  by_cases hkc : k < S.length
  · obtain ⟨x, hx⟩ : ∃ x, S[k] = x := ⟨_, rfl⟩
    have hxb := hS x (by rw [← hx]; simp)
    have hmk := hml k
    have hms : m (k + 1) = m k ++ (if Rk.same n q x p then [x] else []) := by
      rw [hm]
      simp only [← List.take_append_getElem hkc, List.filter_append, hx]
      congr 1
      cases h : Rk.same n q x p
      · simp [h]
      · simp [h]
    have cA := rake_known_agrees_ok q p x
    rw [Rk.agrees_bits hk (by omega) hxb] at cA
    simp [hkc, hx]
    refine PCallK.intro (PInv.func cA) ?_
    cases hfx : Rk.same n q x p
    · rw [hfx] at hms
      simp
      (repeat first | refine And.intro (by omega) ?_ | refine And.intro (Fits.of (by omega) (by omega)) ?_)
      exact hJ.next (k + 1, st) (by simp; omega) (by simp; omega) (by simp [hms]) (by simp [hms])
    · rw [hfx] at hms
      simp [hkc, hx]
      intro s4 s5
      refine xApN_gS (cells := ints (m k)) (by simp) (by simp) (by omega) (by omega) ?_
      simp
      (repeat first | refine And.intro (by omega) ?_ | refine And.intro (Fits.of (by omega) (by omega)) ?_)
      exact hJ.next (k + 1, s5 + 1) (by simp; omega) (by simp; omega) (by simp [hms]) (by simp [hms])
  obtain rfl : k = S.length := by omega
  have hmE : m S.length = Rk.agQ n S q p := by rw [hm]; simp only [List.take_length]; rfl
  have hpos := List.length_pos_iff.2 hne
  have hne' : ¬ (Rk.agQ n S q p).length = 0 := by omega
  simp
  refine hJ.exit ?_
  simp [hmE, gS, gO, hne']
  refine RetV.move 22 900 (RetV.view [(900, .row (ints (Rk.agQ n S q p)) st)] (by simp) ?_)
  simpa using hK st
theorem rake_Known_gen (r : Rak) (hs : r.Small) (l : List (Int × Bool)) (hl : l.length ≤ 40) (he : r.errE l true = 0) (K : AEnd → Heap → Prop)
    (hK : ∀ s', K (.ret (.tup [.sl 900 0 s' (Rk.agF r.S l).length (.gr 1), .int .i64 0])) (hpV [(900, .row (ints (Rk.agF r.S l)) s')])) : ACalls Pg fn_rake_Known [r.v, LK l] (hpV [(900, .dead)]) K := by
  obtain ⟨hv, hf, _, hne⟩ := Rak.errE_zero.1 he
  have hkn := (Rk.fnd_kn hf).1
  have hSl := Rak.S_len hv
  have cO := rake_open_ok r hs l hl true he
  have cA := fun K => rake_hull_agreeing_gen r.F r.n hv.n6 r.S (by omega) (Rak.S_in hv) hkn (by rw [← Rk.agF_eq hf]; exact hne) K
  rw [← Rk.agF_eq hf] at cA
  refine rake_Known.enter 0 (by simp) ?_
  simp
  intro s1 s2
  refine FCall.pure (PInv.func cO) ?_
  simp
  intro s3
  refine FCall.cps [(900, .dead)] (fun s : Nat => .sl 900 0 s (Rk.agF r.S l).length (.gr 1)) (fun s => [(900, .row (ints (Rk.agF r.S l)) s)]) (fun _ => True) (fun K' hK' => AInvoke.func (cA K' fun s' => hK' s' trivial)) (by simp) (fun _ => rfl) trivial (fun s9 _ => ⟨trivial, ?_⟩)
  simp
  refine RetD.ret rfl rake_Known_1.recClo ((rake_said_nil _ _).mono ?_)
  rintro e h' ⟨rfl, rfl⟩
  simp
  exact RetV.view [(900, .row (ints (Rk.agF r.S l)) s9)] (by simp) (hK s9)
section
variable {F n₀ : Nat} {inr : Bool} {keep : List Nat} {fa fl : List It} {t : Option Nat} {K : KT} {Q : Post} {tm : TM} {df : DF} {h : Heap}
/-- Known of findings that are still gathered, as a row. -/
theorem FCall.knownG {r : Rak} (hs : r.Small) (l : List (Int × Bool)) (hl : l.length ≤ 40) (he : r.errE l true = 0) (nm st : Nat) (hnm : nm ≠ 900) (hw : h nm = gO l.length (fds l) st) (h9 : h 900 = .dead) (f : FaOk F fa tm h)
    (next : ∀ s' : Nat, FlOk fl (putD tm t (.tup [.sl 900 0 s' (Rk.agF r.S l).length (.gr 1), .int .i64 0])) (upd (upd h 900 (.row (ints (Rk.agF r.S l)) s')) nm (gO l.length (fds l) st)) ∧ K (putD tm t (.tup [.sl 900 0 s' (Rk.agF r.S l).length (.gr 1), .int .i64 0])) df (upd (upd h 900 (.row (ints (Rk.agF r.S l)) s')) nm (gO l.length (fds l) st))) :
    FCall ⟨Pg, F, n₀, inr, keep⟩ (.func (.func fn_rake_Known) [] []) [r.v, gS 2 nm l.length st] fa fl t K Q tm df h := by
  have c := fun K => rake_Known_gen r hs l hl he K
  have hz : ∀ s', ZF (.tup [.sl 900 0 s' (Rk.agF r.S l).length (.gr 1), .int .i64 0]) := fun s' => ZF.tup fun a ha => by
    simp only [List.mem_cons, List.mem_singleton, List.not_mem_nil, or_false] at ha
    rcases ha with rfl | rfl
    · exact ZF.sl _ _ _ _ _
    · exact ZF.int _ _
  have h9n : hpV [(900, AObj.dead)] = nilH := by rw [hpV_cons, hpV_nil, upd_dead rfl]
  by_cases h0 : l.length = 0
  · have hd : h nm = .dead := by rw [hw, gO, if_pos h0]
    have hl0 : LK l = .vl 0 [] := by rw [List.eq_nil_of_length_eq_zero h0]; rfl
    refine FCall.cps [(900, .dead)] (fun s' : Nat => .tup [.sl 900 0 s' (Rk.agF r.S l).length (.gr 1), .int .i64 0]) (fun s' => [(900, .row (ints (Rk.agF r.S l)) s')]) (fun _ => True) (fun K' hK' => ?_) ⟨h9, trivial⟩ (fun _ => rfl) f (fun s' _ => ?_)
    · exact AInvoke.ale (ALe.refl _) (args' := [r.v, LK l]) ⟨ALe.refl _, by rw [hl0, gS, if_pos h0]; exact ALe.es_vl, trivial⟩ (AInvoke.func (first := []) (cap := []) (args := [r.v, LK l]) (c K' fun s' => hK' s' trivial))
    · have := next s'
      rw [gO, if_pos h0, upd_dead (by rw [upd_ne _ _ hnm]; exact hd)] at this
      simpa using this
  · have hr : h nm = .row (fds l) st := by rw [hw, gO, if_neg h0]
    rw [gO, if_neg h0] at next
    rw [gS, if_neg h0]
    refine FCall.cps [(nm, .row (fds l) st), (900, .dead)] (fun s' : Nat => .tup [.sl 900 0 s' (Rk.agF r.S l).length (.gr 1), .int .i64 0]) (fun s' => [(nm, .row (fds l) st), (900, .row (ints (Rk.agF r.S l)) s')]) (fun _ => True) (fun K' hK' => ?_) ⟨hr, h9, trivial⟩ (fun _ => rfl) f (fun s' _ => by simpa using next s')
    have e : hpV [(nm, AObj.row (fds l) st), (900, .dead)] = hpV [(nm, AObj.row (fds l) st)] := by rw [hpV_cons, h9n, hpV_cons, hpV_nil]
    rw [e]
    refine AInvoke.peek (K0 := fun e h' => ∃ s', e = .ret (.tup [.sl 900 0 s' (Rk.agF r.S l).length (.gr 1), .int .i64 0]) ∧ h' = hpV [(900, .row (ints (Rk.agF r.S l)) s')]) nm ?_ fun e h' he => ?_
    · have := AInvoke.func (first := []) (cap := []) (args := [r.v, LK l]) (c (fun e h' => ∃ s', e = .ret (.tup [.sl 900 0 s' (Rk.agF r.S l).length (.gr 1), .int .i64 0]) ∧ h' = hpV [(900, .row (ints (Rk.agF r.S l)) s')]) fun s' => ⟨s', rfl, rfl⟩)
      rw [h9n] at this
      simpa [LK] using this
    · obtain ⟨s', rfl, rfl⟩ := he
      exact ⟨_, rfl, hz s', RowsZ.one 900 s' (ZF.ints _), by rw [hpV_cons, hpV_nil, upd_ne _ _ hnm]; rfl, hK' s' trivial⟩
end
end Go.Cw
end

/- An order that is made by numbers; what an order costs at worst; the law RakeOrder. -/
section
set_option maxRecDepth 100000
set_option linter.unusedSimpArgs false
namespace Go.Cw
open Go Go.Proofs

/-- Drawn bytes. -/
def U8 (l : List Int) : AVal := .vl l.length (intsK .u8 l)
structure U8ok (l : List Int) : Prop where
  len : l.length ≤ 9223372036854775807
  rng : ∀ x ∈ l, 0 ≤ x ∧ x ≤ 255
@[simp] theorem frz_U8 (r s : Nat) (cells : List AVal) (l : List Int) : frz r s cells (U8 l) = U8 l := (rfl)
@[simp] theorem acells_U8 (l : List Int) : acells (U8 l) = some [U8 l] := (rfl)
@[simp] theorem aLen_U8 (l : List Int) : aLen (U8 l) = some (.int .i64 l.length) := (rfl)
@[simp] theorem ren_U8 (r nm : Nat) (l : List Int) : ren r nm (U8 l) = U8 l := (rfl)
@[simp] theorem satIxS_U8 (l : List Int) (k : IntKind) (n : Int) (K : AVal → Prop) : satIxS 1 (U8 l) (.int k n) K = ((0 ≤ n ∧ n < l.length) ∧ K (.pv (intsK .u8 (l.drop n.toNat)))) := by
  simp [U8]

/-- Two places of a list change. -/
def swapL (l : List Int) (i j : Nat) : List Int := (l.set i (l.getD j 0)).set j (l.getD i 0)
@[simp] theorem swapL_length (l : List Int) (i j : Nat) : (swapL l i j).length = l.length := by simp [swapL]
theorem swapL_perm (l : List Int) {i j : Nat} (hi : i < l.length) (hj : j < l.length) : (swapL l i j).Perm l := by
  unfold swapL
  simp only [List.getD_eq_getElem?_getD, List.getElem?_eq_getElem hi, List.getElem?_eq_getElem hj, Option.getD_some]
  exact List.set_set_perm hi hj
namespace Rk
/-- The other place. -/
def othJ (n : Nat) (b : List Int) (k : Nat) : Nat := k + ((b.getD (k % b.length) 0).tmod ((n : Int) - k)).toNat
def mkO (n : Nat) (b : List Int) : Nat → List Int
  | 0 => upto n
  | k + 1 => if b = [] then mkO n b k else swapL (mkO n b k) k (othJ n b k)
variable {n : Nat} {b : List Int}
theorem othJ_spec (hb : ∀ x ∈ b, 0 ≤ x ∧ x ≤ 255) (h0 : b ≠ []) {k : Nat} (hk : k < n) : ((k : Int).tmod b.length = (k % b.length : Nat) ∧ k % b.length < b.length) ∧ (b.getD (k % b.length) 0).tmod ((n : Int) - k) + k = othJ n b k ∧ othJ n b k < n ∧ (0 ≤ b.getD (k % b.length) 0 ∧ b.getD (k % b.length) 0 ≤ 255) := by
  have hl := List.length_pos_iff.2 h0
  have h1 := Nat.mod_lt k hl
  have h2 : 0 ≤ b.getD (k % b.length) 0 ∧ b.getD (k % b.length) 0 ≤ 255 := by
    rw [List.getD_eq_getElem?_getD, List.getElem?_eq_getElem h1]
    exact hb _ (by simp)
  have e : ((n : Int) - k) = ((n - k : Nat) : Int) := by omega
  obtain ⟨j, h3, h4⟩ := rem_u8 h2 (n := n - k) (by omega)
  have h5 : (b.getD (k % b.length) 0).tmod ((n : Int) - k) = j := by rw [e]; exact h3
  refine ⟨⟨rfl, h1⟩, ?_, ?_, h2⟩
  · unfold othJ; rw [h5]; omega
  · unfold othJ; rw [h5]; omega
theorem mkO_perm (hb : ∀ x ∈ b, 0 ≤ x ∧ x ≤ 255) : ∀ {k : Nat}, k ≤ n → (mkO n b k).Perm (upto n)
  | 0, _ => List.Perm.refl _
  | k + 1, hk => by
    have ih := mkO_perm hb (k := k) (by omega)
    have hl : (mkO n b k).length = n := by rw [ih.length_eq]; simp
    unfold mkO
    split
    · exact ih
    · rename_i h0
      exact (swapL_perm _ (by omega) (by rw [hl]; exact (othJ_spec hb h0 (by omega)).2.2.1)).trans ih
theorem mkO_ord (hb : ∀ x ∈ b, 0 ≤ x ∧ x ≤ 255) : IsOrd n (mkO n b n) := by
  have hp := mkO_perm hb (n := n) (Nat.le_refl n)
  refine ⟨by rw [hp.length_eq]; simp, hp.nodup_iff.2 ?_, fun x hx => ?_⟩
  · unfold upto
    exact List.Pairwise.map (R := fun (a b : Nat) => a ≠ b) (S := fun (a b : Int) => a ≠ b) _ (fun a b hab (e : (a : Int) = (b : Int)) => hab (by omega)) List.nodup_range
  · have := hp.mem_iff.1 hx
    unfold upto at this
    obtain ⟨y, hy, rfl⟩ := List.mem_map.1 this
    have := List.mem_range.1 hy
    omega
end Rk
theorem upto_succ (n : Nat) : upto (n + 1) = upto n ++ [(n : Int)] := by simp [upto, List.range_succ]
theorem law03_made_ok (n : Nat) (hn1 : 1 ≤ n) (hn : n ≤ 6) (b : List Int) (hb : U8ok b) : APure Pg fn_law03_made [.int .i64 n, U8 b] (L (Rk.mkO n b n)) := by
  refine law03_made.pure (by simp) ?_
  simp
  refine Lp.intro' (σ := Nat × Nat) (inv := fun x => x.1 ≤ n) (vw := fun x => [(0, .int .i64 n), (1, U8 b), (5, gS 1 16 x.1 x.2), (9, .int .i64 n), (10, .int .i64 x.1)])
    (hp := fun x => [(16, gO x.1 (ints (upto x.1)) x.2)]) (ms := fun x => n - x.1) (0, 0) (by simp) (Sl.wk 5 .es (by simpa using ALe.nils_es) (Sl.refl ⟨by simp, by simp, by simp⟩)) ?_
  rintro ⟨k, st⟩ hk J hJ
  simp at hk
  by_cases hkc : k < n
  · simp [hkc]
    intro s4 s5
    refine xApN_gS (cells := ints (upto k)) (by simp) (by simp) (by omega) (by omega) ?_
    simp
    (repeat first | refine And.intro (by omega) ?_ | refine And.intro (Fits.of (by omega) (by omega)) ?_)
    exact hJ.next (k + 1, s5 + 1) (by simp; omega) (by simp; omega) (by simp) (by simp [upto_succ])
  obtain rfl : k = n := by omega
  simp
  refine hJ.exit ?_
  simp [gS_pos hn1]
  have hm0 : Rk.mkO k b 0 = upto k := rfl
  refine Lp.intro (σ := Nat) (inv := fun x => x ≤ k) (vw := fun x => [(0, .int .i64 k), (1, U8 b), (5, .sl 16 0 st k (.gr 1)), (19, .int .i64 k), (20, .int .i64 x)])
    (hp := fun x => [(16, .row (ints (Rk.mkO k b x)) st)]) (ms := fun x => k - x) 0 (by simp) (by simp) (by simp [gO_pos hn1, hm0]) ?_
  intro x hx J2 hJ2
  by_cases hxc : x < k
  · have hol : (Rk.mkO k b x).length = k := by rw [(Rk.mkO_perm hb.rng (n := k) (k := x) (by omega)).length_eq]; simp
    by_cases h0 : b = []
    · have hmo : Rk.mkO k b (x + 1) = Rk.mkO k b x := by simp [Rk.mkO, h0]
      subst h0
      simp [hxc]
      (repeat first | refine And.intro (by omega) ?_ | refine And.intro (Fits.of (by omega) (by omega)) ?_)
      exact hJ2.next (x + 1) (by omega) (by omega) (by simp) (by simp [hmo])
    · have hmo : Rk.mkO k b (x + 1) = swapL (Rk.mkO k b x) x (Rk.othJ k b x) := by simp [Rk.mkO, h0]
      obtain ⟨⟨h1, h2⟩, h3, h4, h5⟩ := Rk.othJ_spec hb.rng h0 hxc
      have hbl := List.length_pos_iff.2 h0
      have e0 : ((x : Int) % (b.length : Int)).toNat = x % b.length := by
        have : ((x : Int) % (b.length : Int)) = ((x % b.length : Nat) : Int) := rfl
        rw [this, Int.toNat_natCast]
      obtain ⟨c, hc⟩ : ∃ c, b[x % b.length] = c := ⟨_, rfl⟩
      have hget : b[x % b.length]? = some c := by rw [List.getElem?_eq_getElem h2, hc]
      have hgD : b.getD (x % b.length) 0 = c := by rw [List.getD_eq_getElem?_getD, hget]; rfl
      rw [hgD] at h3 h5
      obtain ⟨j, hj⟩ : ∃ j, j = Rk.othJ k b x := ⟨_, rfl⟩
      rw [← hj] at h3 h4 hmo
      have hadd : (x : Int) + c.tmod ((k : Int) - x) = j := by omega
      have hcw : IntKind.i64.wrap c = c := Rk.wrapI (by omega) (by omega)
      have hxo : x < (Rk.mkO k b x).length := by omega
      have hjo : j < (Rk.mkO k b x).length := by omega
      have hemod : 0 ≤ (x : Int) % (b.length : Int) ∧ (x : Int) % (b.length : Int) < b.length := ⟨Int.emod_nonneg _ (by omega), Int.emod_lt_of_pos _ (by omega)⟩
      simp [hxc, h0, hbl, h1, hemod, e0, hget, hcw, hadd, h4, hxo, hjo, hol]
      repeat first | refine And.intro (by omega) ?_ | refine And.intro (Fits.of (by omega) (by omega)) ?_
      refine hJ2.next (x + 1) (by omega) (by omega) (by simp) ?_
      simp [hmo, swapL, hxo, hjo]
  obtain rfl : x = k := by omega
  simp
  refine hJ2.exit ?_
  simp
  have hlast : (Rk.mkO x b x).length = x := by rw [(Rk.mkO_perm hb.rng (n := x) (k := x) (by omega)).length_eq]; simp
  refine RetV.frz 16 (cells := ints (Rk.mkO x b x)) (s := st) (by simp) (RetV.refl ?_)
  simp [L, hlast]
namespace Rak
variable {r : Rak}
theorem errE_nil' (hv : r.Valid) (hS : r.S ≠ []) : r.errE [] true = 0 := by rw [errE_of hv Rk.Fnd.nil rfl, agF_nil, if_neg hS]
theorem costV_ord (hv : r.Valid) {o : List Int} (ho : Rk.IsOrd r.n o) {s : Int} (hs : s ∈ r.S) : r.costV o s = .tup [.int .i64 (Rk.costL r.F (Rk.toN o) r.S s), .int .i64 0] := by
  have hA : r.Ask o s := ⟨ho, S_in hv s hs⟩
  have hE := errE_nil' hv (List.ne_nil_of_mem hs)
  unfold costV costP
  rw [decide_eq_true hA, hE, if_pos rfl, if_pos hs]
theorem costV_none (hv : r.Valid) {o : List Int} {s : Int} (h : ¬ r.Ask o s) : r.costV o s = .tup [.int .i64 0, .int .i64 2] := by
  have hE : r.errE [] (decide (r.Ask o s)) = 2 := by
    unfold errE
    simp [hv, h]
  unfold costV costP
  rw [hE]
  rfl
theorem ord_len {n : Nat} {o : List Int} (ho : Rk.IsOrd n o) : (Rk.toN o).length = n := by unfold Rk.toN; rw [List.length_map]; exact ho.1
theorem ord_lt {n : Nat} {o : List Int} (ho : Rk.IsOrd n o) : ∀ i ∈ Rk.toN o, i < n := fun i hi => by
  obtain ⟨x, hx, rfl⟩ := List.mem_map.1 hi
  have := ho.2.2 x hx
  omega
theorem cost_le (hv : r.Valid) {o : List Int} (ho : Rk.IsOrd r.n o) (l : List Int) (s : Int) : 0 ≤ Rk.costL r.F (Rk.toN o) l s ∧ Rk.costL r.F (Rk.toN o) l s ≤ 600 := by
  have h1 := Rk.cost_bound (M := 100) (by omega) (Rk.toN o) (f := r.F) (fun i hi => F_in hv i (ord_lt ho i hi)) l s
  have h2 := Rk.costL_nonneg (f := r.F) (o := Rk.toN o) (fun i hi => (F_in hv i (ord_lt ho i hi)).1) l s
  rw [ord_len ho] at h1
  have := hv.n6
  omega
end Rak
theorem law03_RakeOrder_1_ok (r : Rak) (hs : r.Small) (hv : r.Valid) (o : List Int) (ho : Rk.IsOrd r.n o) (s15 s3 : Nat) (K : AEnd → Heap → Prop) (hK : K (.ret (.int .i64 (Rk.mostL r.F (Rk.toN o) r.S r.S))) (hpV [(15, .row [L r.S] s15), (3, .row r.cells s3)])) :
    ACalls Pg fn_law03_RakeOrder_1 [L o, .ptr 15 0 s15, .ptr 3 0 s3] (hpV [(15, .row [L r.S] s15), (3, .row r.cells s3)]) K := by
  have hSl := Rak.S_len hv
  have hn6 := hv.n6
  have ho40 : o.length ≤ 40 := by have := ho.1; omega
  obtain ⟨mo, hmo⟩ : ∃ mo : Nat → Int, mo = fun k => Rk.mostL r.F (Rk.toN o) r.S (r.S.take k) := ⟨_, rfl⟩
  have hm0 : mo 0 = 0 := by rw [hmo]; rfl
  have hmb : ∀ k, 0 ≤ mo k ∧ mo k ≤ 600 := fun k => by
    rw [hmo]
    exact ⟨Rk.most_nonneg, Rk.most_bound (by omega) fun s _ => (Rak.cost_le hv ho r.S s).2⟩
  have hms : ∀ k (h : k < r.S.length), mo (k + 1) = max (mo k) (Rk.costL r.F (Rk.toN o) r.S r.S[k]) := fun k h => by
    rw [hmo]
    simp only
    unfold Rk.mostL
    rw [← List.take_append_getElem h, List.foldl_append]
    rfl
  have hmE : mo r.S.length = Rk.mostL r.F (Rk.toN o) r.S r.S := by rw [hmo]; simp
  rw [← hmE] at hK
  clear hmo
  refine law03_RakeOrder_1.enter 300 (by simp) ?_
  simp
  refine Lp.intro (σ := Nat) (inv := fun k => k ≤ r.S.length) (vw := fun k => [(0, L o), (1, .ptr 15 0 s15), (2, .ptr 3 0 s3), (4, .int .i64 (mo k)), (9, L r.S), (10, .int .i64 r.S.length), (11, .int .i64 k)])
    (hp := fun _ => [(15, .row [L r.S] s15), (3, .row r.cells s3)]) (ms := fun k => r.S.length - k) 0 (by omega) (by simp [hm0]) (by simp) ?_
  intro k hk J hJ
  by_cases hkc : k < r.S.length
  · obtain ⟨t, ht⟩ : ∃ t, r.S[k] = t := ⟨_, rfl⟩
    have htS : t ∈ r.S := by rw [← ht]; simp
    have hst := hms k hkc
    have hcb := Rak.cost_le hv ho r.S t
    have hmk := hmb k
    have cC := rake_Cost_ok r hs o ho40 t
    rw [Rak.costV_ord hv ho htS] at cC
    rw [ht] at hst
    simp [hkc, ht, Rak.cells]
    refine PCallK.intro (PInv.func (first := []) (cap := []) (args := [r.v, L o, .int .i64 t]) cC) ?_
    simp
    (repeat first | refine And.intro (by omega) ?_ | refine And.intro (Fits.of (by omega) (by omega)) ?_)
    exact hJ.next (k + 1) (by omega) (by omega) (by simp [hst]) (by simp [Rak.cells])
  obtain rfl : k = r.S.length := by omega
  simp
  refine hJ.exit ?_
  simp
  exact RetV.view [(15, .row [L r.S] s15), (3, .row r.cells s3)] (by simp) hK
section
variable {F n₀ : Nat} {inr : Bool} {keep : List Nat} {fa fl : List It} {t : Option Nat} {K : KT} {Q : Post} {tm : TM} {df : DF} {h : Heap}
theorem FCall.mostL {r : Rak} (hs : r.Small) (hv : r.Valid) {o : List Int} (ho : Rk.IsOrd r.n o) {s15 s3 : Nat} (hw : h 15 = .row [L r.S] s15 ∧ h 3 = .row r.cells s3) (f : FaOk F fa tm h)
    (next : FlOk fl (putD tm t (.int .i64 (Rk.mostL r.F (Rk.toN o) r.S r.S))) (updL h [(15, .row [L r.S] s15), (3, .row r.cells s3)]) ∧ K (putD tm t (.int .i64 (Rk.mostL r.F (Rk.toN o) r.S r.S))) df (updL h [(15, .row [L r.S] s15), (3, .row r.cells s3)])) :
    FCall ⟨Pg, F, n₀, inr, keep⟩ (.func (.func fn_law03_RakeOrder_1) [] [.ptr 15 0 s15, .ptr 3 0 s3]) [L o] fa fl t K Q tm df h := by
  refine FCall.cps [(15, .row [L r.S] s15), (3, .row r.cells s3)] (fun _ : Unit => .int .i64 (Rk.mostL r.F (Rk.toN o) r.S r.S)) (fun _ => [(15, .row [L r.S] s15), (3, .row r.cells s3)]) (fun _ => True) (fun K' hK' => AInvoke.func ?_) (by simpa using hw) (fun _ => rfl) f (fun _ _ => next)
  exact law03_RakeOrder_1_ok r hs hv o ho s15 s3 K' (hK' () trivial)
end
end Go.Cw
end

/- The law RakeOrder. -/
section
set_option maxRecDepth 100000
set_option linter.unusedSimpArgs false
namespace Go.Cw
open Go Go.Proofs

theorem Rk.toI_len' (l : List Nat) : (Rk.toI l).length = l.length := by simp [Rk.toI]
/-- The first place at which two orders differ. -/
theorem Rk.lex_first {n : Nat} {a o : List Int} {k : Nat} {x y : Int} (ha : ∃ b : List Nat, a = Rk.toI b ∧ (b = Rk.toN o ∨ Rk.Lex b (Rk.toN o))) (ho : ∀ z ∈ o, 0 ≤ z) (heq : ∀ j, j < k → a[j]? = o[j]?) (hx : a[k]? = some x) (hy : o[k]? = some y) (hne : x ≠ y) : x < y := by
  obtain ⟨b, rfl, hb⟩ := ha
  have ho' : o = Rk.toI (Rk.toN o) := (Rk.toI_toN ho).symm
  obtain ⟨c, hc⟩ : ∃ c, c = Rk.toN o := ⟨_, rfl⟩
  rw [← hc] at hb ho'
  rw [ho'] at heq hy
  clear ho' hc ho
  have gt : ∀ (l : List Nat) (j : Nat), (Rk.toI l)[j]? = l[j]?.map fun (i : Nat) => (i : Int) := fun l j => by unfold Rk.toI; rw [List.getElem?_map]
  rcases hb with rfl | ⟨p, u, v, q, q', rfl, rfl, huv⟩
  · rw [hx] at hy; exact absurd (Option.some.inj hy) hne
  · have hk : ¬ p.length < k := fun h => by
      have := heq p.length h
      rw [gt, gt] at this
      simp at this
      omega
    have hk2 : ¬ k < p.length := fun h => by
      rw [gt, List.getElem?_append_left h] at hx hy
      rw [hx] at hy
      exact hne (Option.some.inj hy)
    obtain rfl : k = p.length := by omega
    rw [gt] at hx hy
    simp at hx hy
    omega
theorem Rk.toN_get {o : List Int} {k : Nat} : (Rk.toN o)[k]? = o[k]?.map Int.toNat := by unfold Rk.toN; rw [List.getElem?_map]
/-- What was found of the first seams of an order. -/
def Rk.lst (o : List Int) (t : Int) (k : Nat) : List (Int × Bool) := (o.take k).map fun x => (x, inS t x.toNat)
theorem Rk.lst_len (o : List Int) (t : Int) (k : Nat) : (Rk.lst o t k).length ≤ k := by unfold Rk.lst; simp; omega
theorem Rk.lst_len' {o : List Int} (t : Int) {k : Nat} (h : k ≤ o.length) : (Rk.lst o t k).length = k := by unfold Rk.lst; simp; omega
theorem Rk.lst_succ {o : List Int} {t : Int} {k : Nat} (h : k < o.length) : Rk.lst o t (k + 1) = Rk.lst o t k ++ [(o[k], inS t o[k].toNat)] := by
  unfold Rk.lst
  rw [← List.take_append_getElem h, List.map_append]
  rfl
theorem Rk.lst_fnd {n : Nat} {o : List Int} (ho : Rk.IsOrd n o) (t : Int) (k : Nat) : Rk.Fnd n (Rk.lst o t k) := by
  have hs : ∀ x ∈ o.take k, x ∈ o := fun x hx => List.mem_of_mem_take hx
  refine ⟨fun x hx => ?_, ?_⟩
  · obtain ⟨y, hy, rfl⟩ := List.mem_map.1 hx
    exact ho.2.2 y (hs y hy)
  · unfold Rk.lst
    rw [List.map_map]
    have : (Prod.fst ∘ fun x : Int => (x, inS t x.toNat)) = id := rfl
    rw [this, List.map_id]
    exact ho.2.1.sublist (List.take_sublist _ _)
theorem Rk.lst_mem {S : List Int} {t : Int} (ht : t ∈ S) (o : List Int) (k : Nat) : t ∈ Rk.agF S (Rk.lst o t k) := Rk.mem_agF.2 ⟨ht, fun x hx => by
  obtain ⟨y, _, rfl⟩ := List.mem_map.1 hx
  rfl⟩
/-- A seam more in an order, unless one set alone is left. -/
theorem Rk.cost_step {f : Nat → Int} {S : List Int} {o : List Int} {t : Int} {k : Nat} (h : k < o.length) (h2 : ¬ (Rk.agF S (Rk.lst o t k)).length ≤ 1) :
    Rk.costL f ((Rk.toN o).drop k) (Rk.agF S (Rk.lst o t k)) t = f o[k].toNat + Rk.costL f ((Rk.toN o).drop (k + 1)) (Rk.agF S (Rk.lst o t (k + 1))) t := by
  have hk : k < (Rk.toN o).length := by unfold Rk.toN; simpa using h
  have e : (Rk.toN o).drop k = o[k].toNat :: (Rk.toN o).drop (k + 1) := by
    rw [List.drop_eq_getElem_cons hk]
    have e1 : (Rk.toN o)[k] = o[k].toNat := by simp only [Rk.toN, List.getElem_map]
    rw [e1]
  rw [e, Rk.lst_succ h, Rk.agF_push]
  show (if _ then _ else _) = _
  rw [if_neg h2]
theorem law03_RakeOrder_t36 (r : Rak) (hs : r.Small) (hv : r.Valid) (G : List Int) (hG : Rk.IsOrd r.n G) (t : Int) (ht : t ∈ r.S) (sum : Int) (hsum : sum = Rk.costL r.F (Rk.toN G) r.S t) (s3 : Nat) :
    AW ⟨Pg, 0, 277, false, []⟩ (.seq (.ops law03_RakeOrder.r36) (.seq (.ops law03_RakeOrder.r37) (.seq (.ops law03_RakeOrder.r38) (.seq (.ops law03_RakeOrder.r39) (.seq (.ops law03_RakeOrder.r40) .ret)))))
      (RetK [.tmp 6] fun e _ => e = AEnd.ret (.bool true))
      (tmV [(3, .ptr 3 0 s3), (18, L G), (20, .int .i64 t), (22, .int .i64 sum)]) [] (hpV [(3, .row r.cells s3)]) := by
  have hn6 := hv.n6
  have hn1 := hv.n1
  have hGl := hG.1
  have e6 : (2 : Int) ^ 6 = 64 := by decide
  have h2p := two_pow_le hn6
  have hpp := two_pow_pos r.n
  have c1 := rake_Cost_ok r hs G (by omega) t
  rw [Rak.costV_ord hv hG ht, ← hsum] at c1
  have c2 := rake_Cost_ok r hs (G ++ [0]) (by simp; omega) t
  rw [Rak.costV_none hv (fun h => by have := h.1.1; simp at this; omega)] at c2
  have c3 := rake_Cost_ok r hs G.tail (by simp; omega) t
  rw [Rak.costV_none hv (fun h => by have := h.1.1; simp at this; omega)] at c3
  have c4 := rake_Cost_ok r hs G (by omega) (2 ^ r.n)
  rw [Rak.costV_none hv (fun h => by have := h.2.2; omega)] at c4
  simp [Rak.cells]
  refine FCall.pure (PInv.func (first := []) (cap := []) (args := [r.v, L G, .int .i64 t]) c1) ?_
  simp
  intro s229 s232 s231
  refine xAp_cp (by simp) (by simp) (by omega) ?_
  simp
  intro s233
  refine xApN_cp (n := G.length) (cs := ints G) (by simp) (by simp) (by simp) (by omega) (by omega) ?_
  rw [show ints G ++ [AVal.int .i64 0] = ints (G ++ [0]) by simp [ints]]
  simp
  refine FCall.frz1 233 rfl (v := .tup [.int .i64 0, .int .i64 2]) ?_ (by simp) ?_
  · simpa [L] using PInv.func (first := []) (cap := []) (args := [r.v, L (G ++ [0]), .int .i64 t]) c2
  have eL : AVal.vl (G.length - 1) (ints G.tail) = L G.tail := by simp [L]
  have hwn : IntKind.i64.wrap ((2 : Int) ^ r.n) = 2 ^ r.n := Rk.wrapI (by omega) (by have e62 : (2 : Int) ^ 62 = 4611686018427387904 := by decide
                                                                                     omega)
  simp
  refine ⟨by omega, ?_⟩
  rw [eL]
  refine FCall.pure (PInv.func (first := []) (cap := []) (args := [r.v, L G.tail, .int .i64 t]) c3) ?_
  simp [hGl, hwn]
  (repeat first | refine And.intro (by omega) ?_ | refine And.intro (Fits.of (by omega) (by omega)) ?_)
  refine FCall.pure (PInv.func (first := []) (cap := []) (args := [r.v, L G, .int .i64 (2 ^ r.n)]) c4) ?_
  simp
  refine PCallK.intro (PInv.func law03_alive_ok) ?_
  simp
  exact RetV.refl rfl
theorem law03_RakeOrder_t23 (r : Rak) (hs : r.Small) (hv : r.Valid) (hS : r.S ≠ []) (G : List Int) (hG : Rk.IsOrd r.n G) (w : Int) (hw : 0 ≤ w ∧ w ≤ 255) (s3 s15 : Nat) :
    AW ⟨Pg, 0, 277, false, []⟩ (.seq (.ops law03_RakeOrder.r23) (.seq (.ops law03_RakeOrder.r24) (.seq (.ops law03_RakeOrder.r25) (.seq (.seq (.ops law03_RakeOrder.r26) (.block 2 (.loop (.seq (.ops law03_RakeOrder.r27) (.seq (.cond (.t 188) .skip (.exit 2)) (.seq (.block 3 (.seq (.ops law03_RakeOrder.r28) (.seq (.seq (.ops law03_RakeOrder.r29) (.seq (.ops law03_RakeOrder.r30) (.cond (.t 203) (.seq (.seq (.ops law03_RakeOrder.r31) (.cond (.t 205) (.seq (.ops law03_RakeOrder.r32) .ret) .skip)) (.exit 2)) .skip))) (.seq (.ops law03_RakeOrder.r33) (.ops law03_RakeOrder.r34))))) (.ops law03_RakeOrder.r35))))))) (.seq (.ops law03_RakeOrder.r36) (.seq (.ops law03_RakeOrder.r37) (.seq (.ops law03_RakeOrder.r38) (.seq (.ops law03_RakeOrder.r39) (.seq (.ops law03_RakeOrder.r40) .ret)))))))))
      (RetK [.tmp 6] fun e _ => e = AEnd.ret (.bool true))
      (tmV [(2, .int .u8 w), (3, .ptr 3 0 s3), (15, .ptr 15 0 s15), (18, L G)]) [] (hpV [(3, .row r.cells s3), (15, .row [L r.S] s15)]) := by
  have hn6 := hv.n6
  have hn1 := hv.n1
  have hGl := hG.1
  have hfn : r.f.length = r.n := rfl
  have hSp := List.length_pos_iff.2 hS
  have hSl := Rak.S_len hv
  have e6 : (2 : Int) ^ 6 = 64 := by decide
  have hww : IntKind.i64.wrap w = w := Rk.wrapI (by omega) (by omega)
  obtain ⟨j, hj, hjl⟩ := rem_u8 (w := w) (by omega) (n := r.S.length) (by omega)
  obtain ⟨t, ht⟩ : ∃ t, r.S[j] = t := ⟨_, rfl⟩
  have hget : r.S[j]? = some t := by rw [List.getElem?_eq_getElem hjl, ht]
  have htS : t ∈ r.S := by rw [← ht]; simp
  have htb := Rak.S_small hv htS
  simp [hww, hj, hget, hS]
  (repeat first | refine And.intro (by omega) ?_ | refine And.intro (Fits.of (by omega) (by omega)) ?_)
  refine Lp.intro' (σ := Nat × Int × Nat) (inv := fun x => x.1 ≤ r.n ∧ (0 ≤ x.2.1 ∧ x.2.1 ≤ x.1 * 100) ∧ Rk.costL r.F (Rk.toN G) r.S t = x.2.1 + Rk.costL r.F ((Rk.toN G).drop x.1) (Rk.agF r.S (Rk.lst G t x.1)) t) (vw := fun x => [(3, .ptr 3 0 s3), (15, .ptr 15 0 s15), (18, L G), (20, .int .i64 t), (21, gS 2 218 (Rk.lst G t x.1).length x.2.2), (22, .int .i64 x.2.1), (185, L G), (186, .int .i64 r.n), (187, .int .i64 x.1)])
    (hp := fun x => [(3, .row r.cells s3), (15, .row [L r.S] s15), (218, gO (Rk.lst G t x.1).length (fds (Rk.lst G t x.1)) x.2.2)]) (ms := fun x => r.n - x.1) (0, 0, 0) ⟨by simp, by simp, by simp [Rk.lst, Rak.agF_nil]⟩ (Sl.wk 21 .es (by simpa using ALe.nils_es) (Sl.refl ⟨by simp, by simp [hGl, Rk.lst], by simp [Rk.lst]⟩)) ?_
  rintro ⟨k, sum, st⟩ ⟨hk, hsb, hc⟩ J hJ
  simp only at hk hsb hc
  by_cases hkc : k < r.n
  · have hf := Rk.lst_fnd hG t k
    have hmem := Rk.lst_mem htS G k
    have hE := Rak.errE_mem hv hf hmem
    have hpos := List.length_pos_of_mem hmem
    have hlk := Rk.lst_len' t (show k ≤ G.length by omega)
    have hkG : k < G.length := by omega
    obtain ⟨i, hi⟩ : ∃ i : Nat, G[k] = (i : Int) := ⟨G[k].toNat, by have := hG.2.2 G[k] (by simp); omega⟩
    have hgG : G[k]? = some (i : Int) := by rw [List.getElem?_eq_getElem hkG, hi]
    have hin : i < r.n := by have := hG.2.2 G[k] (by simp); omega
    have hFi := Rak.F_in hv i hin
    have hfl : i < r.f.length := hin
    have hFe : r.f[i] = r.F i := by unfold Rak.F; rw [ofL_at _ hfl]
    have hFe' : r.f[i]? = some (r.F i) := by rw [List.getElem?_eq_getElem hfl, hFe]
    simp [hkc, hkG, hgG, hi, Rak.cells]
    refine FCall.knownG hs (Rk.lst G t k) (by omega) hE 218 st (by omega) (by simp) (by simp) (by simp) fun s9 => ⟨by simp, ?_⟩
    have hst := Rk.lst_succ (t := t) hkG
    rw [hi] at hst
    have hll : (Rk.lst G t (k + 1)).length = (Rk.lst G t k).length + 1 := by rw [hst]; simp
    by_cases h1 : (Rk.agF r.S (Rk.lst G t k)).length = 1
    · have hsum : sum = Rk.costL r.F (Rk.toN G) r.S t := by rw [hc, Rk.costL_done _ (by omega)]; omega
      simp [h1]
      refine hJ.exitS (Sl.toV [(3, .ptr 3 0 s3), (18, L G), (20, .int .i64 t), (22, .int .i64 sum)] [(3, .row r.cells s3)] (Sl.refl ⟨rfl, by simp, by simp [Rak.cells]⟩) ?_)
      exact law03_RakeOrder_t36 r hs hv G hG t htS sum hsum s3
    · have hcs := Rk.cost_step (f := r.F) (S := r.S) (t := t) hkG (by omega)
      rw [hi] at hcs
      simp at hst hcs
      simp [h1, show ¬ ((Rk.agF r.S (Rk.lst G t k)).length : Int) = 1 by omega, hfl, hFe, hFe', hfn, hin]
      (repeat first | refine And.intro (by omega) ?_ | refine And.intro (Fits.of (by omega) (by omega)) ?_)
      refine PCallK.intro (PInv.func (law03_finding_ok i (by omega) t (by omega))) ?_
      simp
      intro s4 s5
      refine xApN_gS (cells := fds (Rk.lst G t k)) (by simp) (by simp) (by omega) (by omega) ?_
      rw [show fds (Rk.lst G t k) ++ [AVal.int IntKind.i64 (i : Int), .bool (inS t i)] = fds (Rk.lst G t (k + 1)) by rw [hst]; exact fds_push _ ((i : Int), inS t i)]
      simp
      (repeat first | refine And.intro (by omega) ?_ | refine And.intro (Fits.of (by omega) (by omega)) ?_)
      exact hJ.next (k + 1, sum + r.F i, s5 + 1) ⟨by simp only; omega, by simp only; omega, by simp only; omega⟩ (by simp only; omega) (by simp [hll]) (by simp [hll, Rak.cells])
  obtain rfl : k = r.n := by omega
  have hend : (Rk.toN G).drop r.n = [] := List.drop_eq_nil_of_le (by rw [Rak.ord_len hG]; exact Nat.le_refl _)
  rw [hend] at hc
  have hsum : sum = Rk.costL r.F (Rk.toN G) r.S t := by rw [hc]; simp [Rk.costL]
  simp
  refine hJ.exitS (Sl.toV [(3, .ptr 3 0 s3), (18, L G), (20, .int .i64 t), (22, .int .i64 sum)] [(3, .row r.cells s3)] (Sl.refl ⟨rfl, by simp, by simp⟩) ?_)
  exact law03_RakeOrder_t36 r hs hv G hG t htS sum hsum s3
theorem law03_RakeOrder_ok (r : Rak) (b : List Int) (hb : U8ok b) (w : Int) (hw : 0 ≤ w ∧ w ≤ 255) : APure Pg fn_law03_RakeOrder [r.v, U8 b, .int .u8 w] (.bool true) := by
  refine law03_RakeOrder.pure (by simp) ?_
  simp
  intro s3
  refine PCallK.intro (law03_long00 r) ?_
  cases hlg : r.longB [] [] with
  | true =>
    simp
    refine PCallK.intro (PInv.func law03_alive_ok) ?_
    simp
    exact RetV.refl rfl
  | false =>
  obtain ⟨hs, _, _⟩ := Rak.short hlg
  simp
  refine PCallK.intro (PInv.func (first := []) (cap := []) (args := [r.v]) (ref03_Rake_ok r hs)) ?_
  by_cases hv : ¬ r.Valid
  · simp [hv]
    refine PCallK.intro (PInv.func law03_alive_ok) ?_
    simp
    exact RetV.refl rfl
  replace hv := Classical.not_not.1 hv
  have hn6 := hv.n6
  have hn1 := hv.n1
  have hfn : r.f.length = r.n := rfl
  have e6 : (2 : Int) ^ 6 = 64 := by decide
  have e62 : (2 : Int) ^ 62 = 4611686018427387904 := by decide
  have h2p := two_pow_le hn6
  have hpp := two_pow_pos r.n
  have hE := Rak.errE_nil hv
  have c1 := rake_Order_ok r hs
  have c2 := rake_Worst_ok r hs
  have c3 := rake_Enough_ok r hs
  have c4 := rake_Known0 r hs
  simp [hv]
  refine PCallK.intro (PInv.func (first := []) (cap := []) (args := [r.v]) c1) ?_
  by_cases hS : r.S = []
  · rw [if_pos hS] at hE
    simp [Rak.ordV, hE]
    refine PCallK.intro (PInv.func (first := []) (cap := []) (args := [r.v]) c2) ?_
    simp [Rak.worstV, hE]
    refine PCallK.intro (PInv.func (first := []) (cap := []) (args := [r.v]) c3) ?_
    simp [Rak.enV, hE]
    refine FCall.pure c4 ?_
    simp [Rak.knownV, hE, Rak.ordL, Rak.ordN]
    intro s15
    refine PCallK.intro (PInv.func law03_alive_ok) ?_
    simp
    exact RetV.refl rfl
  rw [if_neg hS] at hE
  have hSp := List.length_pos_iff.2 hS
  have hSl := Rak.S_len hv
  obtain ⟨O, hO⟩ : ∃ O, O = r.ordL := ⟨_, rfl⟩
  obtain ⟨N, hN⟩ : ∃ N, N = r.ordN := ⟨_, rfl⟩
  obtain ⟨W, hW⟩ : ∃ W, W = (Rk.planQ r.n r.F false r.S 0).2 := ⟨_, rfl⟩
  obtain ⟨M, hM⟩ : ∃ M, M = (Rk.enP r.n r.F r.S).2 := ⟨_, rfl⟩
  obtain ⟨en, hen⟩ : ∃ en, en = (Rk.enP r.n r.F r.S).1 := ⟨_, rfl⟩
  have hFn : ∀ i, i < r.n → 0 ≤ r.F i := fun i hi => (Rak.F_in hv i hi).1
  have hOe : O = Rk.toI (Rk.ordP r.n r.F r.S).1 := by rw [hO]; unfold Rak.ordL; rw [hE, if_pos rfl]
  have hNe : N = (Rk.ordP r.n r.F r.S).2 := by rw [hN]; unfold Rak.ordN; rw [hE, if_pos rfl]
  obtain ⟨ho1, ho2, ho3⟩ := Rk.ordP_spec (n := r.n) (f := r.F) (S := r.S)
  have hOo : Rk.IsOrd r.n O := Rk.ord_iff.2 ⟨_, ho1, hOe⟩
  have hON : Rk.toN O = (Rk.ordP r.n r.F r.S).1 := by rw [hOe, Rk.toN_toI]
  have hMO : Rk.mostL r.F (Rk.toN O) r.S r.S = N := by rw [hON, hNe, ho2]
  have hWN : W ≤ N := by rw [hW, hNe]; exact Rk.plan_le_ord hFn
  have hNM : N ≤ M := by rw [hM, hNe]; exact Rk.ord_le_en hFn (Rak.S_nodup (r := r)) (Rak.S_in hv)
  have hO40 : O.length ≤ 40 := by have := hOo.1; omega
  have cI := ref03_IsOrder_ok r hs O hO40
  obtain ⟨G, hG⟩ : ∃ G, G = Rk.mkO r.n b r.n := ⟨_, rfl⟩
  have hGo : Rk.IsOrd r.n G := by rw [hG]; exact Rk.mkO_ord hb.rng
  have cM := law03_made_ok r.n hn1 hn6 b hb
  rw [← hG] at cM
  obtain ⟨b', hb1, hb2⟩ := Rk.ord_iff.1 hGo
  have hGN : Rk.toN G = b' := by rw [hb2, Rk.toN_toI]
  have hbest := ho3 b' hb1
  rw [← hGN, ← hNe] at hbest
  obtain ⟨mG, hmG⟩ : ∃ mG, mG = Rk.mostL r.F (Rk.toN G) r.S r.S := ⟨_, rfl⟩
  rw [← hmG] at hbest
  have hV : r.ordV = .tup [L O, .int .i64 N, .int .i64 0] := by unfold Rak.ordV; rw [hE, hO, hN]
  have hWV : r.worstV = .tup [.int .i64 W, .int .i64 0] := by unfold Rak.worstV; rw [hE, hW]; rfl
  have hEV : r.enV = .tup [.int .i64 (en : Int), .int .i64 M, .int .i64 0] := by unfold Rak.enV; rw [hE, hen, hM]; simp
  have hKV : r.knownV [] = .tup [L r.S, .int .i64 0] := by unfold Rak.knownV; rw [hE, if_pos rfl, Rak.agF_nil]
  rw [hV]
  simp
  refine PCallK.intro (PInv.func (first := []) (cap := []) (args := [r.v]) c2) ?_
  rw [hWV]
  simp
  refine PCallK.intro (PInv.func (first := []) (cap := []) (args := [r.v]) c3) ?_
  rw [hEV]
  simp
  refine FCall.pure c4 ?_
  rw [hKV]
  simp
  intro s15
  refine PCallK.intro (PInv.func (first := []) (cap := []) (args := [r.v, L O]) cI) ?_
  simp [hOo, show ¬ N < W by omega, show ¬ M < N by omega, hS, hfn]
  refine PCallK.intro (PInv.func cM) ?_
  simp
  refine FCall.mostL hs hv hOo (by simp [Rak.cells]) (by simp) ?_
  rw [hMO]
  simp [Rak.cells]
  refine FCall.mostL hs hv hGo (by simp [Rak.cells]) (by simp) ?_
  rw [← hmG]
  have hNG : ¬ mG < N := by omega
  have hT := law03_RakeOrder_t23 r hs hv hS G hGo w hw (s3+1) (s15+1)
  simp only [AW_seq] at hT
  simp [hNG, Rak.cells]
  refine FCall.mostL hs hv hGo (by simp [Rak.cells]) (by simp) ?_
  rw [← hmG]
  by_cases hmn : ¬ mG = N
  · simp [hmn, Rak.cells]
    refine Sl.toV [(2, .int .u8 w), (3, .ptr 3 0 (s3+1)), (15, .ptr 15 0 (s15+1)), (18, L G)] [(3, .row r.cells (s3+1)), (15, .row [L r.S] (s15+1))] (Sl.refl ⟨rfl, by simp, by simp [Rak.cells]⟩) hT
  replace hmn := Classical.not_not.1 hmn
  have hlex : ∃ b : List Nat, O = Rk.toI b ∧ (b = Rk.toN G ∨ Rk.Lex b (Rk.toN G)) := by
    rcases hbest with h | ⟨_, h⟩
    · omega
    · exact ⟨_, hOe, h⟩
  have hGl := hGo.1
  have hOl := hOo.1
  simp [hmn, Rak.cells]
  refine Lp.intro (σ := Nat) (inv := fun k => k ≤ r.n ∧ ∀ j, j < k → O[j]? = G[j]?) (vw := fun k => [(2, .int .u8 w), (3, .ptr 3 0 (s3+1)), (7, L O), (15, .ptr 15 0 (s15+1)), (18, L G), (154, .int .i64 r.n), (155, .int .i64 k)])
    (hp := fun _ => [(3, .row r.cells (s3+1)), (15, .row [L r.S] (s15+1))]) (ms := fun k => r.n - k) 0 ⟨by omega, by simp⟩ (by simp [hGl]) (by simp [Rak.cells]) ?_
  rintro k ⟨hk, heq⟩ J hJ
  by_cases hkc : k < r.n
  · have hkO : k < O.length := by omega
    have hkG : k < G.length := by omega
    obtain ⟨x, hx'⟩ : ∃ x, O[k] = x := ⟨_, rfl⟩
    obtain ⟨y, hy'⟩ : ∃ y, G[k] = y := ⟨_, rfl⟩
    have hx : O[k]? = some x := by rw [List.getElem?_eq_getElem hkO, hx']
    have hy : G[k]? = some y := by rw [List.getElem?_eq_getElem hkG, hy']
    by_cases hxy : y = x
    · simp [hkc, hkO, hkG, hx, hy, hx', hy', hxy, hGl, hOl]
      (repeat first | refine And.intro (by omega) ?_ | refine And.intro (Fits.of (by omega) (by omega)) ?_)
      refine hJ.next (k + 1) ⟨by omega, fun j hj => ?_⟩ (by omega) (by simp) (by simp)
      by_cases e : j = k
      · rw [e, hx, hy, hxy]
      · exact heq j (by omega)
    · have hlt := Rk.lex_first (n := r.n) hlex (fun z hz => (hGo.2.2 z hz).1) heq hx hy (fun e => hxy e.symm)
      simp [hkc, hkO, hkG, hx, hy, hx', hy', hxy, hGl, hOl, show ¬ y < x by omega]
      refine hJ.exitS (Sl.toV [(2, .int .u8 w), (3, .ptr 3 0 (s3+1)), (15, .ptr 15 0 (s15+1)), (18, L G)] [(3, .row r.cells (s3+1)), (15, .row [L r.S] (s15+1))] (Sl.refl ⟨rfl, by simp, by simp [Rak.cells]⟩) (Sl.refl hT))
  obtain rfl : k = r.n := by omega
  simp
  refine hJ.exitS (Sl.toV [(2, .int .u8 w), (3, .ptr 3 0 (s3+1)), (15, .ptr 15 0 (s15+1)), (18, L G)] [(3, .row r.cells (s3+1)), (15, .row [L r.S] (s15+1))] (Sl.refl ⟨rfl, by simp, by simp [Rak.cells]⟩) (Sl.refl hT))
end Go.Cw
end

/- How bytes are read as an argument. -/
section
set_option maxRecDepth 100000
namespace Go.Cw
open Go Go.Proofs

section
variable {w : World} {μ : Mu}
theorem opens_u8s : Opens Pg w μ 59 fun av => ∃ l : List Int, U8ok l ∧ av = [U8 l] :=
  (Opens.intsK Tryz.underlying59 (by kernel_rfl) Tryz.underlying5 (by kernel_rfl)).mono fun _ ⟨l, h1, h2, h3⟩ => ⟨l, ⟨h1, fun x hx => bounds_u8 (h2 x hx)⟩, h3⟩
end
end Go.Cw
end
