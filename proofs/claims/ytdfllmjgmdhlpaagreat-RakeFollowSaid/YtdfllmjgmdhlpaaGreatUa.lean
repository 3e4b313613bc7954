/-
  What the document's reference of layer 3 computes; laws of layer 3; how a rake is read as an argument.
-/
import Derived.Test.YtdfllmjgmdhlpaaGreatLa
import Derived.Test.YtdfllmjgmdhlpaaGreatTa
import Derived.Test.YtdfllmjgmdhlpaaGreatAe
import Derived.Test.YtdfllmjgmdhlpaaGreatAf
import Derived.Test.YtdfllmjgmdhlpaaGreatRows
set_option linter.unusedVariables false
set_option linter.unusedSimpArgs false
set_option linter.unusedSectionVars false

/- The reference: Sets. -/
section
set_option maxRecDepth 100000
set_option linter.unusedSimpArgs false
namespace Go.Cw
open Go Go.Proofs

/-- The sets among the first so many numbers. -/
def setsTo (T : List (List Int)) : Nat → List Int
  | 0 => []
  | k + 1 => if T.any fun t => decide (leaksT t = k) then setsTo T k ++ [(k : Int)] else setsTo T k
theorem setsTo_len (T : List (List Int)) (k : Nat) : (setsTo T k).length ≤ k := by
  induction k with
  | zero => simp [setsTo]
  | succ k ih =>
    unfold setsTo
    split
    · rw [List.length_append]; simp; omega
    · omega
theorem setsTo_mem {T : List (List Int)} {k : Nat} {s : Int} : s ∈ setsTo T k ↔ (0 ≤ s ∧ s < k) ∧ ∃ t ∈ T, leaksT t = s := by
  induction k with
  | zero => simp [setsTo]; omega
  | succ k ih =>
    unfold setsTo
    split
    · rename_i hc
      obtain ⟨t, ht, h1⟩ := List.any_eq_true.1 hc
      rw [List.mem_append, ih, List.mem_singleton]
      constructor
      · rintro (⟨h2, h3⟩ | rfl)
        · exact ⟨by omega, h3⟩
        · exact ⟨by omega, t, ht, by simpa using h1⟩
      · rintro ⟨h2, h3⟩
        by_cases hk : s = k
        · exact .inr hk
        · exact .inl ⟨by omega, h3⟩
    · rename_i hc
      rw [ih]
      constructor
      · rintro ⟨h2, h3⟩; exact ⟨by omega, h3⟩
      · rintro ⟨h2, t, ht, h3⟩
        refine ⟨⟨h2.1, ?_⟩, t, ht, h3⟩
        by_cases hk : s = k
        · exact absurd (List.any_eq_true.2 ⟨t, ht, by simpa [hk] using h3⟩) hc
        · omega
theorem setsTo_lt (T : List (List Int)) (k : Nat) : (setsTo T k).Pairwise (· < ·) := by
  induction k with
  | zero => simp [setsTo]
  | succ k ih =>
    unfold setsTo
    split
    · rw [List.pairwise_append]
      refine ⟨ih, by simp, fun a ha b hb => ?_⟩
      obtain rfl : b = k := by simpa using hb
      have := (setsTo_mem.1 ha).1
      omega
    · exact ih
theorem sorted_ext : ∀ {l m : List Int}, l.Pairwise (· < ·) → m.Pairwise (· < ·) → (∀ x, x ∈ l ↔ x ∈ m) → l = m
  | [], [], _, _, _ => rfl
  | [], b :: m, _, _, h => absurd ((h b).2 (by simp)) (by simp)
  | a :: l, [], _, _, h => absurd ((h a).1 (by simp)) (by simp)
  | a :: l, b :: m, hl, hm, h => by
    have hl' := List.pairwise_cons.1 hl
    have hm' := List.pairwise_cons.1 hm
    have hab : a = b := by
      have h1 := (h a).1 (by simp)
      have h2 := (h b).2 (by simp)
      rcases List.mem_cons.1 h1 with h1 | h1
      · exact h1
      · rcases List.mem_cons.1 h2 with h2 | h2
        · exact h2.symm
        · have := hm'.1 a h1; have := hl'.1 b h2; omega
    subst hab
    congr 1
    refine sorted_ext hl'.2 hm'.2 fun x => ?_
    have hx := h x
    constructor
    · intro hxl
      rcases List.mem_cons.1 (hx.1 (List.mem_cons_of_mem _ hxl)) with h1 | h1
      · have := hl'.1 x hxl; omega
      · exact h1
    · intro hxm
      rcases List.mem_cons.1 (hx.2 (List.mem_cons_of_mem _ hxm)) with h1 | h1
      · have := hm'.1 x hxm; omega
      · exact h1
theorem setsTo_all {h : Hul} (hv : h.Valid) : setsTo (h.truths h.every) (2 ^ h.n) = h.setsL := by
  refine sorted_ext (setsTo_lt _ _) ?_ fun x => ?_
  · exact Rak.S_lt (r := ⟨h, []⟩)
  · rw [setsTo_mem, show x ∈ h.setsL ↔ _ from Rak.mem_S (r := ⟨h, []⟩)]
    constructor
    · rintro ⟨_, h2⟩; exact h2
    · rintro ⟨t, ht, rfl⟩
      have hl := (truths_in hv ht).1
      have := bits_lt (fun i => decide (0 < ofL t i)) t.length
      rw [hl] at this
      refine ⟨⟨?_, ?_⟩, t, ht, rfl⟩
      · unfold leaksT; rw [hl]; exact this.1
      · unfold leaksT; rw [hl]; simpa using this.2


end Go.Cw
end

/- Rake, the reference: is a rake valid; what agrees; the errors; Known. -/
section
set_option maxRecDepth 100000
set_option linter.unusedSimpArgs false
namespace Go.Cw
open Go Go.Proofs

theorem ref03_in_ok (n lo hi : Int) : APure Pg fn_ref03_in [.int .i64 n, .int .i64 lo, .int .i64 hi] (.bool (decide (lo ≤ n ∧ n ≤ hi))) := by
  refine ref03_in.pure (by simp) ?_
  by_cases h : lo ≤ n <;> simp [h] <;> refine RetV.refl ?_ <;> simp_all
theorem ref03_Rake_ok (r : Rak) (hs : r.Small) : APure Pg fn_ref03_Rake [r.v] (.bool (decide r.Valid)) := by
  have hf40 := hs.f
  have hs40 := hs.h.s
  have cH := ref01_Hull_ok r.h hs.h
  have nv : ¬ r.Valid → decide r.Valid = false := fun h => by simp [h]
  refine ref03_Rake.pure (by simp) ?_
  simp
  intro s1
  refine PCallK.intro (PInv.func (first := []) (cap := []) (args := [r.h.v]) cH) ?_
  by_cases hh : ¬ r.h.Valid
  · simp [hh]
    exact RetV.refl (by simp [show ¬ r.Valid from fun v => hh v.h])
  replace hh := Classical.not_not.1 hh
  by_cases hn : ¬ r.f.length = r.h.seams.length
  · have hn' : ¬ (r.f.length : Int) = r.h.seams.length := by omega
    simp [hh, hn, hn']
    exact RetV.refl (by simp [show ¬ r.Valid from fun v => hn v.len])
  replace hn := Classical.not_not.1 hn
  simp [hh, hn]
  refine Lp.intro (σ := Nat) (inv := fun k => k ≤ r.f.length ∧ ∀ j x, j < k → r.f[j]? = some x → 1 ≤ x ∧ x ≤ 20) (vw := fun k => [(1, .ptr 1 0 (s1+1)), (3, .int .i64 k)]) (hp := fun _ => [(1, .row r.cells (s1+1))]) (ms := fun k => r.f.length - k) 0 (by simp) (by simp) (by simp [Rak.cells]) ?_
  rintro k ⟨hk, inv⟩ J hJ
  by_cases hkc : k < r.f.length
  · obtain ⟨x, hx⟩ : ∃ x, r.f[k] = x := ⟨_, rfl⟩
    simp [hkc, hx, Rak.cells]
    refine PCallK.intro (PInv.func (ref03_in_ok x 1 20)) ?_
    by_cases hxb : 1 ≤ x ∧ x ≤ 20
    · simp [hxb]
      (repeat first | refine And.intro (by omega) ?_ | refine And.intro (Fits.of (by omega) (by omega)) ?_)
      refine hJ.next (k + 1) ⟨by omega, fun j y hj hy => ?_⟩ (by omega) (by simp) (by simp [Rak.cells])
      by_cases e : j = k
      · subst e
        obtain rfl : x = y := by simpa [hkc, hx] using hy
        exact hxb
      · exact inv j y (by omega) hy
    · simp [hxb]
      refine hJ.ret ?_
      simp
      refine RetV.refl ?_
      have : ¬ r.Valid := fun v => hxb (v.fa x (by rw [← hx]; simp))
      simp [this]
  obtain rfl : k = r.f.length := by omega
  simp [Rak.cells]
  refine hJ.exit ?_
  simp
  have : r.Valid := ⟨hh, hn, fun x hx => by
    obtain ⟨j, hj, e⟩ := List.getElem_of_mem hx
    exact inv j x hj (by rw [← e]; simp)⟩
  exact RetV.refl (by simp [this])




end Go.Cw
end

/- Rake, the reference: the best seam; Next, Worst, Any. -/
section
set_option maxRecDepth 100000
set_option linter.unusedSimpArgs false
namespace Go.Cw
open Go Go.Proofs

namespace Rk
/-- The best of the seams below a number. -/
def bestTo (n : Nat) (q : Int) (g : Nat → Int) (k : Nat) : Option (Nat × Int) := bestR g ((un n q).filter fun i => decide (i < k))
theorem bestTo_zero (n : Nat) (q : Int) (g : Nat → Int) : bestTo n q g 0 = none := by
  unfold bestTo; rw [List.filter_eq_nil_iff.2 (by simp)]; rfl
theorem bestTo_all (n : Nat) (q : Int) (g : Nat → Int) : bestTo n q g n = bestR g (un n q) := by
  unfold bestTo; rw [List.filter_eq_self.2 fun i hi => by simpa using (mem_un.1 hi).1]
theorem bestTo_succ {n : Nat} {q : Int} {g : Nat → Int} {k : Nat} (hk : k < n) : bestTo n q g (k + 1) = if inS q k then bestTo n q g k else betR g (bestTo n q g k) k := by
  have hpush : (un n q).filter (fun i => decide (i < k + 1)) = (un n q).filter (fun i => decide (i < k)) ++ if inS q k then [] else [k] := by
    unfold un
    rw [List.filter_filter, List.filter_filter]
    have e : ∀ m : Nat, m ≤ n → (List.range n).filter (fun i => decide (i < m) && !inS q i) = (List.range m).filter (fun i => !inS q i) := by
      intro m hm
      obtain ⟨d, rfl⟩ := Nat.exists_eq_add_of_le hm
      have e1 : (List.range m).filter (fun i => decide (i < m) && !inS q i) = (List.range m).filter (fun i => !inS q i) := List.filter_congr fun i hi => by simp [List.mem_range.1 hi]
      have e2 : ((List.range d).map (m + ·)).filter (fun i => decide (i < m) && !inS q i) = [] := List.filter_eq_nil_iff.2 fun i hi => by
        obtain ⟨x, _, rfl⟩ := List.mem_map.1 hi
        simp
        intro h; omega
      rw [List.range_add, List.filter_append, e1, e2, List.append_nil]
    rw [e (k + 1) (by omega), e k (by omega), List.range_succ, List.filter_append]
    cases h : inS q k <;> simp [h]
  unfold bestTo
  rw [hpush]
  cases h : inS q k
  · simp only [Bool.false_eq_true, if_false]
    rw [bestR_push]
  · simp
/-- The best so far, as the reference keeps it. -/
def leastV : Option (Nat × Int) → Int
  | none => -1
  | some b => b.2
end Rk







theorem Rak.zero_head {r : Rak} (hv : r.Valid) {x : Int} (hx : r.S.head? = some x) : (0 : Int) ∈ r.S ↔ x = 0 := by
  cases hS : r.S with
  | nil => rw [hS] at hx; cases hx
  | cons a l =>
    rw [hS] at hx
    obtain rfl : a = x := by simpa using hx
    have h1 := Rak.S_lt (r := r)
    rw [hS, List.pairwise_cons] at h1
    have h2 := Rak.S_in hv a (by rw [hS]; simp)
    constructor
    · intro h
      rcases List.mem_cons.1 h with h | h
      · exact h.symm
      · have := h1.1 0 h; omega
    · rintro rfl; simp

end Go.Cw
end

/- Rake, the reference: orders, what they cost. -/
section
set_option maxRecDepth 100000
set_option linter.unusedSimpArgs false
namespace Go.Cw
open Go Go.Proofs



theorem Rak.ask_set {r : Rak} (hv : r.Valid) {o : List Int} {s : Int} : r.Ask o s ↔ Rk.IsOrd r.n o ∧ r.h.Set s := by
  unfold Rak.Ask Hul.Set
  rw [show r.n = r.h.n from hv.len]

end Go.Cw
end

/- Rake, the reference: all orders. -/
section
set_option maxRecDepth 100000
set_option linter.unusedSimpArgs false
namespace Go.Cw
open Go Go.Proofs

namespace Rk
theorem flat_len {α β : Type} {g : α → List β} {m : Nat} : ∀ {l : List α}, (∀ i ∈ l, (g i).length ≤ m) → (l.flatMap g).length ≤ l.length * m
  | [], _ => by simp
  | a :: l, h => by
    have h1 := h a (by simp)
    have h2 := flat_len (l := l) fun i hi => h i (by simp [hi])
    rw [List.flatMap_cons, List.length_append, List.length_cons, Nat.succ_mul]
    omega
theorem ords_len (n : Nat) : ∀ (k : Nat) (b : List Nat), (ords n k b).length ≤ n ^ k
  | 0, b => by simp [ords]
  | k + 1, b => by
    simp only [ords]
    have h1 := flat_len (l := fr n b) (g := fun i => ords n k (b ++ [i])) (m := n ^ k) fun i _ => ords_len n k (b ++ [i])
    have h2 : (fr n b).length ≤ n := Nat.le_trans (List.length_filter_le _ _) (by simp)
    have h3 := Nat.mul_le_mul_right (n ^ k) h2
    rw [Nat.pow_succ, Nat.mul_comm (n ^ k) n]
    omega
/-- Orders, as lists of numbers. -/
def oL (l : List (List Nat)) : List (List Int) := l.map toI
theorem oL_append (a b : List (List Nat)) : oL (a ++ b) = oL a ++ oL b := by simp [oL]
end Rk

end Go.Cw
end

/- Rake, the reference: Order. -/
section
set_option maxRecDepth 100000
set_option linter.unusedSimpArgs false
namespace Go.Cw
open Go Go.Proofs

namespace Rk
def outO : Option (List Nat × Int) → AVal
  | none => .nils
  | some b => L (toI b.1)
def leastO : Option (List Nat × Int) → Int
  | none => -1
  | some b => b.2
end Rk

end Go.Cw
end

/- Rake, the reference: Enough. -/
section
set_option maxRecDepth 100000
set_option linter.unusedSimpArgs false
namespace Go.Cw
open Go Go.Proofs

namespace Rk
/-- Do two sets differ, at the first so many seams of a set? -/
def difB (q a b : Int) (k : Nat) : Bool := (List.range k).any fun i => inS q i && (inS a i != inS b i)
theorem difB_succ (q a b : Int) (k : Nat) : difB q a b (k + 1) = (difB q a b k || (inS q k && (inS a k != inS b k))) := by
  unfold difB; rw [List.range_succ, List.any_append]; simp
theorem difB_same {n : Nat} (hn : n ≤ 6) {q a b : Int} (hq : 0 ≤ q ∧ q < 2 ^ n) : difB q a b 6 = !same n q b a := by
  rw [Bool.eq_iff_iff, Bool.not_eq_true', ← Bool.not_eq_true, same_iff]
  unfold difB
  rw [List.any_eq_true]
  constructor
  · rintro ⟨i, hi, h⟩ hs
    rw [Bool.and_eq_true] at h
    by_cases hin : i < n
    · have := hs i hin h.1
      rw [this] at h
      simp at h
    · rw [inS_big hq (by omega)] at h
      simp at h
  · intro h
    refine Classical.byContradiction fun hc => h fun i hi hqi => ?_
    refine Classical.byContradiction fun hab => hc ⟨i, by simp; omega, ?_⟩
    rw [hqi]
    simp
    exact fun e => hab e.symm
end Rk

theorem ref03_Length_ok (r : Rak) (hf40 : r.f.length ≤ 40) (hF : ∀ i, i < r.n → 0 ≤ r.F i ∧ r.F i ≤ 1000000) (q : Int) (hq : 0 ≤ q ∧ q < 2 ^ 62) : APure Pg fn_ref03_Length [r.v, .int .i64 q] (.int .i64 (Rk.lenS r.F r.n q)) := by
  have hfn : r.f.length = r.n := rfl
  have hb : ∀ k, k ≤ r.n → 0 ≤ Rk.lenS r.F k q ∧ Rk.lenS r.F k q ≤ k * 1000000 := by
    intro k
    induction k with
    | zero => intro _; simp [Rk.lenS_0]
    | succ k ih =>
      intro hk
      have h1 := ih (by omega)
      have h2 := hF k (by omega)
      rw [Rk.lenS_succ]
      split <;> omega
  refine ref03_Length.pure (by simp) ?_
  simp
  intro s2
  refine Lp.intro (σ := Nat) (inv := fun k => k ≤ r.n) (vw := fun k => [(1, .int .i64 q), (2, .ptr 2 0 (s2+1)), (5, .int .i64 (Rk.lenS r.F k q)), (6, .int .i64 k)])
    (hp := fun _ => [(2, .row r.cells (s2+1))]) (ms := fun k => r.n - k) 0 (by simp) (by simp [Rk.lenS_0]) (by simp [Rak.cells]) ?_
  intro k hk J hJ
  have hbk := hb k hk
  by_cases hkc : k < r.n
  · have hkl : k < r.f.length := hkc
    have hFk := hF k hkc
    have hFe : r.f[k] = r.F k := by unfold Rak.F; rw [ofL_at _ hkl]
    have hst := Rk.lenS_succ r.F k q
    simp [hkl, Rak.cells]
    refine PCallK.intro (PInv.func (ref01_Has_ok q hq k (by omega))) ?_
    cases hkq : inS q k with
    | false =>
      rw [hkq] at hst
      simp
      (repeat first | refine And.intro (by omega) ?_ | refine And.intro (Fits.of (by omega) (by omega)) ?_)
      exact hJ.next (k + 1) (by omega) (by omega) (by simp [hst]) (by simp [Rak.cells])
    | true =>
      rw [hkq] at hst
      simp [hkl, hFe]
      refine ⟨by unfold Fits; omega, ?_⟩
      (repeat first | refine And.intro (by omega) ?_ | refine And.intro (Fits.of (by omega) (by omega)) ?_)
      exact hJ.next (k + 1) (by omega) (by omega) (by simp [hst]) (by simp [Rak.cells])
  obtain rfl : k = r.n := by omega
  simp [Rak.cells, hfn]
  refine hJ.exit ?_
  simp
  exact RetV.refl rfl

end Go.Cw
end

/- Rake: what the document fixes of its example is met; which rakes a law goes through. -/
section
set_option maxRecDepth 100000
set_option linter.unusedSimpArgs false
namespace Go.Cw
open Go Go.Proofs

/-- The document's example. -/
def rsm : Rak := ⟨⟨[⟨2, 0, 3⟩, ⟨5, -1, 2⟩, ⟨5, 1, 4⟩], [⟨3, 0, 1, 2⟩, ⟨6, 0, 4, 4⟩]⟩, [4, 3, 5]⟩
theorem rsm_small : rsm.Small := ⟨⟨by simp [rsm], by simp [rsm]⟩, by simp [rsm]⟩
theorem rsm_valid : rsm.Valid := ⟨⟨by simp [rsm, Hul.n], by simp [rsm, Hul.n], by simp [rsm, Hul.k], by decide, by decide⟩, by simp [rsm, Hul.n], by decide⟩
theorem rsm_S : rsm.S = [3, 5, 7] := by
  have h : rsm.h.truths rsm.h.every = [[1, 0, 3], [1, 1, 2], [1, 2, 1], [2, 0, 2], [2, 1, 1], [2, 2, 0]] := by decide +kernel
  unfold Rak.S Hul.setsL
  rw [h]
  exact sortI_eq (by decide +kernel) (by unfold SortedI; decide +kernel)
theorem rsm_n : rsm.n = 3 := rfl
theorem rsm_F : rsm.F = ofL [4, 3, 5] := rfl
def rsmE (l : List (Int × Bool)) (is : Bool) : Int := if (∀ x ∈ l, 0 ≤ x.1 ∧ x.1 < ((3 : Nat) : Int)) ∧ is = true then (if (l.map Prod.fst).Nodup then (if Rk.agF [3, 5, 7] l = [] then 10 else 0) else 5) else 2
theorem rsm_err (l : List (Int × Bool)) (is : Bool) : rsm.errE l is = rsmE l is := by
  unfold Rak.errE rsmE
  rw [if_pos rsm_valid, rsm_S]
  rfl
theorem rsm_known (l : List (Int × Bool)) {X : List Int} {e : Int} (h : ((if rsmE l true = 0 then Rk.agF [3, 5, 7] l else []), rsmE l true) = (X, e)) : rsm.knownV l = .tup [L X, .int .i64 e] := by
  rw [Prod.mk.injEq] at h
  unfold Rak.knownV
  rw [rsm_err, rsm_S, h.1, h.2]
theorem rsm_next (l : List (Int × Bool)) {a : Nat} {b e : Int} (h : (if rsmE l true = 0 then (if (Rk.agF [3, 5, 7] l).length ≤ 1 then (0, 0, 4) else ((Rk.planQ 3 (ofL [4, 3, 5]) false (Rk.agF [3, 5, 7] l) (Rk.fq l)).1, (Rk.planQ 3 (ofL [4, 3, 5]) false (Rk.agF [3, 5, 7] l) (Rk.fq l)).2, 0)) else (0, 0, rsmE l true)) = ((a, b, e) : Nat × Int × Int)) : rsm.nextV l = .tup [.int .i64 a, .int .i64 b, .int .i64 e] := by
  have : rsm.nextP l = (a, b, e) := by
    rw [← h]
    unfold Rak.nextP
    rw [rsm_err, rsm_S, rsm_n, rsm_F]
  unfold Rak.nextV
  rw [this]
theorem rsm_worst : rsm.worstV = .tup [.int .i64 8, .int .i64 0] := by
  unfold Rak.worstV
  rw [rsm_err, rsm_S, rsm_n, rsm_F, show rsmE [] true = 0 by decide +kernel, show Rk.planQ 3 (ofL [4, 3, 5]) false [3, 5, 7] 0 = (1, 8) by decide +kernel]
  rfl
theorem rsm_any : rsm.anyV = .tup [.int .i64 0, .int .i64 4, .int .i64 0] := by
  unfold Rak.anyV Rak.anyP
  rw [rsm_err, rsm_S, rsm_n, rsm_F, show rsmE [] true = 0 by decide +kernel, show Rk.planQ 3 (ofL [4, 3, 5]) true [3, 5, 7] 0 = (0, 4) by decide +kernel]
  rfl
theorem rsm_ord : rsm.ordV = .tup [L [1, 2, 0], .int .i64 8, .int .i64 0] := by
  unfold Rak.ordV Rak.ordL Rak.ordN
  rw [rsm_err, rsm_S, rsm_n, rsm_F, show rsmE [] true = 0 by decide +kernel, show Rk.ordP 3 (ofL [4, 3, 5]) [3, 5, 7] = ([1, 2, 0], 8) by decide +kernel]
  rfl
theorem rsm_en : rsm.enV = .tup [.int .i64 6, .int .i64 8, .int .i64 0] := by
  unfold Rak.enV
  rw [rsm_err, rsm_S, rsm_n, rsm_F, show rsmE [] true = 0 by decide +kernel, show Rk.enP 3 (ofL [4, 3, 5]) [3, 5, 7] = (6, 8) by decide +kernel]
  rfl
theorem rsm_cost (o : List Int) (s : Int) (ho : Rk.IsOrd 3 o ∧ 0 ≤ s ∧ s < 2 ^ 3) {a e : Int} (h : (if s ∈ [3, 5, 7] then (Rk.costL (ofL [4, 3, 5]) (Rk.toN o) [3, 5, 7] s, 0) else (0, 4)) = ((a, e) : Int × Int)) : rsm.costV o s = .tup [.int .i64 a, .int .i64 e] := by
  have hA : rsm.Ask o s := ho
  have : rsm.costP o s = (a, e) := by
    rw [← h]
    unfold Rak.costP
    rw [decide_eq_true hA, rsm_err, rsm_S, rsm_F, show rsmE [] true = 0 by decide +kernel]
    rfl
  unfold Rak.costV
  rw [this]

theorem law03_span_ok (a b : Int) : APure Pg fn_law03_span [.int .i64 a, .int .i64 b] (SP2 (a, b)) := by
  refine law03_span.pure (by simp) ?_
  simp
  intro s
  exact RetV.refl (by simp [SP2])
theorem law03_find_ok (a : Int) (b : Bool) : APure Pg fn_law03_find [.int .i64 a, .bool b] (.agg [.int .i64 a, .bool b]) := by
  refine law03_find.pure (by simp) ?_
  simp
  intro s
  exact RetV.refl (by simp)
theorem law03_ints_ok (a b : List Int) (ha : a.length ≤ 100000) (hb : b.length ≤ 100000) : APure Pg fn_law03_ints [L a, L b] (.bool (decide (a = b))) := by
  refine law03_ints.pure (by simp) ?_
  simp
  refine PCallK.intro (PInv.func (ref01_Ints_ok a b ha hb)) ?_
  simp
  exact RetV.refl rfl
theorem law03_sample_ok : APure Pg fn_law03_sample [] rsm.v := by
  refine law03_sample.pure (by simp) ?_
  simp
  intro s1 s2
  refine PCallK.intro (PInv.func (law03_span_ok _ _)) ?_
  simp [SP2]
  refine PCallK.intro (PInv.func (law03_span_ok _ _)) ?_
  simp [SP2]
  intro s3 s4
  refine RetV.frz 4 rfl (RetV.frz 9 rfl (RetV.frz 11 rfl (RetV.refl ?_)))
  simp [rsm, LS, LD, sms, sds, fl, Sm.c, Sd.c, L, ints]
theorem law03_alive_ok : APure Pg fn_law03_alive [] (.bool true) := by
  refine law03_alive.pure (by simp) ?_
  simp
  refine PCallK.intro (PInv.func law03_sample_ok) ?_
  simp
  refine PCallK.intro (PInv.func (law03_find_ok 1 true)) ?_
  simp
  intro s1
  refine FCall.frz1 22 rfl (v := .tup [L [3, 7], .int .i64 0]) ?_ trivial ?_
  · have := rake_Known_ok rsm rsm_small [(1, true)] (by simp)
    rw [rsm_known [(1, true)] (X := [3, 7]) (e := 0) (by decide +kernel)] at this
    simpa [LK, fds, fl, fdC] using PInv.func (first := []) (cap := []) (args := [rsm.v, LK [(1, true)]]) this
  simp
  refine PCallK.intro (PInv.func law03_sample_ok) ?_
  simp
  refine PCallK.intro (v := .tup [.int .i64 1, .int .i64 8, .int .i64 0]) (fun hh => AInvoke.ale (ALe.refl _) (args' := [rsm.v, LK []]) ⟨ALe.refl _, ALe.nils_vl, trivial⟩ (PInv.func (first := []) (cap := []) (args := [rsm.v, LK []]) (by
    have := rake_Next_ok rsm rsm_small [] (by simp)
    rw [rsm_next [] (a := 1) (b := 8) (e := 0) (by decide +kernel)] at this
    exact this) hh)) ?_
  simp
  refine PCallK.intro (PInv.func law03_sample_ok) ?_
  simp
  refine PCallK.intro (PInv.func (first := []) (cap := []) (args := [rsm.v]) (rake_Worst_ok rsm rsm_small)) ?_
  rw [rsm_worst]
  simp
  refine PCallK.intro (PInv.func law03_sample_ok) ?_
  simp
  intro s2
  refine FCall.frz1 39 rfl (v := .tup [.int .i64 3, .int .i64 0]) ?_ trivial ?_
  · have := rake_Cost_ok rsm rsm_small [1, 2, 0] (by simp) 5
    rw [rsm_cost [1, 2, 0] 5 (by decide +kernel) (a := 3) (e := 0) (by decide +kernel)] at this
    simpa [L] using PInv.func (first := []) (cap := []) (args := [rsm.v, L [1, 2, 0], .int .i64 5]) this
  simp
  refine PCallK.intro (PInv.func law03_sample_ok) ?_
  simp
  refine PCallK.intro (PInv.func (first := []) (cap := []) (args := [rsm.v]) (rake_Order_ok rsm rsm_small)) ?_
  rw [rsm_ord]
  simp
  refine PCallK.intro (PInv.func law03_sample_ok) ?_
  simp
  refine PCallK.intro (PInv.func (first := []) (cap := []) (args := [rsm.v]) (rake_Enough_ok rsm rsm_small)) ?_
  rw [rsm_en]
  simp
  refine PCallK.intro (PInv.func law03_sample_ok) ?_
  simp
  refine PCallK.intro (PInv.func (first := []) (cap := []) (args := [rsm.v]) (rake_Any_ok rsm rsm_small)) ?_
  rw [rsm_any]
  simp
  intro s3
  refine FCall.frz1 62 rfl (v := .bool true) ?_ trivial ?_
  · simpa [L] using PInv.func (first := []) (cap := []) (args := [L [3, 7], L [3, 7]]) (law03_ints_ok [3, 7] [3, 7] (by simp) (by simp))
  simp
  intro s4
  refine FCall.frz1 98 rfl (v := .bool true) ?_ trivial ?_
  · simpa [L] using PInv.func (first := []) (cap := []) (args := [L [1, 2, 0], L [1, 2, 0]]) (law03_ints_ok [1, 2, 0] [1, 2, 0] (by simp) (by simp))
  simp
  exact RetV.refl rfl
/-- How long the longest list is. -/
def Rak.many (r : Rak) (l : List (Int × Bool)) (ls : List (List Int)) : Int := ls.foldl (fun m x => max m (x.length : Int)) (max (max (max (r.h.seams.length : Int) (r.h.snds.length : Int)) (r.f.length : Int)) (l.length : Int))
def Rak.longB (r : Rak) (l : List (Int × Bool)) (ls : List (List Int)) : Bool := decide (40 < r.many l ls)
theorem Rak.many_push (r : Rak) (l : List (Int × Bool)) (ls : List (List Int)) (x : List Int) : r.many l (ls ++ [x]) = max (r.many l ls) (x.length : Int) := by simp [Rak.many]
theorem Rak.many_le {r : Rak} {l : List (Int × Bool)} (ls : List (List Int)) : r.h.seams.length ≤ r.many l ls ∧ r.h.snds.length ≤ r.many l ls ∧ r.f.length ≤ r.many l ls ∧ l.length ≤ r.many l ls ∧ ∀ x ∈ ls, (x.length : Int) ≤ r.many l ls := by
  induction ls using Rk.push_ind with
  | h0 => simp [Rak.many]; omega
  | h1 ls x ih =>
    rw [Rak.many_push]
    obtain ⟨a, b, c, d, e⟩ := ih
    refine ⟨by omega, by omega, by omega, by omega, fun y hy => ?_⟩
    rcases List.mem_append.1 hy with h | h
    · have := e y h; omega
    · simp at h; subst h; omega
theorem Rak.short {r : Rak} {l : List (Int × Bool)} {ls : List (List Int)} (h : r.longB l ls = false) : r.Small ∧ l.length ≤ 40 ∧ ∀ x ∈ ls, x.length ≤ 40 := by
  unfold Rak.longB at h
  rw [decide_eq_false_iff_not] at h
  obtain ⟨a, b, c, d, e⟩ := Rak.many_le (r := r) (l := l) ls
  exact ⟨⟨⟨by omega, by omega⟩, by omega⟩, by omega, fun x hx => by have := e x hx; omega⟩
theorem law03_long_ok (r : Rak) (l : List (Int × Bool)) (ls : List (List Int)) (hls : ls.length ≤ 10) : APure Pg fn_law03_long [r.v, LK l, LLv ls] (.bool (r.longB l ls)) := by
  refine law03_long.pure (by simp) ?_
  simp
  intro s3
  refine Lp.intro (σ := Nat) (inv := fun k => k ≤ ls.length) (vw := fun k => [(7, .int .i64 (r.many l (ls.take k))), (24, LLv ls), (25, .int .i64 ls.length), (26, .int .i64 k)]) (hp := fun _ => []) (ms := fun k => ls.length - k) 0 (by simp) (by simp [Rak.many]) (by simp) ?_
  intro k hk J hJ
  by_cases hkc : k < ls.length
  · obtain ⟨x, hx⟩ : ∃ x, ls[k] = x := ⟨_, rfl⟩
    have hst : r.many l (ls.take (k + 1)) = max (r.many l (ls.take k)) (x.length : Int) := by rw [← List.take_append_getElem hkc, hx, Rak.many_push]
    have hget : ls[k]? = some x := by rw [List.getElem?_eq_getElem hkc, hx]
    simp [hkc, hget, hx, ← hst]
    (repeat first | refine And.intro (by omega) ?_ | refine And.intro (Fits.of (by omega) (by omega)) ?_)
    exact hJ.next (k + 1) (by omega) (by omega) (by simp) (by simp)
  obtain rfl : k = ls.length := by omega
  simp
  refine hJ.exit ?_
  simp
  exact RetV.refl (by simp [Rak.longB])
theorem law03_long0 (r : Rak) (l : List (Int × Bool)) : PInv Pg (.func (.func fn_law03_long) [] []) [r.v, LK l, .nils] (.bool (r.longB l [])) := fun hh =>
  AInvoke.ale (ALe.refl _) (args' := [r.v, LK l, LLv []]) ⟨ALe.refl _, ALe.refl _, ALe.nils_vl, trivial⟩ (PInv.func (first := []) (cap := []) (args := [r.v, LK l, LLv []]) (law03_long_ok r l [] (by simp)) hh)
theorem law03_long00 (r : Rak) : PInv Pg (.func (.func fn_law03_long) [] []) [r.v, .nils, .nils] (.bool (r.longB [] [])) := fun hh =>
  AInvoke.ale (ALe.refl _) (args' := [r.v, LK [], .nils]) ⟨ALe.refl _, ALe.nils_vl, ALe.refl _, trivial⟩ (law03_long0 r [] hh)
noncomputable def Rak.heavyB (r : Rak) (n : Int) (l : List (Int × Bool)) (ls : List (List Int)) : Bool := if r.longB l ls then true else if r.Valid then decide (n < (r.n : Int)) else false

theorem Rak.light {r : Rak} {n : Int} {l : List (Int × Bool)} {ls : List (List Int)} (h : r.heavyB n l ls = false) : r.longB l ls = false := by
  unfold Rak.heavyB at h
  split at h
  · cases h
  · rename_i hl; simpa using hl
end Go.Cw
end

/- The laws RakeTells, RakeOrders, RakeNames. -/
section
set_option maxRecDepth 100000
set_option linter.unusedSimpArgs false
namespace Go.Cw
open Go Go.Proofs

theorem Rak.known_len {r : Rak} (l : List (Int × Bool)) : (if r.errE l true = 0 then Rk.agF r.S l else []).length ≤ 100000 := by
  split
  · rename_i h
    have h1 := Rak.S_len (Rak.errE_zero.1 h).1
    have h2 := (Rk.agF_sub r.S l).length_le
    omega
  · simp



end Go.Cw
end

/- How a rake is read as an argument. -/
section
set_option maxRecDepth 100000
namespace Go.Cw
open Go Go.Proofs

section
variable {w : World} {μ : Mu}

theorem opens_int : Opens Pg w μ 3 fun av => ∃ n, (Lit.int .i64 n).wf = true ∧ av = [.int .i64 n] := Opens.int Tryz.underlying3 (by kernel_rfl)
theorem opens_bool : Opens Pg w μ 4 fun av => ∃ b, av = [.bool b] := Opens.bool Tryz.underlying4 (by kernel_rfl)
theorem opens_ints : Opens Pg w μ 26 fun av => ∃ l : List Int, av = [L l] := Opens.ints Tryz.underlying26 (by kernel_rfl) Tryz.underlying3 (by kernel_rfl)
theorem opens_span : Opens Pg w μ 65 fun av => ∃ p : Int × Int, av = [.int .i64 p.1, .int .i64 p.2] := by
  refine (Opens.struct (Vs := [_, _]) Tryz.underlying65 (by kernel_rfl) ⟨rfl, opens_int, by kernel_rfl, opens_int, trivial⟩).mono ?_
  rintro av ⟨ass, h, rfl⟩
  obtain ⟨a, b, rfl, ⟨n, _, rfl⟩, ⟨m, _, rfl⟩⟩ := h.two
  exact ⟨(n, m), rfl⟩
theorem opens_seam : Opens Pg w μ 118 fun av => ∃ a : Sm, av = a.c := by
  refine (Opens.struct (Vs := [_, _, _]) Tryz.underlying118 (by kernel_rfl) ⟨rfl, opens_int, by kernel_rfl, opens_int, by kernel_rfl, opens_int, trivial⟩).mono ?_
  rintro av ⟨ass, h, rfl⟩
  obtain ⟨a, b, c, rfl, ⟨n, _, rfl⟩, ⟨m, _, rfl⟩, ⟨k, _, rfl⟩⟩ := h.three
  exact ⟨⟨n, m, k⟩, rfl⟩
theorem opens_sounding : Opens Pg w μ 67 fun av => ∃ a : Sd, av = a.c := by
  refine (Opens.struct (Vs := [_, _, _]) Tryz.underlying67 (by kernel_rfl) ⟨rfl, opens_int, by kernel_rfl, opens_int, by kernel_rfl, opens_span, trivial⟩).mono ?_
  rintro av ⟨ass, h, rfl⟩
  obtain ⟨a, b, c, rfl, ⟨n, _, rfl⟩, ⟨m, _, rfl⟩, ⟨p, rfl⟩⟩ := h.three
  exact ⟨⟨n, m, p.1, p.2⟩, rfl⟩
theorem c118 : 0 < Pg.cellsOf 118 := by rw [show Pg.cellsOf 118 = 3 by kernel_rfl]; omega
theorem c67 : 0 < Pg.cellsOf 67 := by rw [show Pg.cellsOf 67 = 4 by kernel_rfl]; omega
theorem opens_hull : Opens Pg w μ 25 fun av => ∃ h : Hul, av = h.cells := by
  refine (Opens.struct (Vs := [_, _]) Tryz.underlying25 (by kernel_rfl) ⟨rfl, Opens.fl Tryz.underlying22 (by kernel_rfl) c118 opens_seam, by kernel_rfl, Opens.fl Tryz.underlying23 (by kernel_rfl) c67 opens_sounding, trivial⟩).mono ?_
  rintro av ⟨ass, h, rfl⟩
  obtain ⟨a, b, rfl, ⟨n, rfl⟩, ⟨m, rfl⟩⟩ := h.two
  exact ⟨⟨n, m⟩, rfl⟩
theorem opens_find : Opens Pg w μ 48 fun av => ∃ a : Int × Bool, av = fdC a := by
  refine (Opens.struct (Vs := [_, _]) Tryz.underlying48 (by kernel_rfl) ⟨rfl, opens_int, by kernel_rfl, opens_bool, trivial⟩).mono ?_
  rintro av ⟨ass, h, rfl⟩
  obtain ⟨a, b, rfl, ⟨n, _, rfl⟩, ⟨m, rfl⟩⟩ := h.two
  exact ⟨(n, m), rfl⟩
theorem c48 : 0 < Pg.cellsOf 48 := by rw [show Pg.cellsOf 48 = 2 by kernel_rfl]; omega
theorem opens_finds : Opens Pg w μ 29 fun av => ∃ l : List (Int × Bool), av = [LK l] := Opens.fl Tryz.underlying29 (by kernel_rfl) c48 opens_find
theorem opens_rake : Opens Pg w μ 28 fun av => ∃ r : Rak, av = r.cells := by
  refine (Opens.struct (Vs := [_, _]) Tryz.underlying28 (by kernel_rfl) ⟨rfl, opens_hull, by kernel_rfl, opens_ints, trivial⟩).mono ?_
  rintro av ⟨ass, h, rfl⟩
  obtain ⟨a, b, rfl, ⟨n, rfl⟩, ⟨m, rfl⟩⟩ := h.two
  exact ⟨⟨n, m⟩, rfl⟩
theorem opens_u8 : Opens Pg w μ 5 fun av => ∃ n : Int, (0 ≤ n ∧ n ≤ 255) ∧ av = [.int .u8 n] :=
  (Opens.int Tryz.underlying5 (by kernel_rfl)).mono fun av ⟨n, h1, h2⟩ => ⟨n, bounds_u8 h1, h2⟩
end

theorem kids : Kids Pg (· < Pg.types.size) := kids_rows (by kernel_rfl) (by kernel_rfl)
theorem slices_full : ∀ t e, t < Pg.types.size → Pg.underlying t = some (.slice e) → 0 < Pg.cellsOf e := slices_full_of Pg (by kernel_rfl)
theorem ownKnobNone : ownKnob Pg.godebug = none := by kernel_rfl

end Go.Cw
end

/- What is found if a seam is raked; the law RakeEnough. -/
section
set_option maxRecDepth 100000
set_option linter.unusedSimpArgs false
namespace Go.Cw
open Go Go.Proofs

theorem law03_finding_ok (i : Nat) (hi : i ≤ 60) (s : Int) (hs : 0 ≤ s ∧ s < 2 ^ 62) : APure Pg fn_law03_finding [.int .i64 i, .int .i64 s] (.agg [.int .i64 i, .bool (inS s i)]) := by
  have hdv : 0 ≤ s / 2 ^ i := Int.ediv_nonneg hs.1 (by have := two_pow_pos i; omega)
  have hand := bitI_and1 hdv (by have := Int.ediv_le_self (2 ^ i) hs.1; omega)
  refine law03_finding.pure (by simp) ?_
  simp [hand]
  intro s4
  refine ⟨by omega, ?_⟩
  refine PCallK.intro (PInv.func (law03_find_ok i (decide (s / 2 ^ i % 2 = 1)))) ?_
  simp
  exact RetV.refl rfl
theorem Sl.toV {n : Nat} {K : KT} {tm : TM} {df : DF} {h : Heap} (l : List (Nat × AVal)) (k : List (Nat × AObj)) (en : Sl n (fun tm' df' h' => df' = df ∧ Vw l tm' ∧ Hw k h') tm df h) (hK : K (tmV l) df (hpV k)) : Sl n K tm df h := by
  obtain ⟨tm₁, df₁, h₁, a, rfl, hv, hh⟩ := en
  exact ⟨_, _, _, a.trans (SLe.view hv hh), hK⟩
/-- A list that has grown becomes a value, by a temporary. -/
theorem Sl.gSt {n : Nat} {K : KT} {tm : TM} {df : DF} {h : Heap} (t nm : Nat) {cells : List AVal} {m s esz : Nat} (ht : tm t = gS esz nm m s) (hr : h nm = gO m cells s)
    (k0 : m = 0 → Sl n K (upd tm t (.vl 0 [])) df h) (k1 : m ≠ 0 → Sl n K (frzT nm s cells tm) df (upd h nm .dead)) : Sl n K tm df h := by
  by_cases h0 : m = 0
  · exact Sl.wk t (.vl 0 []) (by rw [ht, gS, if_pos h0]; exact ALe.es_vl) (k0 h0)
  · exact Sl.frz nm (by rw [hr, gO, if_neg h0]) (k1 h0)
namespace Rak
variable {r : Rak}
theorem S_small (hv : r.Valid) {s : Int} (hs : s ∈ r.S) : 0 ≤ s ∧ s < 64 := by
  have h1 := S_in hv s hs
  have h2 := two_pow_le hv.n6
  have e6 : (2 : Int) ^ 6 = 64 := by decide
  omega
/-- What is told of findings that a set agrees with. -/
theorem errE_mem (hv : r.Valid) {l : List (Int × Bool)} (hf : Rk.Fnd r.n l) {s : Int} (hs : s ∈ Rk.agF r.S l) : r.errE l true = 0 := by
  rw [errE_of hv hf rfl, if_neg]
  intro h; rw [h] at hs; cases hs
theorem knownV_mem (hv : r.Valid) {l : List (Int × Bool)} (hf : Rk.Fnd r.n l) {s : Int} (hs : s ∈ Rk.agF r.S l) : r.knownV l = .tup [L (Rk.agF r.S l), .int .i64 0] := by
  unfold knownV
  rw [errE_mem hv hf hs, if_pos rfl]
theorem self_agF {t : Int} (ht : t ∈ r.S) (n : Nat) (q : Int) : t ∈ Rk.agF r.S (Rk.fnds n q t) := Rk.agF_fnds.2 ⟨ht, Rk.same_refl _ _⟩
theorem fnds_len (n : Nat) (q t : Int) : (Rk.fnds n q t).length ≤ n := by
  unfold Rk.fnds Rk.els
  rw [List.length_map]
  exact Nat.le_trans (List.length_filter_le _ _) (by simp)
end Rak


end Go.Cw
end

/- The law RakeEnough. -/
section
set_option maxRecDepth 100000
set_option linter.unusedSimpArgs false
namespace Go.Cw
open Go Go.Proofs

theorem bitsI_andNot (p q : Nat → Bool) {n : Nat} (hn : n ≤ 60) : bitI .andNot .i64 (bits p n) (bits q n) = bits (fun i => p i && !q i) n := by
  have ha := natB_lt62 p hn
  have hb := natB_lt62 q hn
  have hc := natB_lt62 (fun i => p i && !q i) hn
  rw [bits_natB, bits_natB, bits_natB]
  have key : (BitVec.ofNat 64 (natB p n) &&& ~~~(BitVec.ofNat 64 (natB q n))).toNat = natB (fun i => p i && !q i) n := by
    apply Nat.eq_of_testBit_eq
    intro i
    rw [← BitVec.getLsbD, BitVec.getLsbD_and, BitVec.getLsbD_not, BitVec.getLsbD_ofNat, BitVec.getLsbD_ofNat, natB_bit, natB_bit, natB_bit]
    by_cases hi : i < n
    · have : i < 64 := by omega
      simp [hi, this]
    · simp [hi]
  show IntKind.i64.wrap (Int.ofNat (BitVec.ofInt 64 (natB p n : Nat) &&& ~~~(BitVec.ofInt 64 (natB q n : Nat))).toNat) = _
  rw [BitVec.ofInt_natCast, BitVec.ofInt_natCast, key]
  have hh : ((natB (fun i => p i && !q i) n : Nat) : Int) < 2 ^ 62 := by exact_mod_cast hc
  simp [IntKind.wrap, IntKind.signed, IntKind.bits]
  omega
namespace Rk
theorem bits_self {n : Nat} {q : Int} (hq : 0 ≤ q ∧ q < 2 ^ n) : bits (inS q) n = q := bits_of hq.1 hq.2
theorem bits_all1 (n : Nat) : bits (fun _ => true) n = 2 ^ n - 1 := by
  induction n with
  | zero => rfl
  | succ n ih => simp only [bits, ih, if_true]; rw [Int.pow_succ]; omega
/-- A set among all seams. -/
theorem and_every {m : Int} (hm : 0 ≤ m ∧ m < 2 ^ 60) {n : Nat} (hn : n ≤ 60) : ∃ o, bitI .and .i64 m (2 ^ n - 1) = o ∧ (0 ≤ o ∧ o < 2 ^ n) ∧ ∀ i, i < n → inS o i = inS m i := by
  have h2 : (2 : Int) ^ n - 1 = bits (fun i => decide (i < n)) 60 := by
    rw [bits_more (n := n) hn fun i h1 h2 => by simpa using h1, bits_congr (q := fun _ => true) fun i hi => by simpa using hi, bits_all1]
  refine ⟨bits (inS m) n, ?_, bits_lt _ _, fun i hi => inS_bits _ hi⟩
  conv => lhs; rw [h2, ← bits_self hm]
  rw [bitsI_and _ _ (by omega), bits_more (n := n) hn fun i h1 h2 => by simp; omega]
  exact bits_congr fun i hi => by simp [hi]
/-- A set without one of its seams. -/
theorem less {n : Nat} (hn : n ≤ 60) {q : Int} (hq : 0 ≤ q ∧ q < 2 ^ n) {i : Nat} (hi : i < n) : ∃ p : Nat, bitI .andNot .i64 q (2 ^ i) = p ∧ p < 2 ^ n ∧ ∀ j, j < n → inS (p : Int) j = (inS q j && !decide (j = i)) := by
  have e1 : bitI .andNot .i64 q (2 ^ i) = bits (fun j => inS q j && !decide (j = i)) n := by
    conv => lhs; rw [← bits_self hq, ← bits_one hi]
    exact bitsI_andNot _ _ hn
  have hb := bits_lt (fun j => inS q j && !decide (j = i)) n
  have hpc := pow_cast n
  obtain ⟨p, hp⟩ : ∃ p : Nat, (p : Int) = bits (fun j => inS q j && !decide (j = i)) n := ⟨_, Int.toNat_of_nonneg hb.1⟩
  refine ⟨p, by rw [e1, hp], by omega, fun j hj => ?_⟩
  rw [hp, inS_bits _ hj]
end Rk
namespace Rak
variable {r : Rak}
theorem errE_nil (hv : r.Valid) : r.errE [] true = if r.S = [] then 10 else 0 := by
  rw [errE_of hv Rk.Fnd.nil rfl, agF_nil]
theorem inS_truth (hv : r.Valid) {t : List Int} (ht : t ∈ r.h.truths r.h.every) {i : Nat} (hi : i < r.n) : inS (leaksT t) i = decide (0 < ofL t i) := by
  have h1 := (truths_in hv.h ht).1
  unfold leaksT
  rw [inS_bits _ (by rw [h1, ← show r.n = r.h.n from hv.len]; exact hi)]
/-- No seam of the sets that tell all surely leaks, or surely does not. -/
theorem en_leaks (hv : r.Valid) : bitI .and .i64 ((Rk.enP r.n r.F r.S).1 : Int) (bits (sureL (r.h.truths r.h.every)) 6) = 0 ∧ bitI .andNot .i64 ((Rk.enP r.n r.F r.S).1 : Int) (bits (canL (r.h.truths r.h.every)) 6) = 0 := by
  have hsp := Rk.enP_spec (n := r.n) (f := r.F) S_nodup (S_in hv)
  have hpc := Rk.pow_cast r.n
  have h2p := two_pow_le hv.n6
  obtain ⟨q, hq⟩ : ∃ q : Int, q = ((Rk.enP r.n r.F r.S).1 : Int) := ⟨_, rfl⟩
  have hqn : 0 ≤ q ∧ q < 2 ^ r.n := by omega
  have hq6 : 0 ≤ q ∧ q < 2 ^ 6 := by omega
  have hop : ∀ i, inS q i = true → i < r.n ∧ ∃ s ∈ r.S, ∃ t ∈ r.S, inS s i = true ∧ inS t i = false := fun i hi => by
    have hin : i < r.n := Nat.lt_of_not_le fun h => by rw [Rk.inS_big hqn h] at hi; cases hi
    rw [hq] at hi
    exact ⟨hin, Rk.en_open (fun i hi => by have := hv.fat hi; unfold F; omega) S_nodup (S_in hv) hin hi⟩
  rw [← hq, ← Rk.bits_self hq6]
  constructor
  · rw [bitsI_and _ _ (by omega), bits_zero]
    intro i _
    cases hi : inS q i with
    | false => rfl
    | true =>
      obtain ⟨hin, _, _, t, ht, _, h2⟩ := hop i hi
      obtain ⟨u, hu, rfl⟩ := mem_S.1 ht
      rw [inS_truth hv hu hin] at h2
      rw [Bool.true_and]
      unfold sureL
      rw [List.all_eq_false]
      exact ⟨u, hu, by simpa using h2⟩
  · rw [bitsI_andNot _ _ (by omega), bits_zero]
    intro i _
    cases hi : inS q i with
    | false => rfl
    | true =>
      obtain ⟨hin, s, hs, _, _, h1, _⟩ := hop i hi
      obtain ⟨u, hu, rfl⟩ := mem_S.1 hs
      rw [inS_truth hv hu hin] at h1
      have : canL (r.h.truths r.h.every) i = true := by
        unfold canL
        rw [List.any_eq_true]
        exact ⟨u, hu, h1⟩
      rw [this]; rfl
end Rak
theorem rake_Known0 (r : Rak) (hs : r.Small) : PInv Pg (.func (.func fn_rake_Known) [] []) [r.v, .nils] (r.knownV []) := fun hh =>
  AInvoke.ale (ALe.refl _) (args' := [r.v, LK []]) ⟨ALe.refl _, ALe.nils_vl, trivial⟩ (PInv.func (first := []) (cap := []) (args := [r.v, LK []]) (rake_Known_ok r hs [] (by simp)) hh)
section
variable {F n₀ : Nat} {inr : Bool} {keep : List Nat} {fa fl : List It} {t : Option Nat} {K : KT} {Q : Post} {tm : TM} {df : DF} {h : Heap}


end

end Go.Cw
end

/- The law RakeBest: what is left behind one seam more. -/
section
set_option maxRecDepth 100000
set_option linter.unusedSimpArgs false
namespace Go.Cw
open Go Go.Proofs

theorem and8 : ∀ a : Nat, a < 256 → bitI .and .u8 (a : Int) 1 = (a : Int) % 2 := by decide +kernel
theorem bit8 {w : Int} (hw : 0 ≤ w ∧ w ≤ 255) (i : Nat) : bitI .and .u8 (w / 2 ^ i) 1 = if inS w i then 1 else 0 := by
  have h0 := two_pow_pos i
  have h1 : 0 ≤ w / 2 ^ i := Int.ediv_nonneg hw.1 (by omega)
  have h2 : w / 2 ^ i ≤ w := Int.ediv_le_self _ hw.1
  have h3 := and8 (w / 2 ^ i).toNat (by omega)
  rw [Int.toNat_of_nonneg h1] at h3
  rw [h3]
  unfold inS
  simp only [decide_eq_true_eq]
  split <;> omega
/-- A list that has grown becomes a value, by a cell. -/
theorem Sl.gSc {n : Nat} {K : KT} {tm : TM} {df : DF} {h : Heap} (rc nm : Nat) {cells : List AVal} {m s esz sc : Nat} (hc : h rc = .row [gS esz nm m s] sc) (hr : h nm = gO m cells s)
    (k0 : m = 0 → Sl n K tm df (upd h rc (.row [.vl 0 []] sc))) (k1 : m ≠ 0 → Sl n K (frzT nm s cells tm) df (frzH nm s cells (upd h nm .dead))) : Sl n K tm df h := by
  by_cases h0 : m = 0
  · exact Sl.rowLe rc [.vl 0 []] hc ⟨by rw [gS, if_pos h0]; exact ALe.es_vl, trivial⟩ (k0 h0)
  · exact Sl.frzHp nm (by rw [hr, gO, if_neg h0]) (k1 h0)
namespace Rak
variable {r : Rak}
/-- What Next tells of findings behind one seam more. -/
theorem nextP_push (hv : r.Valid) {l : List (Int × Bool)} (hf : Rk.Fnd r.n l) {i : Nat} (hi : i < r.n) (hni : ((i : Nat) : Int) ∉ l.map Prod.fst) (b : Bool) :
    (2 ≤ (Rk.agF r.S (l ++ [((i : Int), b)])).length ∧ r.nextP (l ++ [((i : Int), b)]) = ((Rk.planQ r.n r.F false (Rk.agF r.S (l ++ [((i : Int), b)])) (Rk.fq (l ++ [((i : Int), b)]))).1, (Rk.leftB r.n r.F r.S l i b), 0)) ∨
    (Rk.leftB r.n r.F r.S l i b = 0 ∧ (r.nextP (l ++ [((i : Int), b)]) = (0, 0, 4) ∨ r.nextP (l ++ [((i : Int), b)]) = (0, 0, 10))) := by
  have hf1 := hf.push (x := ((i : Int), b)) ⟨by simp, by simp; omega⟩ hni
  have hE := errE_of (is := true) hv hf1 rfl
  unfold nextP Rk.leftB
  rw [hE]
  by_cases h0 : Rk.agF r.S (l ++ [((i : Int), b)]) = []
  · right
    simp [h0]
  · rw [if_neg h0]
    by_cases h1 : (Rk.agF r.S (l ++ [((i : Int), b)])).length ≤ 1
    · right
      simp [h1, show ¬ 2 ≤ (Rk.agF r.S (l ++ [((i : Int), b)])).length by omega]
    · left
      simp [h1, show 2 ≤ (Rk.agF r.S (l ++ [((i : Int), b)])).length by omega]
theorem leftB_nonneg (hv : r.Valid) (l : List (Int × Bool)) (i : Nat) (b : Bool) : 0 ≤ Rk.leftB r.n r.F r.S l i b ∧ Rk.leftB r.n r.F r.S l i b ≤ 600 := by
  unfold Rk.leftB
  have h1 := Rk.planQ_nonneg (n := r.n) (fun i hi => (F_in hv i hi).1) (any := false) (Rk.un r.n (Rk.fq (l ++ [((i : Int), b)]))).length (Rk.agF r.S (l ++ [((i : Int), b)])) (Rk.fq (l ++ [((i : Int), b)]))
  have h2 := Rk.planQ_bound (F_in hv) (by omega) (any := false) (Rk.agF r.S (l ++ [((i : Int), b)])) (Rk.fq (l ++ [((i : Int), b)]))
  have hn := hv.n6
  split
  · exact ⟨h1, by omega⟩
  · omega
end Rak

end Go.Cw
end

/- The law RakeFollow. -/
section
set_option maxRecDepth 100000
set_option linter.unusedSimpArgs false
namespace Go.Cw
open Go Go.Proofs

section
variable {F n₀ : Nat} {inr : Bool} {keep : List Nat} {fa fl : List It} {t : Option Nat} {K : KT} {Q : Post} {tm : TM} {df : DF} {h : Heap}
/-- Next of findings that are still gathered. -/
theorem FCall.nextG {r : Rak} (hs : r.Small) (l : List (Int × Bool)) (hl : l.length ≤ 40) (nm st : Nat) (hw : h nm = gO l.length (fds l) st) (f : FaOk F fa tm h)
    (next : FlOk fl (putD tm t (r.nextV l)) (upd h nm (gO l.length (fds l) st)) ∧ K (putD tm t (r.nextV l)) df (upd h nm (gO l.length (fds l) st))) :
    FCall ⟨Pg, F, n₀, inr, keep⟩ (.func (.func fn_rake_Next) [] []) [r.v, gS 2 nm l.length st] fa fl t K Q tm df h := by
  have c := rake_Next_ok r hs l hl
  have hz : ZF (r.nextV l) := ZF.tup fun a ha => by
    simp only [List.mem_cons, List.mem_singleton, List.not_mem_nil, or_false] at ha
    rcases ha with rfl | rfl | rfl <;> exact ZF.int _ _
  by_cases h0 : l.length = 0
  · have hd : h nm = .dead := by rw [hw, gO, if_pos h0]
    rw [gO, if_pos h0, upd_dead hd] at next
    have hl0 : LK l = .vl 0 [] := by rw [List.eq_nil_of_length_eq_zero h0]; rfl
    refine FCall.pure' (v := r.nextV l) (fun hh => AInvoke.ale (ALe.refl _) (args' := [r.v, LK l]) ⟨ALe.refl _, by rw [hl0, gS, if_pos h0]; exact ALe.es_vl, trivial⟩ (PInv.func (first := []) (cap := []) (args := [r.v, LK l]) c hh)) f next.1 next.2
  · have hr : h nm = .row (fds l) st := by rw [hw, gO, if_neg h0]
    rw [gO, if_neg h0] at next
    rw [gS, if_neg h0]
    refine FCall.cps [(nm, .row (fds l) st)] (fun _ : Unit => r.nextV l) (fun _ => [(nm, .row (fds l) st)]) (fun _ => True) (fun K' hK' => ?_) ⟨hr, trivial⟩ (fun _ => rfl) f (fun _ _ => next)
    refine AInvoke.peek (K0 := fun e h' => e = .ret (r.nextV l) ∧ h' = nilH) nm ?_ fun e h' he => ?_
    · have := PInv.func (first := []) (cap := []) (args := [r.v, LK l]) c nilH
      simpa [LK] using this
    · obtain ⟨rfl, rfl⟩ := he
      exact ⟨_, rfl, hz, RowsZ.nil, rfl, hK' () trivial⟩
end
/-- From the sets that agree in the end on. -/
theorem law03_RakeFollow_t24 (r : Rak) (hs : r.Small) (hv : r.Valid) (t : Int) (ht : t ∈ r.S) (l : List (Int × Bool)) (left : Int) (hF : Rk.Fol r.n r.F r.S t l left) (h1 : (Rk.agF r.S l).length = 1) (hl : l.length ≤ 6) (W : Int) (hW : W = (Rk.planQ r.n r.F false r.S 0).2) (s2 : Nat) :
    AW ⟨Pg, 0, 193, false, []⟩ (.seq (.ops law03_RakeFollow.r24) (.seq (.ops law03_RakeFollow.r25) (.seq (.ops law03_RakeFollow.r26) .ret)))
      (RetK [.tmp 4] fun e _ => e = AEnd.ret (.bool true))
      (tmV [(2, .ptr 2 0 s2), (5, .int .i64 W), (7, L r.S), (9, .int .i64 t), (11, .int .i64 (Rk.fq l)), (12, LK l)]) [] (hpV [(2, .row r.cells s2)]) := by
  have hSl := Rak.S_len hv
  have hn6 := hv.n6
  have h2p := two_pow_le hn6
  have e6 : (2 : Int) ^ 6 = 64 := by decide
  have e62 : (2 : Int) ^ 62 = 4611686018427387904 := by decide
  have hone := hF.one ht h1
  have hE := Rak.errE_mem hv hF.fnd (hF.mem ht)
  have cK := rake_Known_ok r hs l (by omega)
  rw [Rak.knownV_mem hv hF.fnd (hF.mem ht), hone] at cK
  have cN := rake_Next_ok r hs l (by omega)
  have hN : r.nextV l = .tup [.int .i64 0, .int .i64 0, .int .i64 4] := by
    unfold Rak.nextV Rak.nextP
    rw [hE, if_pos rfl, if_pos (by omega)]
    rfl
  rw [hN] at cN
  have hqr := (Rk.fnd_kn hF.fnd).1.qr
  have cL := ref03_Length_ok r hs.f (fun i hi => by have := Rak.F_in hv i hi; omega) (Rk.fq l) (by omega)
  have hle := hF.raked_le (fun i hi => by have := hv.fat hi; unfold Rak.F; omega)
  have hz := Rk.plan_zero (f := r.F) (fun i hi => by have := hv.fat hi; unfold Rak.F; omega) (Rk.some_all (Rak.S_in hv) (Rak.S_lt (r := r))) (List.ne_nil_of_mem ht)
  rw [← hW] at hle hz
  have hzb : (decide (W = 0) == decide ((r.S.length : Int) = 1)) = true := by
    rw [beq_iff_eq]
    exact decide_eq_decide.2 (by rw [hz]; omega)
  simp [Rak.cells]
  refine FCall.pure (PInv.func (first := []) (cap := []) (args := [r.v, LK l]) cK) ?_
  simp
  refine FCall.pure (PInv.func (first := []) (cap := []) (args := [r.v, LK l]) cN) ?_
  simp
  intro s168
  refine FCall.frz1 168 rfl (v := .bool true) ?_ (by simp) ?_
  · simpa [L] using PInv.func (first := []) (cap := []) (args := [L [t], L [t]]) (law03_ints_ok [t] [t] (by simp) (by simp))
  simp
  refine PCallK.intro (PInv.func (first := []) (cap := []) (args := [r.v, .int .i64 (Rk.fq l)]) cL) ?_
  simp [hle, hzb]
  refine PCallK.intro (PInv.func law03_alive_ok) ?_
  simp
  exact RetV.refl rfl
theorem law03_RakeFollow_ok (r : Rak) (w : Int) (hw : 0 ≤ w ∧ w ≤ 255) : APure Pg fn_law03_RakeFollow [r.v, .int .u8 w] (.bool true) := by
  refine law03_RakeFollow.pure (by simp) ?_
  simp
  intro s2
  refine PCallK.intro (law03_long00 r) ?_
  cases hlg : r.longB [] [] with
  | true =>
    simp
    refine PCallK.intro (PInv.func law03_alive_ok) ?_
    simp
    exact RetV.refl rfl
  | false =>
  obtain ⟨hs, _, _⟩ := Rak.short hlg
  have c1 := rake_Worst_ok r hs
  have c2 := leak_Sets_ok r.h hs.h
  simp
  refine PCallK.intro (PInv.func (first := []) (cap := []) (args := [r.v]) c1) ?_
  by_cases hv : ¬ r.Valid
  · simp [Rak.worstV, Rak.errE, hv]
    refine PCallK.intro (PInv.func (first := []) (cap := []) (args := [r.v]) (ref03_Rake_ok r hs)) ?_
    simp [hv]
    refine PCallK.intro (PInv.func law03_alive_ok) ?_
    simp
    exact RetV.refl rfl
  replace hv := Classical.not_not.1 hv
  have hn6 := hv.n6
  have hn1 := hv.n1
  have hfn : r.f.length = r.n := rfl
  have e6 : (2 : Int) ^ 6 = 64 := by decide
  have e62 : (2 : Int) ^ 62 = 4611686018427387904 := by decide
  have h2p := two_pow_le hn6
  have hE := Rak.errE_nil hv
  by_cases hS : r.S = []
  · have ht := Rak.S_nil.1 hS
    rw [if_pos hS] at hE
    simp [Rak.worstV, hE]
    refine PCallK.intro (PInv.func (first := []) (cap := []) (args := [r.v]) (ref03_Rake_ok r hs)) ?_
    simp [hv]
    refine PCallK.intro (PInv.func (first := []) (cap := []) (args := [r.h.v]) c2) ?_
    simp [Hul.setsV, hv.h, ht]
    refine PCallK.intro (PInv.func law03_alive_ok) ?_
    simp
    exact RetV.refl rfl
  have htr := mt Rak.S_nil.2 hS
  rw [if_neg hS] at hE
  have hSp := List.length_pos_iff.2 hS
  have hSV : r.h.setsV = .tup [L r.S, .int .i64 0] := by simp [Hul.setsV, hv.h, htr]; rfl
  obtain ⟨W, hW⟩ : ∃ W, W = (Rk.planQ r.n r.F false r.S 0).2 := ⟨_, rfl⟩
  have hW0 : 0 ≤ W := by
    rw [hW]
    exact Rk.planQ_nonneg (n := r.n) (fun i hi => (Rak.F_in hv i hi).1) (any := false) (Rk.un r.n 0).length r.S 0
  have hWV : r.worstV = .tup [.int .i64 W, .int .i64 0] := by unfold Rak.worstV; rw [hE, hW]; rfl
  have hww : IntKind.i64.wrap w = w := Rk.wrapI (by omega) (by omega)
  rw [hWV]
  simp
  refine PCallK.intro (PInv.func (first := []) (cap := []) (args := [r.v]) (ref03_Rake_ok r hs)) ?_
  simp [hv]
  refine PCallK.intro (PInv.func (first := []) (cap := []) (args := [r.h.v]) c2) ?_
  rw [hSV]
  obtain ⟨j, hj, hjl⟩ := rem_u8 (w := w) (by omega) (n := r.S.length) (by omega)
  obtain ⟨t, ht⟩ : ∃ t, r.S[j] = t := ⟨_, rfl⟩
  have hget : r.S[j]? = some t := by rw [List.getElem?_eq_getElem hjl, ht]
  have htS : t ∈ r.S := by rw [← ht]; simp
  have htb := Rak.S_small hv htS
  have hF1 : ∀ i, i < r.n → 1 ≤ r.F i := fun i hi => by have := hv.fat hi; unfold Rak.F; omega
  simp [show ¬ (r.S.length : Int) = 0 by omega, hS, show ¬ W < 0 by omega, hww, hj, hget]
  (repeat first | refine And.intro (by omega) ?_ | refine And.intro (Fits.of (by omega) (by omega)) ?_)
  refine Lp.intro' (σ := List (Int × Bool) × Int × Nat) (inv := fun x => x.1.length ≤ r.n ∧ Rk.Fol r.n r.F r.S t x.1 x.2.1) (vw := fun x => [(2, .ptr 2 0 (s2+1)), (5, .int .i64 W), (7, L r.S), (9, .int .i64 t), (10, .int .i64 x.2.1), (11, .int .i64 (Rk.fq x.1)), (12, gS 2 148 x.1.length x.2.2), (86, .int .i64 r.n), (87, .int .i64 x.1.length)])
    (hp := fun x => [(2, .row r.cells (s2+1)), (148, gO x.1.length (fds x.1) x.2.2)]) (ms := fun x => r.n - x.1.length) ([], W, 0) ⟨by simp, by rw [hW]; exact Rk.Fol.start⟩ (Sl.wk 12 .es (by simpa using ALe.nils_es) (Sl.refl ⟨by simp, by simp [hfn, Rk.fq], by simp [Rak.cells]⟩)) ?_
  rintro ⟨l, left, st⟩ ⟨hln, hF⟩ J hJ
  simp only at hln hF
  by_cases hkc : l.length < r.n
  · have hE := Rak.errE_mem hv hF.fnd (hF.mem htS)
    by_cases h1 : (Rk.agF r.S l).length = 1
    · have hN : r.nextV l = .tup [.int .i64 0, .int .i64 0, .int .i64 4] := by
        unfold Rak.nextV Rak.nextP
        rw [hE, if_pos rfl, if_pos (by omega)]
        rfl
      simp [hkc, Rak.cells]
      refine FCall.nextG hs l (by omega) 148 st (by simp) (by simp) ?_
      rw [hN]
      simp
      refine hJ.exitS (Sl.toV [(2, .ptr 2 0 (s2+1)), (5, .int .i64 W), (7, L r.S), (9, .int .i64 t), (11, .int .i64 (Rk.fq l)), (12, LK l)] [(2, .row r.cells (s2+1))]
        (Sl.gSt 12 148 (m := l.length) (cells := fds l) (s := st) (esz := 2) (by simp) (by simp) (fun h0 => Sl.refl ⟨rfl, by simp [List.eq_nil_of_length_eq_zero h0, LK, fds, fl], by simp [Rak.cells]⟩) (fun h0 => Sl.refl ⟨rfl, by simp [gS, h0, LK], by simp [Rak.cells]⟩)) ?_)
      exact law03_RakeFollow_t24 r hs hv t htS l left hF h1 (by omega) W hW (s2+1)
    · obtain ⟨i, hi⟩ : ∃ i, i = (Rk.planQ r.n r.F false (Rk.agF r.S l) (Rk.fq l)).1 := ⟨_, rfl⟩
      obtain ⟨m, hm⟩ : ∃ m, m = (Rk.planQ r.n r.F false (Rk.agF r.S l) (Rk.fq l)).2 := ⟨_, rfl⟩
      obtain ⟨hin, hqi, hfm, hfq, hF'⟩ := hF.step hF1 (Rak.S_in hv) (Rak.S_lt (r := r)) htS h1 hi
      have h2 := hF.two htS h1
      have hml := hF.le
      have hmb := Rk.planQ_bound (Rak.F_in hv) (by omega) (any := false) (Rk.agF r.S l) (Rk.fq l)
      have hFi := Rak.F_in hv i hin
      rw [← hm] at hfm hF' hml hmb
      have hN : r.nextV l = .tup [.int .i64 i, .int .i64 m, .int .i64 0] := by
        unfold Rak.nextV Rak.nextP
        rw [hE, if_pos rfl, if_neg (by omega), ← hi, ← hm]
      have hqr := (Rk.fnd_kn hF.fnd).1.qr
      have hdv : 0 ≤ Rk.fq l / 2 ^ i := Int.ediv_nonneg hqr.1 (by have := two_pow_pos i; omega)
      have hand := bitI_and1 hdv (by have := Int.ediv_le_self (2 ^ i) hqr.1; omega)
      have hmod : ¬ Rk.fq l / 2 ^ i % 2 = 1 := by simpa [inS] using hqi
      have hor := Rk.or_bit hqr (by omega) hin hqi
      have hk0 := two_pow_pos i
      have hk6 := two_pow_le (show i ≤ 6 by omega)
      have hwk : IntKind.i64.wrap ((2 : Int) ^ i) = 2 ^ i := Rk.wrapI (by omega) (by omega)
      have hfl : i < r.f.length := hin
      have hFe : r.f[i] = r.F i := by unfold Rak.F; rw [ofL_at _ hfl]
      have hFe' : r.f[i]? = some (r.F i) := by rw [List.getElem?_eq_getElem hfl, hFe]
      simp [hkc, Rak.cells]
      refine FCall.nextG hs l (by omega) 148 st (by simp) (by simp) ?_
      rw [hN]
      simp [show ¬ (i : Int) < 0 by omega, show ¬ r.n ≤ i by omega, hin, hfn, hand, hmod, hml, hfm, hwk, hor, hfl, hFe, hFe', show ¬ m < r.F i by omega, show ¬ left < m by omega]
      have hmi : l.length ≤ 6 := by omega
      have hpush := fds_push l ((i : Int), inS t i)
      obtain ⟨l', hl'⟩ : ∃ l', l' = l ++ [((i : Int), inS t i)] := ⟨_, rfl⟩
      rw [← hl'] at hfq hF' hpush
      have hll : l'.length = l.length + 1 := by rw [hl']; simp
      (repeat first | refine And.intro (by omega) ?_ | refine And.intro (Fits.of (by omega) (by omega)) ?_)
      refine PCallK.intro (PInv.func (law03_finding_ok i (by omega) t (by omega))) ?_
      simp
      intro s4 s5
      refine xApN_gS (cells := fds l) (by simp) (by simp) (by omega) (by omega) ?_
      simp only [] at hpush
      rw [show fds l ++ [AVal.int IntKind.i64 (i : Int), .bool (inS t i)] = fds l' from hpush]
      simp
      (repeat first | refine And.intro (by omega) ?_ | refine And.intro (Fits.of (by omega) (by omega)) ?_)
      exact hJ.next (l', m - r.F i, s5 + 1) ⟨by simp only [hll]; omega, hF'⟩ (by simp only [hll]; omega) (by simp [hfq, hll]) (by simp [Rak.cells, hll])
  have h1 := hF.full (Rak.S_in hv) (Rak.S_lt (r := r)) htS (by omega)
  simp [hkc]
  refine hJ.exitS (Sl.toV [(2, .ptr 2 0 (s2+1)), (5, .int .i64 W), (7, L r.S), (9, .int .i64 t), (11, .int .i64 (Rk.fq l)), (12, LK l)] [(2, .row r.cells (s2+1))]
    (Sl.gSt 12 148 (m := l.length) (cells := fds l) (s := st) (esz := 2) (by simp) (by simp) (fun h0 => Sl.refl ⟨rfl, by simp [List.eq_nil_of_length_eq_zero h0, LK, fds, fl], by simp [Rak.cells]⟩) (fun h0 => Sl.refl ⟨rfl, by simp [gS, h0, LK], by simp [Rak.cells]⟩)) ?_)
  exact law03_RakeFollow_t24 r hs hv t htS l left hF h1 (by omega) W hW (s2+1)
end Go.Cw
end
