/-
  What the document's reference of layer 3 computes; laws of layer 3; how a rake is read as an argument.
-/
import Derived.Test.YtdfllmjgmdhlpaaGreatLa
import Derived.Test.YtdfllmjgmdhlpaaGreatTa
import Derived.Test.YtdfllmjgmdhlpaaGreatAe
import Derived.Test.YtdfllmjgmdhlpaaGreatAf
import Derived.Test.YtdfllmjgmdhlpaaGreatRows
set_option linter.unusedVariables false
set_option linter.unusedSimpArgs false
set_option linter.unusedSectionVars false

/- The reference: Sets. -/
section
set_option maxRecDepth 100000
set_option linter.unusedSimpArgs false
namespace Go.Cw
open Go Go.Proofs

/-- The sets among the first so many numbers. -/
def setsTo (T : List (List Int)) : Nat → List Int
  | 0 => []
  | k + 1 => if T.any fun t => decide (leaksT t = k) then setsTo T k ++ [(k : Int)] else setsTo T k
theorem setsTo_len (T : List (List Int)) (k : Nat) : (setsTo T k).length ≤ k := by
  induction k with
  | zero => simp [setsTo]
  | succ k ih =>
    unfold setsTo
    split
    · rw [List.length_append]; simp; omega
    · omega
theorem setsTo_mem {T : List (List Int)} {k : Nat} {s : Int} : s ∈ setsTo T k ↔ (0 ≤ s ∧ s < k) ∧ ∃ t ∈ T, leaksT t = s := by
  induction k with
  | zero => simp [setsTo]; omega
  | succ k ih =>
    unfold setsTo
    split
    · rename_i hc
      obtain ⟨t, ht, h1⟩ := List.any_eq_true.1 hc
      rw [List.mem_append, ih, List.mem_singleton]
      constructor
      · rintro (⟨h2, h3⟩ | rfl)
        · exact ⟨by omega, h3⟩
        · exact ⟨by omega, t, ht, by simpa using h1⟩
      · rintro ⟨h2, h3⟩
        by_cases hk : s = k
        · exact .inr hk
        · exact .inl ⟨by omega, h3⟩
    · rename_i hc
      rw [ih]
      constructor
      · rintro ⟨h2, h3⟩; exact ⟨by omega, h3⟩
      · rintro ⟨h2, t, ht, h3⟩
        refine ⟨⟨h2.1, ?_⟩, t, ht, h3⟩
        by_cases hk : s = k
        · exact absurd (List.any_eq_true.2 ⟨t, ht, by simpa [hk] using h3⟩) hc
        · omega
theorem setsTo_lt (T : List (List Int)) (k : Nat) : (setsTo T k).Pairwise (· < ·) := by
  induction k with
  | zero => simp [setsTo]
  | succ k ih =>
    unfold setsTo
    split
    · rw [List.pairwise_append]
      refine ⟨ih, by simp, fun a ha b hb => ?_⟩
      obtain rfl : b = k := by simpa using hb
      have := (setsTo_mem.1 ha).1
      omega
    · exact ih
theorem sorted_ext : ∀ {l m : List Int}, l.Pairwise (· < ·) → m.Pairwise (· < ·) → (∀ x, x ∈ l ↔ x ∈ m) → l = m
  | [], [], _, _, _ => rfl
  | [], b :: m, _, _, h => absurd ((h b).2 (by simp)) (by simp)
  | a :: l, [], _, _, h => absurd ((h a).1 (by simp)) (by simp)
  | a :: l, b :: m, hl, hm, h => by
    have hl' := List.pairwise_cons.1 hl
    have hm' := List.pairwise_cons.1 hm
    have hab : a = b := by
      have h1 := (h a).1 (by simp)
      have h2 := (h b).2 (by simp)
      rcases List.mem_cons.1 h1 with h1 | h1
      · exact h1
      · rcases List.mem_cons.1 h2 with h2 | h2
        · exact h2.symm
        · have := hm'.1 a h1; have := hl'.1 b h2; omega
    subst hab
    congr 1
    refine sorted_ext hl'.2 hm'.2 fun x => ?_
    have hx := h x
    constructor
    · intro hxl
      rcases List.mem_cons.1 (hx.1 (List.mem_cons_of_mem _ hxl)) with h1 | h1
      · have := hl'.1 x hxl; omega
      · exact h1
    · intro hxm
      rcases List.mem_cons.1 (hx.2 (List.mem_cons_of_mem _ hxm)) with h1 | h1
      · have := hm'.1 x hxm; omega
      · exact h1
theorem setsTo_all {h : Hul} (hv : h.Valid) : setsTo (h.truths h.every) (2 ^ h.n) = h.setsL := by
  refine sorted_ext (setsTo_lt _ _) ?_ fun x => ?_
  · exact Rak.S_lt (r := ⟨h, []⟩)
  · rw [setsTo_mem, show x ∈ h.setsL ↔ _ from Rak.mem_S (r := ⟨h, []⟩)]
    constructor
    · rintro ⟨_, h2⟩; exact h2
    · rintro ⟨t, ht, rfl⟩
      have hl := (truths_in hv ht).1
      have := bits_lt (fun i => decide (0 < ofL t i)) t.length
      rw [hl] at this
      refine ⟨⟨?_, ?_⟩, t, ht, rfl⟩
      · unfold leaksT; rw [hl]; exact this.1
      · unfold leaksT; rw [hl]; simpa using this.2


end Go.Cw
end

/- Rake, the reference: is a rake valid; what agrees; the errors; Known. -/
section
set_option maxRecDepth 100000
set_option linter.unusedSimpArgs false
namespace Go.Cw
open Go Go.Proofs

theorem ref03_in_ok (n lo hi : Int) : APure Pg fn_ref03_in [.int .i64 n, .int .i64 lo, .int .i64 hi] (.bool (decide (lo ≤ n ∧ n ≤ hi))) := by
  refine ref03_in.pure (by simp) ?_
  by_cases h : lo ≤ n <;> simp [h] <;> refine RetV.refl ?_ <;> simp_all
theorem ref03_Rake_ok (r : Rak) (hs : r.Small) : APure Pg fn_ref03_Rake [r.v] (.bool (decide r.Valid)) := by
  have hf40 := hs.f
  have hs40 := hs.h.s
  have cH := ref01_Hull_ok r.h hs.h
  have nv : ¬ r.Valid → decide r.Valid = false := fun h => by simp [h]
  refine ref03_Rake.pure (by simp) ?_
  simp
  intro s1
  refine PCallK.intro (PInv.func (first := []) (cap := []) (args := [r.h.v]) cH) ?_
  by_cases hh : ¬ r.h.Valid
  · simp [hh]
    exact RetV.refl (by simp [show ¬ r.Valid from fun v => hh v.h])
  replace hh := Classical.not_not.1 hh
  by_cases hn : ¬ r.f.length = r.h.seams.length
  · have hn' : ¬ (r.f.length : Int) = r.h.seams.length := by omega
    simp [hh, hn, hn']
    exact RetV.refl (by simp [show ¬ r.Valid from fun v => hn v.len])
  replace hn := Classical.not_not.1 hn
  simp [hh, hn]
  refine Lp.intro (σ := Nat) (inv := fun k => k ≤ r.f.length ∧ ∀ j x, j < k → r.f[j]? = some x → 1 ≤ x ∧ x ≤ 20) (vw := fun k => [(1, .ptr 1 0 (s1+1)), (3, .int .i64 k)]) (hp := fun _ => [(1, .row r.cells (s1+1))]) (ms := fun k => r.f.length - k) 0 (by simp) (by simp) (by simp [Rak.cells]) ?_
  rintro k ⟨hk, inv⟩ J hJ
  by_cases hkc : k < r.f.length
  · obtain ⟨x, hx⟩ : ∃ x, r.f[k] = x := ⟨_, rfl⟩
    simp [hkc, hx, Rak.cells]
    refine PCallK.intro (PInv.func (ref03_in_ok x 1 20)) ?_
    by_cases hxb : 1 ≤ x ∧ x ≤ 20
    · simp [hxb]
      (repeat first | refine And.intro (by omega) ?_ | refine And.intro (Fits.of (by omega) (by omega)) ?_)
      refine hJ.next (k + 1) ⟨by omega, fun j y hj hy => ?_⟩ (by omega) (by simp) (by simp [Rak.cells])
      by_cases e : j = k
      · subst e
        obtain rfl : x = y := by simpa [hkc, hx] using hy
        exact hxb
      · exact inv j y (by omega) hy
    · simp [hxb]
      refine hJ.ret ?_
      simp
      refine RetV.refl ?_
      have : ¬ r.Valid := fun v => hxb (v.fa x (by rw [← hx]; simp))
      simp [this]
  obtain rfl : k = r.f.length := by omega
  simp [Rak.cells]
  refine hJ.exit ?_
  simp
  have : r.Valid := ⟨hh, hn, fun x hx => by
    obtain ⟨j, hj, e⟩ := List.getElem_of_mem hx
    exact inv j x hj (by rw [← e]; simp)⟩
  exact RetV.refl (by simp [this])




end Go.Cw
end

/- Rake, the reference: the best seam; Next, Worst, Any. -/
section
set_option maxRecDepth 100000
set_option linter.unusedSimpArgs false
namespace Go.Cw
open Go Go.Proofs

namespace Rk
/-- The best of the seams below a number. -/
def bestTo (n : Nat) (q : Int) (g : Nat → Int) (k : Nat) : Option (Nat × Int) := bestR g ((un n q).filter fun i => decide (i < k))
theorem bestTo_zero (n : Nat) (q : Int) (g : Nat → Int) : bestTo n q g 0 = none := by
  unfold bestTo; rw [List.filter_eq_nil_iff.2 (by simp)]; rfl
theorem bestTo_all (n : Nat) (q : Int) (g : Nat → Int) : bestTo n q g n = bestR g (un n q) := by
  unfold bestTo; rw [List.filter_eq_self.2 fun i hi => by simpa using (mem_un.1 hi).1]
theorem bestTo_succ {n : Nat} {q : Int} {g : Nat → Int} {k : Nat} (hk : k < n) : bestTo n q g (k + 1) = if inS q k then bestTo n q g k else betR g (bestTo n q g k) k := by
  have hpush : (un n q).filter (fun i => decide (i < k + 1)) = (un n q).filter (fun i => decide (i < k)) ++ if inS q k then [] else [k] := by
    unfold un
    rw [List.filter_filter, List.filter_filter]
    have e : ∀ m : Nat, m ≤ n → (List.range n).filter (fun i => decide (i < m) && !inS q i) = (List.range m).filter (fun i => !inS q i) := by
      intro m hm
      obtain ⟨d, rfl⟩ := Nat.exists_eq_add_of_le hm
      have e1 : (List.range m).filter (fun i => decide (i < m) && !inS q i) = (List.range m).filter (fun i => !inS q i) := List.filter_congr fun i hi => by simp [List.mem_range.1 hi]
      have e2 : ((List.range d).map (m + ·)).filter (fun i => decide (i < m) && !inS q i) = [] := List.filter_eq_nil_iff.2 fun i hi => by
        obtain ⟨x, _, rfl⟩ := List.mem_map.1 hi
        simp
        intro h; omega
      rw [List.range_add, List.filter_append, e1, e2, List.append_nil]
    rw [e (k + 1) (by omega), e k (by omega), List.range_succ, List.filter_append]
    cases h : inS q k <;> simp [h]
  unfold bestTo
  rw [hpush]
  cases h : inS q k
  · simp only [Bool.false_eq_true, if_false]
    rw [bestR_push]
  · simp
/-- The best so far, as the reference keeps it. -/
def leastV : Option (Nat × Int) → Int
  | none => -1
  | some b => b.2
end Rk







theorem Rak.zero_head {r : Rak} (hv : r.Valid) {x : Int} (hx : r.S.head? = some x) : (0 : Int) ∈ r.S ↔ x = 0 := by
  cases hS : r.S with
  | nil => rw [hS] at hx; cases hx
  | cons a l =>
    rw [hS] at hx
    obtain rfl : a = x := by simpa using hx
    have h1 := Rak.S_lt (r := r)
    rw [hS, List.pairwise_cons] at h1
    have h2 := Rak.S_in hv a (by rw [hS]; simp)
    constructor
    · intro h
      rcases List.mem_cons.1 h with h | h
      · exact h.symm
      · have := h1.1 0 h; omega
    · rintro rfl; simp

end Go.Cw
end

/- Rake, the reference: orders, what they cost. -/
section
set_option maxRecDepth 100000
set_option linter.unusedSimpArgs false
namespace Go.Cw
open Go Go.Proofs



theorem Rak.ask_set {r : Rak} (hv : r.Valid) {o : List Int} {s : Int} : r.Ask o s ↔ Rk.IsOrd r.n o ∧ r.h.Set s := by
  unfold Rak.Ask Hul.Set
  rw [show r.n = r.h.n from hv.len]

end Go.Cw
end

/- Rake, the reference: all orders. -/
section
set_option maxRecDepth 100000
set_option linter.unusedSimpArgs false
namespace Go.Cw
open Go Go.Proofs

namespace Rk
theorem flat_len {α β : Type} {g : α → List β} {m : Nat} : ∀ {l : List α}, (∀ i ∈ l, (g i).length ≤ m) → (l.flatMap g).length ≤ l.length * m
  | [], _ => by simp
  | a :: l, h => by
    have h1 := h a (by simp)
    have h2 := flat_len (l := l) fun i hi => h i (by simp [hi])
    rw [List.flatMap_cons, List.length_append, List.length_cons, Nat.succ_mul]
    omega
theorem ords_len (n : Nat) : ∀ (k : Nat) (b : List Nat), (ords n k b).length ≤ n ^ k
  | 0, b => by simp [ords]
  | k + 1, b => by
    simp only [ords]
    have h1 := flat_len (l := fr n b) (g := fun i => ords n k (b ++ [i])) (m := n ^ k) fun i _ => ords_len n k (b ++ [i])
    have h2 : (fr n b).length ≤ n := Nat.le_trans (List.length_filter_le _ _) (by simp)
    have h3 := Nat.mul_le_mul_right (n ^ k) h2
    rw [Nat.pow_succ, Nat.mul_comm (n ^ k) n]
    omega
/-- Orders, as lists of numbers. -/
def oL (l : List (List Nat)) : List (List Int) := l.map toI
theorem oL_append (a b : List (List Nat)) : oL (a ++ b) = oL a ++ oL b := by simp [oL]
end Rk

end Go.Cw
end

/- Rake, the reference: Order. -/
section
set_option maxRecDepth 100000
set_option linter.unusedSimpArgs false
namespace Go.Cw
open Go Go.Proofs

namespace Rk
def outO : Option (List Nat × Int) → AVal
  | none => .nils
  | some b => L (toI b.1)
def leastO : Option (List Nat × Int) → Int
  | none => -1
  | some b => b.2
end Rk

end Go.Cw
end

/- Rake, the reference: Enough. -/
section
set_option maxRecDepth 100000
set_option linter.unusedSimpArgs false
namespace Go.Cw
open Go Go.Proofs

namespace Rk
/-- Do two sets differ, at the first so many seams of a set? -/
def difB (q a b : Int) (k : Nat) : Bool := (List.range k).any fun i => inS q i && (inS a i != inS b i)
theorem difB_succ (q a b : Int) (k : Nat) : difB q a b (k + 1) = (difB q a b k || (inS q k && (inS a k != inS b k))) := by
  unfold difB; rw [List.range_succ, List.any_append]; simp
theorem difB_same {n : Nat} (hn : n ≤ 6) {q a b : Int} (hq : 0 ≤ q ∧ q < 2 ^ n) : difB q a b 6 = !same n q b a := by
  rw [Bool.eq_iff_iff, Bool.not_eq_true', ← Bool.not_eq_true, same_iff]
  unfold difB
  rw [List.any_eq_true]
  constructor
  · rintro ⟨i, hi, h⟩ hs
    rw [Bool.and_eq_true] at h
    by_cases hin : i < n
    · have := hs i hin h.1
      rw [this] at h
      simp at h
    · rw [inS_big hq (by omega)] at h
      simp at h
  · intro h
    refine Classical.byContradiction fun hc => h fun i hi hqi => ?_
    refine Classical.byContradiction fun hab => hc ⟨i, by simp; omega, ?_⟩
    rw [hqi]
    simp
    exact fun e => hab e.symm
end Rk



end Go.Cw
end

/- Rake: what the document fixes of its example is met; which rakes a law goes through. -/
section
set_option maxRecDepth 100000
set_option linter.unusedSimpArgs false
namespace Go.Cw
open Go Go.Proofs

/-- The document's example. -/
def rsm : Rak := ⟨⟨[⟨2, 0, 3⟩, ⟨5, -1, 2⟩, ⟨5, 1, 4⟩], [⟨3, 0, 1, 2⟩, ⟨6, 0, 4, 4⟩]⟩, [4, 3, 5]⟩
theorem rsm_small : rsm.Small := ⟨⟨by simp [rsm], by simp [rsm]⟩, by simp [rsm]⟩
theorem rsm_valid : rsm.Valid := ⟨⟨by simp [rsm, Hul.n], by simp [rsm, Hul.n], by simp [rsm, Hul.k], by decide, by decide⟩, by simp [rsm, Hul.n], by decide⟩
theorem rsm_S : rsm.S = [3, 5, 7] := by
  have h : rsm.h.truths rsm.h.every = [[1, 0, 3], [1, 1, 2], [1, 2, 1], [2, 0, 2], [2, 1, 1], [2, 2, 0]] := by decide +kernel
  unfold Rak.S Hul.setsL
  rw [h]
  exact sortI_eq (by decide +kernel) (by unfold SortedI; decide +kernel)
theorem rsm_n : rsm.n = 3 := rfl
theorem rsm_F : rsm.F = ofL [4, 3, 5] := rfl
def rsmE (l : List (Int × Bool)) (is : Bool) : Int := if (∀ x ∈ l, 0 ≤ x.1 ∧ x.1 < ((3 : Nat) : Int)) ∧ is = true then (if (l.map Prod.fst).Nodup then (if Rk.agF [3, 5, 7] l = [] then 10 else 0) else 5) else 2
theorem rsm_err (l : List (Int × Bool)) (is : Bool) : rsm.errE l is = rsmE l is := by
  unfold Rak.errE rsmE
  rw [if_pos rsm_valid, rsm_S]
  rfl
theorem rsm_known (l : List (Int × Bool)) {X : List Int} {e : Int} (h : ((if rsmE l true = 0 then Rk.agF [3, 5, 7] l else []), rsmE l true) = (X, e)) : rsm.knownV l = .tup [L X, .int .i64 e] := by
  rw [Prod.mk.injEq] at h
  unfold Rak.knownV
  rw [rsm_err, rsm_S, h.1, h.2]
theorem rsm_next (l : List (Int × Bool)) {a : Nat} {b e : Int} (h : (if rsmE l true = 0 then (if (Rk.agF [3, 5, 7] l).length ≤ 1 then (0, 0, 4) else ((Rk.planQ 3 (ofL [4, 3, 5]) false (Rk.agF [3, 5, 7] l) (Rk.fq l)).1, (Rk.planQ 3 (ofL [4, 3, 5]) false (Rk.agF [3, 5, 7] l) (Rk.fq l)).2, 0)) else (0, 0, rsmE l true)) = ((a, b, e) : Nat × Int × Int)) : rsm.nextV l = .tup [.int .i64 a, .int .i64 b, .int .i64 e] := by
  have : rsm.nextP l = (a, b, e) := by
    rw [← h]
    unfold Rak.nextP
    rw [rsm_err, rsm_S, rsm_n, rsm_F]
  unfold Rak.nextV
  rw [this]
theorem rsm_worst : rsm.worstV = .tup [.int .i64 8, .int .i64 0] := by
  unfold Rak.worstV
  rw [rsm_err, rsm_S, rsm_n, rsm_F, show rsmE [] true = 0 by decide +kernel, show Rk.planQ 3 (ofL [4, 3, 5]) false [3, 5, 7] 0 = (1, 8) by decide +kernel]
  rfl
theorem rsm_any : rsm.anyV = .tup [.int .i64 0, .int .i64 4, .int .i64 0] := by
  unfold Rak.anyV Rak.anyP
  rw [rsm_err, rsm_S, rsm_n, rsm_F, show rsmE [] true = 0 by decide +kernel, show Rk.planQ 3 (ofL [4, 3, 5]) true [3, 5, 7] 0 = (0, 4) by decide +kernel]
  rfl
theorem rsm_ord : rsm.ordV = .tup [L [1, 2, 0], .int .i64 8, .int .i64 0] := by
  unfold Rak.ordV Rak.ordL Rak.ordN
  rw [rsm_err, rsm_S, rsm_n, rsm_F, show rsmE [] true = 0 by decide +kernel, show Rk.ordP 3 (ofL [4, 3, 5]) [3, 5, 7] = ([1, 2, 0], 8) by decide +kernel]
  rfl
theorem rsm_en : rsm.enV = .tup [.int .i64 6, .int .i64 8, .int .i64 0] := by
  unfold Rak.enV
  rw [rsm_err, rsm_S, rsm_n, rsm_F, show rsmE [] true = 0 by decide +kernel, show Rk.enP 3 (ofL [4, 3, 5]) [3, 5, 7] = (6, 8) by decide +kernel]
  rfl
theorem rsm_cost (o : List Int) (s : Int) (ho : Rk.IsOrd 3 o ∧ 0 ≤ s ∧ s < 2 ^ 3) {a e : Int} (h : (if s ∈ [3, 5, 7] then (Rk.costL (ofL [4, 3, 5]) (Rk.toN o) [3, 5, 7] s, 0) else (0, 4)) = ((a, e) : Int × Int)) : rsm.costV o s = .tup [.int .i64 a, .int .i64 e] := by
  have hA : rsm.Ask o s := ho
  have : rsm.costP o s = (a, e) := by
    rw [← h]
    unfold Rak.costP
    rw [decide_eq_true hA, rsm_err, rsm_S, rsm_F, show rsmE [] true = 0 by decide +kernel]
    rfl
  unfold Rak.costV
  rw [this]

theorem law03_span_ok (a b : Int) : APure Pg fn_law03_span [.int .i64 a, .int .i64 b] (SP2 (a, b)) := by
  refine law03_span.pure (by simp) ?_
  simp
  intro s
  exact RetV.refl (by simp [SP2])
theorem law03_find_ok (a : Int) (b : Bool) : APure Pg fn_law03_find [.int .i64 a, .bool b] (.agg [.int .i64 a, .bool b]) := by
  refine law03_find.pure (by simp) ?_
  simp
  intro s
  exact RetV.refl (by simp)
theorem law03_ints_ok (a b : List Int) (ha : a.length ≤ 100000) (hb : b.length ≤ 100000) : APure Pg fn_law03_ints [L a, L b] (.bool (decide (a = b))) := by
  refine law03_ints.pure (by simp) ?_
  simp
  refine PCallK.intro (PInv.func (ref01_Ints_ok a b ha hb)) ?_
  simp
  exact RetV.refl rfl
theorem law03_sample_ok : APure Pg fn_law03_sample [] rsm.v := by
  refine law03_sample.pure (by simp) ?_
  simp
  intro s1 s2
  refine PCallK.intro (PInv.func (law03_span_ok _ _)) ?_
  simp [SP2]
  refine PCallK.intro (PInv.func (law03_span_ok _ _)) ?_
  simp [SP2]
  intro s3 s4
  refine RetV.frz 4 rfl (RetV.frz 9 rfl (RetV.frz 11 rfl (RetV.refl ?_)))
  simp [rsm, LS, LD, sms, sds, fl, Sm.c, Sd.c, L, ints]
theorem law03_alive_ok : APure Pg fn_law03_alive [] (.bool true) := by
  refine law03_alive.pure (by simp) ?_
  simp
  refine PCallK.intro (PInv.func law03_sample_ok) ?_
  simp
  refine PCallK.intro (PInv.func (law03_find_ok 1 true)) ?_
  simp
  intro s1
  refine FCall.frz1 22 rfl (v := .tup [L [3, 7], .int .i64 0]) ?_ trivial ?_
  · have := rake_Known_ok rsm rsm_small [(1, true)] (by simp)
    rw [rsm_known [(1, true)] (X := [3, 7]) (e := 0) (by decide +kernel)] at this
    simpa [LK, fds, fl, fdC] using PInv.func (first := []) (cap := []) (args := [rsm.v, LK [(1, true)]]) this
  simp
  refine PCallK.intro (PInv.func law03_sample_ok) ?_
  simp
  refine PCallK.intro (v := .tup [.int .i64 1, .int .i64 8, .int .i64 0]) (fun hh => AInvoke.ale (ALe.refl _) (args' := [rsm.v, LK []]) ⟨ALe.refl _, ALe.nils_vl, trivial⟩ (PInv.func (first := []) (cap := []) (args := [rsm.v, LK []]) (by
    have := rake_Next_ok rsm rsm_small [] (by simp)
    rw [rsm_next [] (a := 1) (b := 8) (e := 0) (by decide +kernel)] at this
    exact this) hh)) ?_
  simp
  refine PCallK.intro (PInv.func law03_sample_ok) ?_
  simp
  refine PCallK.intro (PInv.func (first := []) (cap := []) (args := [rsm.v]) (rake_Worst_ok rsm rsm_small)) ?_
  rw [rsm_worst]
  simp
  refine PCallK.intro (PInv.func law03_sample_ok) ?_
  simp
  intro s2
  refine FCall.frz1 39 rfl (v := .tup [.int .i64 3, .int .i64 0]) ?_ trivial ?_
  · have := rake_Cost_ok rsm rsm_small [1, 2, 0] (by simp) 5
    rw [rsm_cost [1, 2, 0] 5 (by decide +kernel) (a := 3) (e := 0) (by decide +kernel)] at this
    simpa [L] using PInv.func (first := []) (cap := []) (args := [rsm.v, L [1, 2, 0], .int .i64 5]) this
  simp
  refine PCallK.intro (PInv.func law03_sample_ok) ?_
  simp
  refine PCallK.intro (PInv.func (first := []) (cap := []) (args := [rsm.v]) (rake_Order_ok rsm rsm_small)) ?_
  rw [rsm_ord]
  simp
  refine PCallK.intro (PInv.func law03_sample_ok) ?_
  simp
  refine PCallK.intro (PInv.func (first := []) (cap := []) (args := [rsm.v]) (rake_Enough_ok rsm rsm_small)) ?_
  rw [rsm_en]
  simp
  refine PCallK.intro (PInv.func law03_sample_ok) ?_
  simp
  refine PCallK.intro (PInv.func (first := []) (cap := []) (args := [rsm.v]) (rake_Any_ok rsm rsm_small)) ?_
  rw [rsm_any]
  simp
  intro s3
  refine FCall.frz1 62 rfl (v := .bool true) ?_ trivial ?_
  · simpa [L] using PInv.func (first := []) (cap := []) (args := [L [3, 7], L [3, 7]]) (law03_ints_ok [3, 7] [3, 7] (by simp) (by simp))
  simp
  intro s4
  refine FCall.frz1 98 rfl (v := .bool true) ?_ trivial ?_
  · simpa [L] using PInv.func (first := []) (cap := []) (args := [L [1, 2, 0], L [1, 2, 0]]) (law03_ints_ok [1, 2, 0] [1, 2, 0] (by simp) (by simp))
  simp
  exact RetV.refl rfl
/-- How long the longest list is. -/
def Rak.many (r : Rak) (l : List (Int × Bool)) (ls : List (List Int)) : Int := ls.foldl (fun m x => max m (x.length : Int)) (max (max (max (r.h.seams.length : Int) (r.h.snds.length : Int)) (r.f.length : Int)) (l.length : Int))
def Rak.longB (r : Rak) (l : List (Int × Bool)) (ls : List (List Int)) : Bool := decide (40 < r.many l ls)
theorem Rak.many_push (r : Rak) (l : List (Int × Bool)) (ls : List (List Int)) (x : List Int) : r.many l (ls ++ [x]) = max (r.many l ls) (x.length : Int) := by simp [Rak.many]
theorem Rak.many_le {r : Rak} {l : List (Int × Bool)} (ls : List (List Int)) : r.h.seams.length ≤ r.many l ls ∧ r.h.snds.length ≤ r.many l ls ∧ r.f.length ≤ r.many l ls ∧ l.length ≤ r.many l ls ∧ ∀ x ∈ ls, (x.length : Int) ≤ r.many l ls := by
  induction ls using Rk.push_ind with
  | h0 => simp [Rak.many]; omega
  | h1 ls x ih =>
    rw [Rak.many_push]
    obtain ⟨a, b, c, d, e⟩ := ih
    refine ⟨by omega, by omega, by omega, by omega, fun y hy => ?_⟩
    rcases List.mem_append.1 hy with h | h
    · have := e y h; omega
    · simp at h; subst h; omega
theorem Rak.short {r : Rak} {l : List (Int × Bool)} {ls : List (List Int)} (h : r.longB l ls = false) : r.Small ∧ l.length ≤ 40 ∧ ∀ x ∈ ls, x.length ≤ 40 := by
  unfold Rak.longB at h
  rw [decide_eq_false_iff_not] at h
  obtain ⟨a, b, c, d, e⟩ := Rak.many_le (r := r) (l := l) ls
  exact ⟨⟨⟨by omega, by omega⟩, by omega⟩, by omega, fun x hx => by have := e x hx; omega⟩
theorem law03_long_ok (r : Rak) (l : List (Int × Bool)) (ls : List (List Int)) (hls : ls.length ≤ 10) : APure Pg fn_law03_long [r.v, LK l, LLv ls] (.bool (r.longB l ls)) := by
  refine law03_long.pure (by simp) ?_
  simp
  intro s3
  refine Lp.intro (σ := Nat) (inv := fun k => k ≤ ls.length) (vw := fun k => [(7, .int .i64 (r.many l (ls.take k))), (24, LLv ls), (25, .int .i64 ls.length), (26, .int .i64 k)]) (hp := fun _ => []) (ms := fun k => ls.length - k) 0 (by simp) (by simp [Rak.many]) (by simp) ?_
  intro k hk J hJ
  by_cases hkc : k < ls.length
  · obtain ⟨x, hx⟩ : ∃ x, ls[k] = x := ⟨_, rfl⟩
    have hst : r.many l (ls.take (k + 1)) = max (r.many l (ls.take k)) (x.length : Int) := by rw [← List.take_append_getElem hkc, hx, Rak.many_push]
    have hget : ls[k]? = some x := by rw [List.getElem?_eq_getElem hkc, hx]
    simp [hkc, hget, hx, ← hst]
    (repeat first | refine And.intro (by omega) ?_ | refine And.intro (Fits.of (by omega) (by omega)) ?_)
    exact hJ.next (k + 1) (by omega) (by omega) (by simp) (by simp)
  obtain rfl : k = ls.length := by omega
  simp
  refine hJ.exit ?_
  simp
  exact RetV.refl (by simp [Rak.longB])
theorem law03_long0 (r : Rak) (l : List (Int × Bool)) : PInv Pg (.func (.func fn_law03_long) [] []) [r.v, LK l, .nils] (.bool (r.longB l [])) := fun hh =>
  AInvoke.ale (ALe.refl _) (args' := [r.v, LK l, LLv []]) ⟨ALe.refl _, ALe.refl _, ALe.nils_vl, trivial⟩ (PInv.func (first := []) (cap := []) (args := [r.v, LK l, LLv []]) (law03_long_ok r l [] (by simp)) hh)
theorem law03_long00 (r : Rak) : PInv Pg (.func (.func fn_law03_long) [] []) [r.v, .nils, .nils] (.bool (r.longB [] [])) := fun hh =>
  AInvoke.ale (ALe.refl _) (args' := [r.v, LK [], .nils]) ⟨ALe.refl _, ALe.nils_vl, ALe.refl _, trivial⟩ (law03_long0 r [] hh)
noncomputable def Rak.heavyB (r : Rak) (n : Int) (l : List (Int × Bool)) (ls : List (List Int)) : Bool := if r.longB l ls then true else if r.Valid then decide (n < (r.n : Int)) else false

theorem Rak.light {r : Rak} {n : Int} {l : List (Int × Bool)} {ls : List (List Int)} (h : r.heavyB n l ls = false) : r.longB l ls = false := by
  unfold Rak.heavyB at h
  split at h
  · cases h
  · rename_i hl; simpa using hl
end Go.Cw
end

/- The laws RakeTells, RakeOrders, RakeNames. -/
section
set_option maxRecDepth 100000
set_option linter.unusedSimpArgs false
namespace Go.Cw
open Go Go.Proofs

theorem Rak.known_len {r : Rak} (l : List (Int × Bool)) : (if r.errE l true = 0 then Rk.agF r.S l else []).length ≤ 100000 := by
  split
  · rename_i h
    have h1 := Rak.S_len (Rak.errE_zero.1 h).1
    have h2 := (Rk.agF_sub r.S l).length_le
    omega
  · simp



end Go.Cw
end

/- How a rake is read as an argument. -/
section
set_option maxRecDepth 100000
namespace Go.Cw
open Go Go.Proofs

section
variable {w : World} {μ : Mu}

theorem opens_int : Opens Pg w μ 3 fun av => ∃ n, (Lit.int .i64 n).wf = true ∧ av = [.int .i64 n] := Opens.int Tryz.underlying3 (by kernel_rfl)
theorem opens_bool : Opens Pg w μ 4 fun av => ∃ b, av = [.bool b] := Opens.bool Tryz.underlying4 (by kernel_rfl)
theorem opens_ints : Opens Pg w μ 26 fun av => ∃ l : List Int, av = [L l] := Opens.ints Tryz.underlying26 (by kernel_rfl) Tryz.underlying3 (by kernel_rfl)
theorem opens_span : Opens Pg w μ 65 fun av => ∃ p : Int × Int, av = [.int .i64 p.1, .int .i64 p.2] := by
  refine (Opens.struct (Vs := [_, _]) Tryz.underlying65 (by kernel_rfl) ⟨rfl, opens_int, by kernel_rfl, opens_int, trivial⟩).mono ?_
  rintro av ⟨ass, h, rfl⟩
  obtain ⟨a, b, rfl, ⟨n, _, rfl⟩, ⟨m, _, rfl⟩⟩ := h.two
  exact ⟨(n, m), rfl⟩
theorem opens_seam : Opens Pg w μ 118 fun av => ∃ a : Sm, av = a.c := by
  refine (Opens.struct (Vs := [_, _, _]) Tryz.underlying118 (by kernel_rfl) ⟨rfl, opens_int, by kernel_rfl, opens_int, by kernel_rfl, opens_int, trivial⟩).mono ?_
  rintro av ⟨ass, h, rfl⟩
  obtain ⟨a, b, c, rfl, ⟨n, _, rfl⟩, ⟨m, _, rfl⟩, ⟨k, _, rfl⟩⟩ := h.three
  exact ⟨⟨n, m, k⟩, rfl⟩
theorem opens_sounding : Opens Pg w μ 67 fun av => ∃ a : Sd, av = a.c := by
  refine (Opens.struct (Vs := [_, _, _]) Tryz.underlying67 (by kernel_rfl) ⟨rfl, opens_int, by kernel_rfl, opens_int, by kernel_rfl, opens_span, trivial⟩).mono ?_
  rintro av ⟨ass, h, rfl⟩
  obtain ⟨a, b, c, rfl, ⟨n, _, rfl⟩, ⟨m, _, rfl⟩, ⟨p, rfl⟩⟩ := h.three
  exact ⟨⟨n, m, p.1, p.2⟩, rfl⟩
theorem c118 : 0 < Pg.cellsOf 118 := by rw [show Pg.cellsOf 118 = 3 by kernel_rfl]; omega
theorem c67 : 0 < Pg.cellsOf 67 := by rw [show Pg.cellsOf 67 = 4 by kernel_rfl]; omega
theorem opens_hull : Opens Pg w μ 25 fun av => ∃ h : Hul, av = h.cells := by
  refine (Opens.struct (Vs := [_, _]) Tryz.underlying25 (by kernel_rfl) ⟨rfl, Opens.fl Tryz.underlying22 (by kernel_rfl) c118 opens_seam, by kernel_rfl, Opens.fl Tryz.underlying23 (by kernel_rfl) c67 opens_sounding, trivial⟩).mono ?_
  rintro av ⟨ass, h, rfl⟩
  obtain ⟨a, b, rfl, ⟨n, rfl⟩, ⟨m, rfl⟩⟩ := h.two
  exact ⟨⟨n, m⟩, rfl⟩
theorem opens_find : Opens Pg w μ 48 fun av => ∃ a : Int × Bool, av = fdC a := by
  refine (Opens.struct (Vs := [_, _]) Tryz.underlying48 (by kernel_rfl) ⟨rfl, opens_int, by kernel_rfl, opens_bool, trivial⟩).mono ?_
  rintro av ⟨ass, h, rfl⟩
  obtain ⟨a, b, rfl, ⟨n, _, rfl⟩, ⟨m, rfl⟩⟩ := h.two
  exact ⟨(n, m), rfl⟩
theorem c48 : 0 < Pg.cellsOf 48 := by rw [show Pg.cellsOf 48 = 2 by kernel_rfl]; omega
theorem opens_finds : Opens Pg w μ 29 fun av => ∃ l : List (Int × Bool), av = [LK l] := Opens.fl Tryz.underlying29 (by kernel_rfl) c48 opens_find
theorem opens_rake : Opens Pg w μ 28 fun av => ∃ r : Rak, av = r.cells := by
  refine (Opens.struct (Vs := [_, _]) Tryz.underlying28 (by kernel_rfl) ⟨rfl, opens_hull, by kernel_rfl, opens_ints, trivial⟩).mono ?_
  rintro av ⟨ass, h, rfl⟩
  obtain ⟨a, b, rfl, ⟨n, rfl⟩, ⟨m, rfl⟩⟩ := h.two
  exact ⟨⟨n, m⟩, rfl⟩
theorem opens_u8 : Opens Pg w μ 5 fun av => ∃ n : Int, (0 ≤ n ∧ n ≤ 255) ∧ av = [.int .u8 n] :=
  (Opens.int Tryz.underlying5 (by kernel_rfl)).mono fun av ⟨n, h1, h2⟩ => ⟨n, bounds_u8 h1, h2⟩
end

theorem kids : Kids Pg (· < Pg.types.size) := kids_rows (by kernel_rfl) (by kernel_rfl)
theorem slices_full : ∀ t e, t < Pg.types.size → Pg.underlying t = some (.slice e) → 0 < Pg.cellsOf e := slices_full_of Pg (by kernel_rfl)
theorem ownKnobNone : ownKnob Pg.godebug = none := by kernel_rfl

end Go.Cw
end

/- What is found if a seam is raked; the law RakeEnough. -/
section
set_option maxRecDepth 100000
set_option linter.unusedSimpArgs false
namespace Go.Cw
open Go Go.Proofs

theorem law03_finding_ok (i : Nat) (hi : i ≤ 60) (s : Int) (hs : 0 ≤ s ∧ s < 2 ^ 62) : APure Pg fn_law03_finding [.int .i64 i, .int .i64 s] (.agg [.int .i64 i, .bool (inS s i)]) := by
  have hdv : 0 ≤ s / 2 ^ i := Int.ediv_nonneg hs.1 (by have := two_pow_pos i; omega)
  have hand := bitI_and1 hdv (by have := Int.ediv_le_self (2 ^ i) hs.1; omega)
  refine law03_finding.pure (by simp) ?_
  simp [hand]
  intro s4
  refine ⟨by omega, ?_⟩
  refine PCallK.intro (PInv.func (law03_find_ok i (decide (s / 2 ^ i % 2 = 1)))) ?_
  simp
  exact RetV.refl rfl
theorem Sl.toV {n : Nat} {K : KT} {tm : TM} {df : DF} {h : Heap} (l : List (Nat × AVal)) (k : List (Nat × AObj)) (en : Sl n (fun tm' df' h' => df' = df ∧ Vw l tm' ∧ Hw k h') tm df h) (hK : K (tmV l) df (hpV k)) : Sl n K tm df h := by
  obtain ⟨tm₁, df₁, h₁, a, rfl, hv, hh⟩ := en
  exact ⟨_, _, _, a.trans (SLe.view hv hh), hK⟩
/-- A list that has grown becomes a value, by a temporary. -/
theorem Sl.gSt {n : Nat} {K : KT} {tm : TM} {df : DF} {h : Heap} (t nm : Nat) {cells : List AVal} {m s esz : Nat} (ht : tm t = gS esz nm m s) (hr : h nm = gO m cells s)
    (k0 : m = 0 → Sl n K (upd tm t (.vl 0 [])) df h) (k1 : m ≠ 0 → Sl n K (frzT nm s cells tm) df (upd h nm .dead)) : Sl n K tm df h := by
  by_cases h0 : m = 0
  · exact Sl.wk t (.vl 0 []) (by rw [ht, gS, if_pos h0]; exact ALe.es_vl) (k0 h0)
  · exact Sl.frz nm (by rw [hr, gO, if_neg h0]) (k1 h0)
namespace Rak
variable {r : Rak}
theorem S_small (hv : r.Valid) {s : Int} (hs : s ∈ r.S) : 0 ≤ s ∧ s < 64 := by
  have h1 := S_in hv s hs
  have h2 := two_pow_le hv.n6
  have e6 : (2 : Int) ^ 6 = 64 := by decide
  omega
/-- What is told of findings that a set agrees with. -/
theorem errE_mem (hv : r.Valid) {l : List (Int × Bool)} (hf : Rk.Fnd r.n l) {s : Int} (hs : s ∈ Rk.agF r.S l) : r.errE l true = 0 := by
  rw [errE_of hv hf rfl, if_neg]
  intro h; rw [h] at hs; cases hs
theorem knownV_mem (hv : r.Valid) {l : List (Int × Bool)} (hf : Rk.Fnd r.n l) {s : Int} (hs : s ∈ Rk.agF r.S l) : r.knownV l = .tup [L (Rk.agF r.S l), .int .i64 0] := by
  unfold knownV
  rw [errE_mem hv hf hs, if_pos rfl]
theorem self_agF {t : Int} (ht : t ∈ r.S) (n : Nat) (q : Int) : t ∈ Rk.agF r.S (Rk.fnds n q t) := Rk.agF_fnds.2 ⟨ht, Rk.same_refl _ _⟩
theorem fnds_len (n : Nat) (q t : Int) : (Rk.fnds n q t).length ≤ n := by
  unfold Rk.fnds Rk.els
  rw [List.length_map]
  exact Nat.le_trans (List.length_filter_le _ _) (by simp)
end Rak


end Go.Cw
end

/- The law RakeEnough. -/
section
set_option maxRecDepth 100000
set_option linter.unusedSimpArgs false
namespace Go.Cw
open Go Go.Proofs

theorem bitsI_andNot (p q : Nat → Bool) {n : Nat} (hn : n ≤ 60) : bitI .andNot .i64 (bits p n) (bits q n) = bits (fun i => p i && !q i) n := by
  have ha := natB_lt62 p hn
  have hb := natB_lt62 q hn
  have hc := natB_lt62 (fun i => p i && !q i) hn
  rw [bits_natB, bits_natB, bits_natB]
  have key : (BitVec.ofNat 64 (natB p n) &&& ~~~(BitVec.ofNat 64 (natB q n))).toNat = natB (fun i => p i && !q i) n := by
    apply Nat.eq_of_testBit_eq
    intro i
    rw [← BitVec.getLsbD, BitVec.getLsbD_and, BitVec.getLsbD_not, BitVec.getLsbD_ofNat, BitVec.getLsbD_ofNat, natB_bit, natB_bit, natB_bit]
    by_cases hi : i < n
    · have : i < 64 := by omega
      simp [hi, this]
    · simp [hi]
  show IntKind.i64.wrap (Int.ofNat (BitVec.ofInt 64 (natB p n : Nat) &&& ~~~(BitVec.ofInt 64 (natB q n : Nat))).toNat) = _
  rw [BitVec.ofInt_natCast, BitVec.ofInt_natCast, key]
  have hh : ((natB (fun i => p i && !q i) n : Nat) : Int) < 2 ^ 62 := by exact_mod_cast hc
  simp [IntKind.wrap, IntKind.signed, IntKind.bits]
  omega
namespace Rk
theorem bits_self {n : Nat} {q : Int} (hq : 0 ≤ q ∧ q < 2 ^ n) : bits (inS q) n = q := bits_of hq.1 hq.2
theorem bits_all1 (n : Nat) : bits (fun _ => true) n = 2 ^ n - 1 := by
  induction n with
  | zero => rfl
  | succ n ih => simp only [bits, ih, if_true]; rw [Int.pow_succ]; omega
/-- A set among all seams. -/
theorem and_every {m : Int} (hm : 0 ≤ m ∧ m < 2 ^ 60) {n : Nat} (hn : n ≤ 60) : ∃ o, bitI .and .i64 m (2 ^ n - 1) = o ∧ (0 ≤ o ∧ o < 2 ^ n) ∧ ∀ i, i < n → inS o i = inS m i := by
  have h2 : (2 : Int) ^ n - 1 = bits (fun i => decide (i < n)) 60 := by
    rw [bits_more (n := n) hn fun i h1 h2 => by simpa using h1, bits_congr (q := fun _ => true) fun i hi => by simpa using hi, bits_all1]
  refine ⟨bits (inS m) n, ?_, bits_lt _ _, fun i hi => inS_bits _ hi⟩
  conv => lhs; rw [h2, ← bits_self hm]
  rw [bitsI_and _ _ (by omega), bits_more (n := n) hn fun i h1 h2 => by simp; omega]
  exact bits_congr fun i hi => by simp [hi]
/-- A set without one of its seams. -/
theorem less {n : Nat} (hn : n ≤ 60) {q : Int} (hq : 0 ≤ q ∧ q < 2 ^ n) {i : Nat} (hi : i < n) : ∃ p : Nat, bitI .andNot .i64 q (2 ^ i) = p ∧ p < 2 ^ n ∧ ∀ j, j < n → inS (p : Int) j = (inS q j && !decide (j = i)) := by
  have e1 : bitI .andNot .i64 q (2 ^ i) = bits (fun j => inS q j && !decide (j = i)) n := by
    conv => lhs; rw [← bits_self hq, ← bits_one hi]
    exact bitsI_andNot _ _ hn
  have hb := bits_lt (fun j => inS q j && !decide (j = i)) n
  have hpc := pow_cast n
  obtain ⟨p, hp⟩ : ∃ p : Nat, (p : Int) = bits (fun j => inS q j && !decide (j = i)) n := ⟨_, Int.toNat_of_nonneg hb.1⟩
  refine ⟨p, by rw [e1, hp], by omega, fun j hj => ?_⟩
  rw [hp, inS_bits _ hj]
end Rk
namespace Rak
variable {r : Rak}
theorem errE_nil (hv : r.Valid) : r.errE [] true = if r.S = [] then 10 else 0 := by
  rw [errE_of hv Rk.Fnd.nil rfl, agF_nil]
theorem inS_truth (hv : r.Valid) {t : List Int} (ht : t ∈ r.h.truths r.h.every) {i : Nat} (hi : i < r.n) : inS (leaksT t) i = decide (0 < ofL t i) := by
  have h1 := (truths_in hv.h ht).1
  unfold leaksT
  rw [inS_bits _ (by rw [h1, ← show r.n = r.h.n from hv.len]; exact hi)]
/-- No seam of the sets that tell all surely leaks, or surely does not. -/
theorem en_leaks (hv : r.Valid) : bitI .and .i64 ((Rk.enP r.n r.F r.S).1 : Int) (bits (sureL (r.h.truths r.h.every)) 6) = 0 ∧ bitI .andNot .i64 ((Rk.enP r.n r.F r.S).1 : Int) (bits (canL (r.h.truths r.h.every)) 6) = 0 := by
  have hsp := Rk.enP_spec (n := r.n) (f := r.F) S_nodup (S_in hv)
  have hpc := Rk.pow_cast r.n
  have h2p := two_pow_le hv.n6
  obtain ⟨q, hq⟩ : ∃ q : Int, q = ((Rk.enP r.n r.F r.S).1 : Int) := ⟨_, rfl⟩
  have hqn : 0 ≤ q ∧ q < 2 ^ r.n := by omega
  have hq6 : 0 ≤ q ∧ q < 2 ^ 6 := by omega
  have hop : ∀ i, inS q i = true → i < r.n ∧ ∃ s ∈ r.S, ∃ t ∈ r.S, inS s i = true ∧ inS t i = false := fun i hi => by
    have hin : i < r.n := Nat.lt_of_not_le fun h => by rw [Rk.inS_big hqn h] at hi; cases hi
    rw [hq] at hi
    exact ⟨hin, Rk.en_open (fun i hi => by have := hv.fat hi; unfold F; omega) S_nodup (S_in hv) hin hi⟩
  rw [← hq, ← Rk.bits_self hq6]
  constructor
  · rw [bitsI_and _ _ (by omega), bits_zero]
    intro i _
    cases hi : inS q i with
    | false => rfl
    | true =>
      obtain ⟨hin, _, _, t, ht, _, h2⟩ := hop i hi
      obtain ⟨u, hu, rfl⟩ := mem_S.1 ht
      rw [inS_truth hv hu hin] at h2
      rw [Bool.true_and]
      unfold sureL
      rw [List.all_eq_false]
      exact ⟨u, hu, by simpa using h2⟩
  · rw [bitsI_andNot _ _ (by omega), bits_zero]
    intro i _
    cases hi : inS q i with
    | false => rfl
    | true =>
      obtain ⟨hin, s, hs, _, _, h1, _⟩ := hop i hi
      obtain ⟨u, hu, rfl⟩ := mem_S.1 hs
      rw [inS_truth hv hu hin] at h1
      have : canL (r.h.truths r.h.every) i = true := by
        unfold canL
        rw [List.any_eq_true]
        exact ⟨u, hu, h1⟩
      rw [this]; rfl
end Rak
theorem rake_Known0 (r : Rak) (hs : r.Small) : PInv Pg (.func (.func fn_rake_Known) [] []) [r.v, .nils] (r.knownV []) := fun hh =>
  AInvoke.ale (ALe.refl _) (args' := [r.v, LK []]) ⟨ALe.refl _, ALe.nils_vl, trivial⟩ (PInv.func (first := []) (cap := []) (args := [r.v, LK []]) (rake_Known_ok r hs [] (by simp)) hh)
section
variable {F n₀ : Nat} {inr : Bool} {keep : List Nat} {fa fl : List It} {t : Option Nat} {K : KT} {Q : Post} {tm : TM} {df : DF} {h : Heap}


end

end Go.Cw
end

/- Rakes with a sounding more, with a longer seam, and as many times as long. -/
section
set_option maxRecDepth 100000
set_option linter.unusedSimpArgs false
namespace Go.Cw
open Go Go.Proofs

namespace Rk
theorem sub_sorted {l m : List Int} (hl : l.Pairwise (· < ·)) (hm : m.Pairwise (· < ·)) (h : ∀ x ∈ l, x ∈ m) : l.Sublist m := by
  have e : l = m.filter fun x => decide (x ∈ l) := sorted_ext hl (hm.sublist List.filter_sublist) fun x => by
    rw [List.mem_filter, decide_eq_true_eq]
    exact ⟨fun hx => ⟨h x hx, hx⟩, fun hx => hx.2⟩
  rw [e]
  exact List.filter_sublist
end Rk
namespace Rak
/-- What is told of all. -/
noncomputable def vals (r : Rak) (k : Nat) : Int := if k = 0 then (if r.errE [] true = 0 then (Rk.planQ r.n r.F false r.S 0).2 else 0) else if k = 1 then r.ordN else if k = 2 then (if r.errE [] true = 0 then (Rk.enP r.n r.F r.S).2 else 0) else r.anyP.2.1
noncomputable def anyE (r : Rak) : Int := r.anyP.2.2
variable {r q : Rak}
theorem errE_any (h : ¬ r.errE [] true = 0) : r.anyE = r.errE [] true := by unfold anyE anyP; rw [if_neg h]
theorem anyE_ok (h : r.errE [] true = 0) : r.anyE = if (0 : Int) ∈ r.S then 11 else 0 := by
  unfold anyE anyP
  rw [if_pos h]
  split <;> rfl
theorem vals_any (h : r.errE [] true = 0) (h2 : r.anyE = 0) : r.vals 3 = (Rk.planQ r.n r.F true r.S 0).2 ∧ (0 : Int) ∉ r.S := by
  have h0 : (0 : Int) ∉ r.S := fun h3 => by rw [anyE_ok h, if_pos h3] at h2; omega
  refine ⟨?_, h0⟩
  show r.anyP.2.1 = _
  unfold anyP
  rw [if_pos h, if_neg h0]
theorem vals_ok (h : r.errE [] true = 0) : r.vals 0 = (Rk.planQ r.n r.F false r.S 0).2 ∧ r.vals 1 = (Rk.ordP r.n r.F r.S).2 ∧ r.vals 2 = (Rk.enP r.n r.F r.S).2 := by
  refine ⟨?_, ?_, ?_⟩
  · unfold vals
    rw [if_pos rfl, if_pos h]
  · show r.ordN = _
    unfold ordN
    rw [if_pos h]
  · unfold vals
    rw [if_neg (by omega), if_neg (by omega), if_pos rfl, if_pos h]
theorem vals_bound (hv : r.Valid) {k : Nat} : 0 ≤ r.vals k ∧ r.vals k ≤ 600 := by
  have hn6 := hv.n6
  have hF := F_in hv
  have hF0 : ∀ i, i < r.n → 0 ≤ r.F i := fun i hi => (hF i hi).1
  unfold vals
  split
  · split
    · have h1 := Rk.planQ_nonneg (n := r.n) hF0 (any := false) (Rk.un r.n 0).length r.S 0
      have h2 := Rk.planQ_bound hF (by omega) (any := false) r.S 0
      exact ⟨h1, by omega⟩
    · omega
  · split
    · unfold ordN
      split
      · rename_i he
        obtain ⟨h1, h2, _⟩ := Rk.ordP_spec (n := r.n) (f := r.F) (S := r.S)
        obtain ⟨h3, h4, h5⟩ := Rk.mem_all.1 h1
        rw [h2]
        refine ⟨Rk.most_nonneg, Rk.most_bound (by omega) fun s _ => ?_⟩
        have := Rk.cost_bound (M := 100) (by omega) (Rk.ordP r.n r.F r.S).1 (f := r.F) (fun i hi => hF i (h5 i hi)) r.S s
        omega
      · omega
    · split
      · split
        · rw [(Rk.enP_spec (S_nodup (r := r)) (S_in hv)).2.2.1]
          have h1 := Rk.lenS_nonneg (f := r.F) hF0 ((Rk.enP r.n r.F r.S).1 : Int)
          have h2 := Rk.lenS_bound (n := r.n) (f := r.F) (M := 100) hF (by omega) ((Rk.enP r.n r.F r.S).1 : Int)
          omega
        · omega
      · unfold anyP
        split
        · split
          · simp
          · have h1 := Rk.planQ_nonneg (n := r.n) hF0 (any := true) (Rk.un r.n 0).length r.S 0
            have h2 := Rk.planQ_bound hF (by omega) (any := true) r.S 0
            exact ⟨h1, by simp only; omega⟩
        · simp
theorem errE_v (hv : r.Valid) : r.errE [] true = 0 ∧ r.S ≠ [] ∨ r.errE [] true = 10 ∧ r.S = [] := by
  rw [errE_nil hv]
  by_cases h : r.S = []
  · exact .inr ⟨by rw [if_pos h], h⟩
  · exact .inl ⟨by rw [if_neg h], h⟩
/-- What is to be shown of another rake. -/
structure Rel (r q : Rak) (i : Nat) (c : Int) : Prop where
  same : 0 < i → q.errE [] true = r.errE [] true ∧ q.anyE = r.anyE
  clash : q.errE [] true = 0 ∨ q.errE [] true = 10
  base : q.errE [] true = 0 → r.errE [] true = 0
  any0 : i = 0 → q.errE [] true = 0 → r.anyE = 0 → q.anyE = 0
  cmp : q.errE [] true = 0 → ∀ k, k < 4 → (k = 3 → r.anyE = 0 ∧ q.anyE = 0) → (i = 0 → q.vals k ≤ r.vals k) ∧ (i = 1 → r.vals k ≤ q.vals k) ∧ (i = 2 → q.vals k = c * r.vals k)
theorem k4 {p : Nat → Prop} (h0 : p 0) (h1 : p 1) (h2 : p 2) {e : Prop} (h3 : e → p 3) : ∀ k, k < 4 → (k = 3 → e) → p k := fun k hk he => by
  rcases (show k = 0 ∨ k = 1 ∨ k = 2 ∨ k = 3 by omega) with rfl | rfl | rfl | rfl
  · exact h0
  · exact h1
  · exact h2
  · exact h3 (he rfl)
/-- With a sounding more. -/
theorem rel_more (hv : r.Valid) (hq : q.Valid) (hf : q.f = r.f) (hsub : ∀ t ∈ q.h.truths q.h.every, t ∈ r.h.truths r.h.every) (c : Int) : Rel r q 0 c := by
  have hn : q.n = r.n := by unfold n; rw [hf]
  have hF : q.F = r.F := by unfold F; rw [hf]
  have hS : ∀ x ∈ q.S, x ∈ r.S := fun x hx => by
    obtain ⟨t, ht, rfl⟩ := mem_S.1 hx
    exact mem_S.2 ⟨t, hsub t ht, rfl⟩
  have hsl := Rk.sub_sorted (S_lt (r := q)) (S_lt (r := r)) hS
  have hb : q.errE [] true = 0 → r.errE [] true = 0 := fun h => by
    rcases errE_v hq with ⟨_, h1⟩ | ⟨h1, _⟩
    · rcases errE_v hv with ⟨h2, _⟩ | ⟨_, h2⟩
      · exact h2
      · obtain ⟨x, hx⟩ := List.exists_mem_of_ne_nil _ h1
        have := hS x hx
        rw [h2] at this; cases this
    · omega
  have hF0 : ∀ i, i < r.n → 0 ≤ r.F i := fun i hi => (F_in hv i hi).1
  refine ⟨fun h => by omega, by rcases errE_v hq with h | h <;> omega, hb, fun _ h1 h2 => ?_, fun h1 => ?_⟩
  · have h3 := (vals_any (hb h1) h2).2
    rw [anyE_ok h1, if_neg fun h4 => h3 (hS _ h4)]
  · obtain ⟨a0, a1, a2⟩ := vals_ok (hb h1)
    obtain ⟨b0, b1, b2⟩ := vals_ok h1
    rw [hn, hF] at b0 b1 b2
    refine k4 (p := fun k => (0 = 0 → q.vals k ≤ r.vals k) ∧ ((0 : Nat) = 1 → r.vals k ≤ q.vals k) ∧ ((0 : Nat) = 2 → q.vals k = c * r.vals k)) ⟨fun _ => ?_, fun h => by omega, fun h => by omega⟩ ⟨fun _ => ?_, fun h => by omega, fun h => by omega⟩ ⟨fun _ => ?_, fun h => by omega, fun h => by omega⟩ fun he => ⟨fun _ => ?_, fun h => by omega, fun h => by omega⟩
    · rw [a0, b0]; exact Rk.worst_mono hF0 (fun i _ => Int.le_refl _) 0 hsl
    · rw [a1, b1]; exact Rk.ord_mono hF0 (fun i _ => Int.le_refl _) hsl
    · rw [a2, b2]; exact Rk.en_mono (fun i _ => Int.le_refl _) hsl (S_nodup (r := r)) (S_in hv)
    · rw [(vals_any (hb h1) he.1).1, (vals_any h1 he.2).1, hn, hF]; exact Rk.worst_mono hF0 (fun i _ => Int.le_refl _) 0 hsl
theorem rel_hull (hv : r.Valid) (hq : q.Valid) (hh : q.h = r.h) : q.S = r.S ∧ q.errE [] true = r.errE [] true ∧ q.anyE = r.anyE := by
  have hS : q.S = r.S := by unfold S; rw [hh]
  have he : q.errE [] true = r.errE [] true := by rw [errE_nil hq, errE_nil hv, hS]
  refine ⟨hS, he, ?_⟩
  by_cases h : r.errE [] true = 0
  · rw [anyE_ok h, anyE_ok (by rw [he]; exact h), hS]
  · rw [errE_any h, errE_any (by rw [he]; exact h), he]
/-- With a longer seam. -/
theorem rel_long (hv : r.Valid) (hq : q.Valid) (hh : q.h = r.h) (hn : q.n = r.n) (hF : ∀ i, i < r.n → r.F i ≤ q.F i) (c : Int) : Rel r q 1 c := by
  obtain ⟨hS, he, ha⟩ := rel_hull hv hq hh
  have hF0 : ∀ i, i < r.n → 0 ≤ r.F i := fun i hi => (F_in hv i hi).1
  refine ⟨fun _ => ⟨he, ha⟩, by rcases errE_v hq with h | h <;> omega, fun h => by rw [← he]; exact h, fun h => by omega, fun h1 => ?_⟩
  have h0 : r.errE [] true = 0 := by rw [← he]; exact h1
  obtain ⟨a0, a1, a2⟩ := vals_ok h0
  obtain ⟨b0, b1, b2⟩ := vals_ok h1
  rw [hn, hS] at b0 b1 b2
  have hr : r.S.Sublist r.S := List.Sublist.refl _
  refine k4 (p := fun k => ((1 : Nat) = 0 → q.vals k ≤ r.vals k) ∧ (1 = 1 → r.vals k ≤ q.vals k) ∧ ((1 : Nat) = 2 → q.vals k = c * r.vals k)) ⟨fun h => by omega, fun _ => ?_, fun h => by omega⟩ ⟨fun h => by omega, fun _ => ?_, fun h => by omega⟩ ⟨fun h => by omega, fun _ => ?_, fun h => by omega⟩ fun hk => ⟨fun h => by omega, fun _ => ?_, fun h => by omega⟩
  · rw [a0, b0]; exact Rk.worst_mono hF0 hF 0 hr
  · rw [a1, b1]; exact Rk.ord_mono hF0 hF hr
  · rw [a2, b2]; exact Rk.en_mono hF hr (S_nodup (r := r)) (S_in hv)
  · rw [(vals_any h0 hk.1).1, (vals_any h1 hk.2).1, hn, hS]; exact Rk.worst_mono hF0 hF 0 hr
/-- As many times as long. -/
theorem rel_times (hv : r.Valid) (hq : q.Valid) (hh : q.h = r.h) (hn : q.n = r.n) {c : Int} (hc : 0 < c) (hF : q.F = fun i => c * r.F i) : Rel r q 2 c := by
  obtain ⟨hS, he, ha⟩ := rel_hull hv hq hh
  refine ⟨fun _ => ⟨he, ha⟩, by rcases errE_v hq with h | h <;> omega, fun h => by rw [← he]; exact h, fun h => by omega, fun h1 => ?_⟩
  have h0 : r.errE [] true = 0 := by rw [← he]; exact h1
  obtain ⟨a0, a1, a2⟩ := vals_ok h0
  obtain ⟨b0, b1, b2⟩ := vals_ok h1
  rw [hn, hS, hF] at b0 b1 b2
  refine k4 (p := fun k => ((2 : Nat) = 0 → q.vals k ≤ r.vals k) ∧ ((2 : Nat) = 1 → r.vals k ≤ q.vals k) ∧ (2 = 2 → q.vals k = c * r.vals k)) ⟨fun h => by omega, fun h => by omega, fun _ => ?_⟩ ⟨fun h => by omega, fun h => by omega, fun _ => ?_⟩ ⟨fun h => by omega, fun h => by omega, fun _ => ?_⟩ fun hk => ⟨fun h => by omega, fun h => by omega, fun _ => ?_⟩
  · rw [a0, b0, Rk.worst_mul hc]
  · rw [a1, b1, Rk.ord_mul hc]
  · rw [a2, b2, Rk.en_mul hc]
  · rw [(vals_any h0 hk.1).1, (vals_any h1 hk.2).1, hn, hS, hF, Rk.worst_mul hc]
/-- Some leak is raked behind no more than all, and the longest one. -/
theorem any_le (hv : r.Valid) (h : r.errE [] true = 0) (h2 : r.anyE = 0) : 1 ≤ r.vals 3 ∧ r.vals 3 ≤ r.vals 0 + maxL r.f := by
  obtain ⟨h3, h4⟩ := vals_any h h2
  obtain ⟨b0, _, _⟩ := vals_ok h
  rw [h3, b0]
  have hS : r.S ≠ [] := by
    rcases errE_v hv with ⟨_, h5⟩ | ⟨h5, _⟩
    · exact h5
    · omega
  refine Rk.any_bounds (M := maxL r.f) (fun i hi => ⟨by have := hv.fat hi; unfold F; omega, ?_⟩) (fun s hs => ?_) hS
  · have hl : i < r.f.length := hi
    unfold F
    rw [← ofL_at r.f hl]
    exact maxL_le _ (by simp)
  · have h5 := S_in hv s hs
    have : s ≠ 0 := fun e => h4 (by rw [← e]; exact hs)
    omega
theorem inS_every' {h : Hul} {j : Nat} (hj : j < h.k) : inS h.every j = true := by
  unfold Hul.every
  exact Rk.inS_full hj
/-- Truths of a hull with a sounding more are truths. -/
theorem more_sub (h : Hul) (a : Sd) : ∀ t ∈ (⟨h.seams, h.snds ++ [a]⟩ : Hul).truths (⟨h.seams, h.snds ++ [a]⟩ : Hul).every, t ∈ h.truths h.every := fun t ht => by
  obtain ⟨z, hz⟩ : ∃ z : Hul, z = ⟨h.seams, h.snds ++ [a]⟩ := ⟨_, rfl⟩
  rw [← hz] at ht
  have hw : ∀ d l, z.wet d l = h.wet d l := fun d l => by rw [hz]; rfl
  have hk : z.k = h.k + 1 := by rw [hz]; simp [Hul.k]
  unfold Hul.truths at ht ⊢
  rw [List.mem_filter] at ht ⊢
  refine ⟨by have := ht.1; rw [hz] at this; exact this, ?_⟩
  have h2 := ht.2
  unfold Hul.right at h2 ⊢
  rw [List.all_eq_true] at h2 ⊢
  intro j hj
  have hj' := List.mem_range.1 hj
  have h3 := h2 j (List.mem_range.2 (by omega))
  unfold Hul.sndB at h3 ⊢
  have hl : j < h.snds.length := hj'
  have e1 : h.snds[j]? = some h.snds[j] := List.getElem?_eq_getElem hl
  have e2 : z.snds[j]? = some h.snds[j] := by rw [hz]; simp [List.getElem?_append_left hl, hl]
  rw [e2] at h3
  rw [e1]
  simp only [inS_every' (show j < z.k by omega), hw, Bool.not_true, Bool.false_or] at h3
  simp only [h3, Bool.or_true]
end Rak
end Go.Cw
end

/- The law RakeMore. -/
section
set_option maxRecDepth 100000
set_option linter.unusedSimpArgs false
namespace Go.Cw
open Go Go.Proofs

theorem tab4 (c : Nat → Int) : ints (tab 4 c) = [.int .i64 (c 0), .int .i64 (c 1), .int .i64 (c 2), .int .i64 (c 3)] := rfl
theorem law03_RakeMore_1_ok (r : Rak) (hs : r.Small) : APure Pg fn_law03_RakeMore_1 [r.v] (.tup [.agg (ints (tab 4 r.vals)), .int .i64 (r.errE [] true), .int .i64 r.anyE]) := by
  have c1 := rake_Worst_ok r hs
  have c2 := rake_Order_ok r hs
  have c3 := rake_Enough_ok r hs
  have c4 := rake_Any_ok r hs
  obtain ⟨en, hen⟩ : ∃ en : Int, en = ((if r.errE [] true = 0 then (Rk.enP r.n r.F r.S).1 else 0 : Nat) : Int) := ⟨_, rfl⟩
  obtain ⟨an, han⟩ : ∃ an : Int, an = (r.anyP.1 : Int) := ⟨_, rfl⟩
  obtain ⟨O, hO⟩ : ∃ O, O = r.ordL := ⟨_, rfl⟩
  have e1 : r.worstV = .tup [.int .i64 (r.vals 0), .int .i64 (r.errE [] true)] := rfl
  have e2 : r.ordV = .tup [L O, .int .i64 (r.vals 1), .int .i64 (r.errE [] true)] := by rw [hO]; rfl
  have e3 : r.enV = .tup [.int .i64 en, .int .i64 (r.vals 2), .int .i64 (r.errE [] true)] := by rw [hen]; rfl
  have e4 : r.anyV = .tup [.int .i64 an, .int .i64 (r.vals 3), .int .i64 r.anyE] := by rw [han]; rfl
  rw [e1] at c1
  rw [e2] at c2
  rw [e3] at c3
  rw [e4] at c4
  have hA : r.errE [] true = 0 ∧ (r.anyE = 0 ∨ r.anyE = 11) ∨ ¬ r.errE [] true = 0 ∧ r.anyE = r.errE [] true := by
    by_cases h : r.errE [] true = 0
    · left
      refine ⟨h, ?_⟩
      rw [Rak.anyE_ok h]
      split
      · exact .inr rfl
      · exact .inl rfl
    · exact .inr ⟨h, Rak.errE_any h⟩
  obtain ⟨E, hE⟩ : ∃ E, E = r.errE [] true := ⟨_, rfl⟩
  obtain ⟨A, hAe⟩ : ∃ A, A = r.anyE := ⟨_, rfl⟩
  rw [← hE] at c1 c2 c3 hA ⊢
  rw [← hAe] at c4 hA ⊢
  refine law03_RakeMore_1.pure (by simp) ?_
  simp
  intro s1 s2
  refine PCallK.intro (PInv.func (first := []) (cap := []) (args := [r.v]) c1) ?_
  simp
  refine PCallK.intro (PInv.func (first := []) (cap := []) (args := [r.v]) c2) ?_
  simp
  refine PCallK.intro (PInv.func (first := []) (cap := []) (args := [r.v]) c3) ?_
  simp
  refine PCallK.intro (PInv.func (first := []) (cap := []) (args := [r.v]) c4) ?_
  rcases hA with ⟨rfl, rfl | rfl⟩ | ⟨h0, rfl⟩
  · simp
    exact RetV.refl (by simp [tab4])
  · simp
    exact RetV.refl (by simp [tab4])
  · simp [h0]
    exact RetV.refl (by simp [tab4])
/-- What is kept while the other rakes are gone through. -/
noncomputable def mrV (r : Rak) (c : Int) (s17 s118 k : Nat) : List (Nat × AVal) := [(12, .int .i64 c), (16, .func (.func fn_law03_RakeMore_1) [] []), (17, .ptr 17 0 s17), (18, .int .i64 (r.errE [] true)), (19, .int .i64 r.anyE), (118, .sl 118 0 s118 3 (.ex 3)), (119, .int .i64 3), (120, .int .i64 k)]
noncomputable def mrH (r : Rak) (Z : Nat → Rak) (s17 s118 : Nat) : List (Nat × AObj) := [(17, .row (ints (tab 4 r.vals)) s17), (118, .row ((Z 0).cells ++ (Z 1).cells ++ (Z 2).cells) s118)]
theorem law03_RakeMore_inner (r : Rak) (q : Rak) (Z : Nat → Rak) (c : Int) (hc : 1 ≤ c ∧ c ≤ 3) (s17 s118 s22 : Nat) (J : Post) (i : Nat) (hi : i < 3) (hrb : ∀ j, 0 ≤ r.vals j ∧ r.vals j ≤ 600)
    (hcmp : ∀ k, k < 4 → (k = 3 → r.anyE = 0 ∧ q.anyE = 0) → (i = 0 → q.vals k ≤ r.vals k) ∧ (i = 1 → r.vals k ≤ q.vals k) ∧ (i = 2 → q.vals k = c * r.vals k))
    (next : ∀ tm h', Vw (mrV r c s17 s118 (i + 1)) tm → Hw (mrH r Z s17 s118) h' → J .normal tm [] h') (tm : TM) (h : Heap)
    (hvw : Vw (mrV r c s17 s118 i ++ [(20, .int .i64 i), (22, .ptr 22 0 s22), (24, .int .i64 q.anyE), (169, .int .i64 0)]) tm)
    (hh : Hw (mrH r Z s17 s118 ++ [(22, .row (ints (tab 4 q.vals)) s22)]) h) :
    Lp 224 (AW ⟨Pg, 0, 224, false, []⟩ (.seq (.ops law03_RakeMore.r31) (.seq (.cond (.t 170) .skip (.exit 4)) (.seq (.block 5 (.seq (.ops law03_RakeMore.r32) (.seq (.seq (.ops law03_RakeMore.r33) (.cond (.t 181) (.exit 5) .skip)) (.seq (.ops law03_RakeMore.r34) (.cond (.t 220) (.seq (.ops law03_RakeMore.r35) .ret) .skip))))) (.ops law03_RakeMore.r36))))) (InB 4 (InB 3 (Then (AW ⟨Pg, 0, 224, false, []⟩ (.ops law03_RakeMore.r37) J) J))) tm [] h := by
  refine Lp.intro (σ := Nat) (inv := fun n => n ≤ 4) (vw := fun n => mrV r c s17 s118 i ++ [(20, .int .i64 i), (22, .ptr 22 0 s22), (24, .int .i64 q.anyE), (169, .int .i64 n)])
    (hp := fun _ => mrH r Z s17 s118 ++ [(22, .row (ints (tab 4 q.vals)) s22)]) (ms := fun n => 4 - n) 0 (by omega) hvw hh ?_
  intro n hn J2 hJ2
  by_cases hnc : n < 4
  · have hnc' : (n : Int) < 4 := by omega
    have hbn := hrb n
    have htr : (tab 4 r.vals)[n]? = some (r.vals n) := by rw [tab_get, if_pos hnc]
    have htq : (tab 4 q.vals)[n]? = some (q.vals n) := by rw [tab_get, if_pos hnc]
    by_cases hsk : n = 3 ∧ (¬ r.anyE = 0 ∨ ¬ q.anyE = 0)
    · obtain ⟨rfl, hsk⟩ := hsk
      by_cases hr0 : r.anyE = 0
      · have hq0 : ¬ q.anyE = 0 := hsk.resolve_left fun h => h hr0
        simp [mrV, mrH, hr0, hq0]
        (repeat first | refine And.intro (by omega) ?_ | refine And.intro (Fits.of (by omega) (by omega)) ?_)
        exact hJ2.next 4 (by omega) (by omega) (by simp [mrV, hr0]) (by simp [mrH])
      · simp [mrV, mrH, hr0]
        (repeat first | refine And.intro (by omega) ?_ | refine And.intro (Fits.of (by omega) (by omega)) ?_)
        exact hJ2.next 4 (by omega) (by omega) (by simp [mrV]) (by simp [mrH])
    · have hlt := hcmp n hnc fun h3 => ⟨Classical.byContradiction fun h => hsk ⟨h3, .inl h⟩, Classical.byContradiction fun h => hsk ⟨h3, .inr h⟩⟩
      rcases (show i = 0 ∨ i = 1 ∨ i = 2 by omega) with rfl | rfl | rfl
      · have hfact : ¬ r.vals n < q.vals n := by have := hlt.1 rfl; omega
        by_cases hn3 : n = 3
        · have hr0 : r.anyE = 0 := Classical.byContradiction fun h => hsk ⟨hn3, .inl h⟩
          have hq0 : q.anyE = 0 := Classical.byContradiction fun h => hsk ⟨hn3, .inr h⟩
          subst hn3
          simp [mrV, mrH, hr0, hq0, htr, htq, hfact]
          (repeat first | refine And.intro (by omega) ?_ | refine And.intro (Fits.of (by omega) (by omega)) ?_)
          exact hJ2.next 4 (by omega) (by omega) (by simp [mrV, hr0, hq0]) (by simp [mrH])
        · simp [mrV, mrH, hnc, hnc', hn3, show ¬ (n : Int) = 3 by omega, htr, htq, hfact]
          (repeat first | refine And.intro (by omega) ?_ | refine And.intro (Fits.of (by omega) (by omega)) ?_)
          exact hJ2.next (n + 1) (by omega) (by omega) (by simp [mrV]) (by simp [mrH])
      · have hfact : ¬ q.vals n < r.vals n := by have := hlt.2.1 rfl; omega
        by_cases hn3 : n = 3
        · have hr0 : r.anyE = 0 := Classical.byContradiction fun h => hsk ⟨hn3, .inl h⟩
          have hq0 : q.anyE = 0 := Classical.byContradiction fun h => hsk ⟨hn3, .inr h⟩
          subst hn3
          simp [mrV, mrH, hr0, hq0, htr, htq, hfact]
          (repeat first | refine And.intro (by omega) ?_ | refine And.intro (Fits.of (by omega) (by omega)) ?_)
          exact hJ2.next 4 (by omega) (by omega) (by simp [mrV, hr0, hq0]) (by simp [mrH])
        · simp [mrV, mrH, hnc, hnc', hn3, show ¬ (n : Int) = 3 by omega, htr, htq, hfact]
          (repeat first | refine And.intro (by omega) ?_ | refine And.intro (Fits.of (by omega) (by omega)) ?_)
          exact hJ2.next (n + 1) (by omega) (by omega) (by simp [mrV]) (by simp [mrH])
      · have hfact : q.vals n = c * r.vals n := hlt.2.2 rfl
        have hp : 0 ≤ c * r.vals n ∧ c * r.vals n ≤ 1800 := by
          rcases (show c = 1 ∨ c = 2 ∨ c = 3 by omega) with rfl | rfl | rfl <;> omega
        by_cases hn3 : n = 3
        · have hr0 : r.anyE = 0 := Classical.byContradiction fun h => hsk ⟨hn3, .inl h⟩
          have hq0 : q.anyE = 0 := Classical.byContradiction fun h => hsk ⟨hn3, .inr h⟩
          subst hn3
          simp [mrV, mrH, hr0, hq0, htr, htq, hfact]
          (repeat first | refine And.intro (by omega) ?_ | refine And.intro (Fits.of (by omega) (by omega)) ?_)
          exact hJ2.next 4 (by omega) (by omega) (by simp [mrV, hr0, hq0]) (by simp [mrH])
        · simp [mrV, mrH, hnc, hnc', hn3, show ¬ (n : Int) = 3 by omega, htr, htq, hfact]
          (repeat first | refine And.intro (by omega) ?_ | refine And.intro (Fits.of (by omega) (by omega)) ?_)
          exact hJ2.next (n + 1) (by omega) (by omega) (by simp [mrV]) (by simp [mrH])
  obtain rfl : n = 4 := by omega
  simp [mrV, mrH]
  refine hJ2.exit ?_
  simp
  (repeat first | refine And.intro (by omega) ?_ | refine And.intro (Fits.of (by omega) (by omega)) ?_)
  exact next _ _ (by simp [mrV]) (by simp [mrH])
theorem law03_RakeMore_round (r : Rak) (hv : r.Valid) (Z : Nat → Rak) (hZs : ∀ k, k < 3 → (Z k).Small) (c : Int) (hc : 1 ≤ c ∧ c ≤ 3) (hrel : ∀ k, k < 3 → (Z k).Valid → Rak.Rel r (Z k) k c) (s17 s118 : Nat) (J : Post) (k : Nat) (hk : k < 3)
    (next : ∀ tm h', Vw (mrV r c s17 s118 (k + 1)) tm → Hw (mrH r Z s17 s118) h' → J .normal tm [] h') :
    AW ⟨Pg, 0, 224, false, []⟩ (.seq (.ops law03_RakeMore.r19) (.seq (.cond (.t 121) .skip (.exit 2)) (.seq (.block 3 (.seq (.ops law03_RakeMore.r20) (.seq (.seq (.ops law03_RakeMore.r21) (.cond (.t 127) (.exit 3) .skip)) (.seq (.ops law03_RakeMore.r22) (.seq (.seq (.ops law03_RakeMore.r23) (.cond (.t 150) (.seq (.ops law03_RakeMore.r24) .ret) .skip)) (.seq (.seq (.ops law03_RakeMore.r25) (.cond (.t 152) (.seq (.seq (.ops law03_RakeMore.r26) (.cond (.t 154) (.seq (.ops law03_RakeMore.r27) .ret) .skip)) (.exit 3)) .skip)) (.seq (.seq (.ops law03_RakeMore.r28) (.cond (.t 168) (.seq (.ops law03_RakeMore.r29) .ret) .skip)) (.seq (.ops law03_RakeMore.r30) (.block 4 (.loop (.seq (.ops law03_RakeMore.r31) (.seq (.cond (.t 170) .skip (.exit 4)) (.seq (.block 5 (.seq (.ops law03_RakeMore.r32) (.seq (.seq (.ops law03_RakeMore.r33) (.cond (.t 181) (.exit 5) .skip)) (.seq (.ops law03_RakeMore.r34) (.cond (.t 220) (.seq (.ops law03_RakeMore.r35) .ret) .skip))))) (.ops law03_RakeMore.r36)))))))))))))) (.ops law03_RakeMore.r37)))) J (tmV (mrV r c s17 s118 k)) [] (hpV (mrH r Z s17 s118)) := by
  obtain ⟨q, hq⟩ : ∃ q, q = Z k := ⟨_, rfl⟩
  have hqs : q.Small := by rw [hq]; exact hZs k hk
  have cR := ref03_Rake_ok q hqs
  have cA := law03_RakeMore_1_ok q hqs
  rw [tab4] at cA
  have hrel' : q.Valid → Rak.Rel r q k c := fun h => by rw [hq] at h ⊢; exact hrel k hk h
  have hrb := fun j => Rak.vals_bound hv (k := j)
  rcases (show k = 0 ∨ k = 1 ∨ k = 2 by omega) with rfl | rfl | rfl
  all_goals simp [mrV, mrH, Rak.cells, ← hq]
  all_goals intro s21
  all_goals refine PCallK.intro (PInv.func (first := []) (cap := []) (args := [q.v]) cR) ?_
  · by_cases hqv : ¬ q.Valid
    · simp [hqv]
      (repeat first | refine And.intro (by omega) ?_ | refine And.intro (Fits.of (by omega) (by omega)) ?_)
      exact next _ _ (by simp [mrV]) (by simp [mrH, Rak.cells, ← hq])
    replace hqv := Classical.not_not.1 hqv
    have rel := hrel' hqv
    have hqb := fun j => Rak.vals_bound hqv (k := j)
    simp [hqv]
    refine FCall.pure (PInv.func (first := []) (cap := []) (args := [q.v]) cA) ?_
    simp
    intro s22
    rcases rel.clash with he | he
    · have hb := rel.base he
      have hcmp := rel.cmp he
      by_cases hr0 : r.anyE = 0
      · have hq0 := rel.any0 rfl he hr0
        simp [he, hb, hr0, hq0]
        exact law03_RakeMore_inner r q Z c hc s17 s118 (s22+1) J 0 (by omega) hrb hcmp next _ _ (by simp [mrV, hb, hr0, hq0]) (by simp [mrH, tab4, Rak.cells, ← hq])
      · simp [he, hb, hr0]
        exact law03_RakeMore_inner r q Z c hc s17 s118 (s22+1) J 0 (by omega) hrb hcmp next _ _ (by simp [mrV, hb]) (by simp [mrH, tab4, Rak.cells, ← hq])
    · simp [he]
      (repeat first | refine And.intro (by omega) ?_ | refine And.intro (Fits.of (by omega) (by omega)) ?_)
      exact next _ _ (by simp [mrV]) (by simp [mrH, Rak.cells, ← hq])
  · by_cases hqv : ¬ q.Valid
    · simp [hqv]
      (repeat first | refine And.intro (by omega) ?_ | refine And.intro (Fits.of (by omega) (by omega)) ?_)
      exact next _ _ (by simp [mrV]) (by simp [mrH, Rak.cells, ← hq])
    replace hqv := Classical.not_not.1 hqv
    have rel := hrel' hqv
    obtain ⟨hsE, hsA⟩ := rel.same (by omega)
    rw [hsE, hsA] at cA
    simp [hqv]
    refine FCall.pure (PInv.func (first := []) (cap := []) (args := [q.v]) cA) ?_
    simp
    intro s22
    rcases rel.clash with he | he
    · have hb := rel.base he
      have hcmp := rel.cmp he
      simp [hb]
      exact law03_RakeMore_inner r q Z c hc s17 s118 (s22+1) J 1 (by omega) hrb hcmp next _ _ (by simp [mrV, hb, hsA]) (by simp [mrH, tab4, Rak.cells, ← hq])
    · rw [hsE] at he
      simp [he]
      (repeat first | refine And.intro (by omega) ?_ | refine And.intro (Fits.of (by omega) (by omega)) ?_)
      exact next _ _ (by simp [mrV, he]) (by simp [mrH, Rak.cells, ← hq])
  · by_cases hqv : ¬ q.Valid
    · simp [hqv]
      (repeat first | refine And.intro (by omega) ?_ | refine And.intro (Fits.of (by omega) (by omega)) ?_)
      exact next _ _ (by simp [mrV]) (by simp [mrH, Rak.cells, ← hq])
    replace hqv := Classical.not_not.1 hqv
    have rel := hrel' hqv
    obtain ⟨hsE, hsA⟩ := rel.same (by omega)
    rw [hsE, hsA] at cA
    simp [hqv]
    refine FCall.pure (PInv.func (first := []) (cap := []) (args := [q.v]) cA) ?_
    simp
    intro s22
    rcases rel.clash with he | he
    · have hb := rel.base he
      have hcmp := rel.cmp he
      simp [hb]
      exact law03_RakeMore_inner r q Z c hc s17 s118 (s22+1) J 2 (by omega) hrb hcmp next _ _ (by simp [mrV, hb, hsA]) (by simp [mrH, tab4, Rak.cells, ← hq])
    · rw [hsE] at he
      simp [he]
      (repeat first | refine And.intro (by omega) ?_ | refine And.intro (Fits.of (by omega) (by omega)) ?_)
      exact next _ _ (by simp [mrV, he]) (by simp [mrH, Rak.cells, ← hq])
theorem law03_RakeMore_loop (r : Rak) (hv : r.Valid) (Z : Nat → Rak) (hZs : ∀ k, k < 3 → (Z k).Small) (c : Int) (hc : 1 ≤ c ∧ c ≤ 3) (hrel : ∀ k, k < 3 → (Z k).Valid → Rak.Rel r (Z k) k c) (s17 s118 : Nat) (tm : TM) (h : Heap)
    (hvw : Vw (mrV r c s17 s118 0) tm) (hh : Hw (mrH r Z s17 s118) h) :
    Lp 224 (AW ⟨Pg, 0, 224, false, []⟩ (.seq (.ops law03_RakeMore.r19) (.seq (.cond (.t 121) .skip (.exit 2)) (.seq (.block 3 (.seq (.ops law03_RakeMore.r20) (.seq (.seq (.ops law03_RakeMore.r21) (.cond (.t 127) (.exit 3) .skip)) (.seq (.ops law03_RakeMore.r22) (.seq (.seq (.ops law03_RakeMore.r23) (.cond (.t 150) (.seq (.ops law03_RakeMore.r24) .ret) .skip)) (.seq (.seq (.ops law03_RakeMore.r25) (.cond (.t 152) (.seq (.seq (.ops law03_RakeMore.r26) (.cond (.t 154) (.seq (.ops law03_RakeMore.r27) .ret) .skip)) (.exit 3)) .skip)) (.seq (.seq (.ops law03_RakeMore.r28) (.cond (.t 168) (.seq (.ops law03_RakeMore.r29) .ret) .skip)) (.seq (.ops law03_RakeMore.r30) (.block 4 (.loop (.seq (.ops law03_RakeMore.r31) (.seq (.cond (.t 170) .skip (.exit 4)) (.seq (.block 5 (.seq (.ops law03_RakeMore.r32) (.seq (.seq (.ops law03_RakeMore.r33) (.cond (.t 181) (.exit 5) .skip)) (.seq (.ops law03_RakeMore.r34) (.cond (.t 220) (.seq (.ops law03_RakeMore.r35) .ret) .skip))))) (.ops law03_RakeMore.r36)))))))))))))) (.ops law03_RakeMore.r37))))) (InB 2 (Then (AW ⟨Pg, 0, 224, false, []⟩ (.seq (.ops law03_RakeMore.r38) .ret) (RetK [.tmp 8] fun e _ => e = AEnd.ret (.bool true))) (RetK [.tmp 8] fun e _ => e = AEnd.ret (.bool true)))) tm [] h := by
  refine Lp.intro (σ := Nat) (inv := fun k => k ≤ 3) (vw := fun k => mrV r c s17 s118 k) (hp := fun _ => mrH r Z s17 s118) (ms := fun k => 3 - k) 0 (by omega) hvw hh ?_
  intro k hk J hJ
  by_cases hkc : k < 3
  · exact law03_RakeMore_round r hv Z hZs c hc hrel s17 s118 J k hkc fun tm h' h1 h2 => hJ.next (k + 1) (by omega) (by omega) h1 h2
  obtain rfl : k = 3 := by omega
  simp [mrV, mrH]
  refine hJ.exit ?_
  simp
  refine PCallK.intro (PInv.func law03_alive_ok) ?_
  simp
  exact RetV.refl rfl
theorem law03_RakeMore_ok (r : Rak) (sd : Sd) (w : Int) (hw : 0 ≤ w ∧ w ≤ 255) (tt : Int) (htt : 0 ≤ tt ∧ tt ≤ 255) : APure Pg fn_law03_RakeMore [r.v, .agg sd.c, .int .u8 w, .int .u8 tt] (.bool true) := by
  refine law03_RakeMore.pure (by simp) ?_
  simp [Sd.c]
  intro s4 s5
  refine PCallK.intro (law03_long00 r) ?_
  cases hlg : r.longB [] [] with
  | true =>
    simp
    refine PCallK.intro (PInv.func law03_alive_ok) ?_
    simp
    exact RetV.refl rfl
  | false =>
  obtain ⟨hs, _, _⟩ := Rak.short hlg
  simp
  refine PCallK.intro (PInv.func (first := []) (cap := []) (args := [r.v]) (ref03_Rake_ok r hs)) ?_
  by_cases hv : ¬ r.Valid
  · simp [hv]
    refine PCallK.intro (PInv.func law03_alive_ok) ?_
    simp
    exact RetV.refl rfl
  replace hv := Classical.not_not.1 hv
  have hn6 := hv.n6
  have hn1 := hv.n1
  have hfn : r.f.length = r.n := rfl
  have hk8 : r.h.snds.length ≤ 8 := hv.h.k8
  have hww : IntKind.i64.wrap w = w := Rk.wrapI (by omega) (by omega)
  have htw : IntKind.i64.wrap tt = tt := Rk.wrapI (by omega) (by omega)
  obtain ⟨j, hj, hjl⟩ := rem_u8 (w := w) (by omega) (n := r.n) (by omega)
  obtain ⟨t3, ht3, ht3l⟩ := rem_u8 (w := tt) (by omega) (n := 3) (by omega)
  have ht3' : tt.tmod 3 = t3 := ht3
  have hf0 : r.f.length ≠ 0 := by omega
  have hf00 : ¬ r.f = [] := fun h => hf0 (by rw [h]; rfl)
  have hjf : j < r.f.length := hjl
  obtain ⟨fj, hfj⟩ : ∃ x, r.f[j]'hjf = x := ⟨_, rfl⟩
  have hgj : r.f[j]? = some fj := by rw [List.getElem?_eq_getElem hjf, hfj]
  have hfb := hv.fa fj (by rw [← hfj]; exact List.getElem_mem hjf)
  obtain ⟨c, hc⟩ : ∃ c : Int, c = 1 + t3 := ⟨_, rfl⟩
  have hcb : 1 ≤ c ∧ c ≤ 3 := by omega
  simp [hv]
  intro s9 s10 s11 s37 s43 s41
  refine xAp_cp (by simp) (by simp) (by omega) ?_
  simp
  intro s44
  refine xApN_cp (n := r.h.snds.length) (cs := sds r.h.snds) (by simp) (by simp) (by simp) (by omega) (by omega) ?_
  rw [show sds r.h.snds ++ [AVal.int .i64 sd.d, .int .i64 sd.l, .int .i64 sd.lo, .int .i64 sd.hi] = sds (r.h.snds ++ [sd]) by simp [sds, fl, Sd.c]]
  have hn0 : ¬ r.n = 0 := by omega
  simp [xAp_ne hn0, hn0, hf00, hfn, hww, hj, hgj, hjl, hfj]
  intro s47 s50
  refine ⟨by omega, fun _ => ?_⟩
  rw [ht3', ← hc]
  (repeat first | refine And.intro (by omega) ?_ | refine And.intro (Fits.of (by omega) (by omega)) ?_)
  obtain ⟨X, hX⟩ : ∃ X : Rak, X = ⟨⟨r.h.seams, r.h.snds ++ [sd]⟩, r.f⟩ := ⟨_, rfl⟩
  obtain ⟨Y, hY⟩ : ∃ Y : Rak, Y = ⟨r.h, r.f.set j (fj + 1)⟩ := ⟨_, rfl⟩
  obtain ⟨M, hM⟩ : ∃ M, M = r.f.map fun x => c * x := ⟨_, rfl⟩
  have hMl : M.length = r.n := by rw [hM, List.length_map]; rfl
  obtain ⟨Z, hZ⟩ : ∃ Z : Rak, Z = ⟨r.h, M⟩ := ⟨_, rfl⟩
  have hXc : X.cells = [LS r.h.seams, LD (r.h.snds ++ [sd]), L r.f] := by rw [hX]; rfl
  have hYc : Y.cells = [LS r.h.seams, LD r.h.snds, L (r.f.set j (fj + 1))] := by rw [hY]; rfl
  have hZc : Z.cells = [LS r.h.seams, LD r.h.snds, L M] := by rw [hZ]; rfl
  refine Lp.intro' (σ := Nat × Nat) (inv := fun x => x.1 ≤ r.n) (vw := fun x => [(4, .ptr 4 0 (s4+1)), (9, .ptr 9 0 (s9+1)), (10, .ptr 10 0 (s10+1)), (11, .ptr 11 0 (s11+1)), (12, .int .i64 c), (13, .int .i64 (maxL (r.f.take x.1))), (70, L r.f), (71, .int .i64 r.n), (72, .int .i64 x.1)])
    (hp := fun x => [(4, .row r.cells (s4+1)), (9, .row X.cells (s9+1)), (10, .row Y.cells (s10+1)), (11, .row [LS r.h.seams, LD r.h.snds, gS 1 82 x.1 x.2] (s11+1)), (82, gO x.1 (ints (M.take x.1)) x.2)]) (ms := fun x => r.n - x.1) (0, 0) (by simp)
    (Sl.frzHp 44 (cells := sds (r.h.snds ++ [sd])) (s := s44 + 1) (by simp) (Sl.frzHp 50 (cells := ints (r.f.set j (fj + 1))) (s := s50 + 1) ?_ (Sl.rowLe 11 [LS r.h.seams, LD r.h.snds, .es] (cells := [LS r.h.seams, LD r.h.snds, .nils]) (s := s11 + 1) ?_ ⟨ALe.refl _, ALe.refl _, ALe.nils_es, trivial⟩ (Sl.refl ⟨rfl, ?_, ?_⟩)))) ?_
  · simp
  · simp
  · simp
  · simp [Rak.cells, hX, hY, LD, L, hfn]
  rintro ⟨k, st⟩ hk J hJ
  simp at hk
  have hF20 := hv.fa
  by_cases hkc : k < r.n
  · have hkf : k < r.f.length := hkc
    obtain ⟨x, hx⟩ : ∃ x, r.f[k]'hkf = x := ⟨_, rfl⟩
    have hgx : r.f[k]? = some x := by rw [List.getElem?_eq_getElem hkf, hx]
    have hxb := hv.fa x (by rw [← hx]; exact List.getElem_mem hkf)
    have hst : r.f.take (k + 1) = r.f.take k ++ [x] := by rw [← List.take_append_getElem hkf, hx]
    have hcx : 0 ≤ c * x ∧ c * x ≤ 60 := by
      rcases (show c = 1 ∨ c = 2 ∨ c = 3 by omega) with rfl | rfl | rfl <;> omega
    have hmx := maxL_nonneg (r.f.take k)
    have hkM : k < M.length := by omega
    have hMx : M.take (k + 1) = M.take k ++ [c * x] := by
      rw [← List.take_append_getElem hkM]
      congr 2
      simp only [hM, List.getElem_map, hx]
    have htl : (M.take k).length = k := by rw [List.length_take]; omega
    have hmxb : maxL (r.f.take (k + 1)) = max (maxL (r.f.take k)) x := by rw [hst, maxL_push]
    simp [hkc, hkf, hx, hgx]
    (repeat first | refine And.intro (by omega) ?_ | refine And.intro (Fits.of (by omega) (by omega)) ?_)
    intro s81 s82
    refine xApN_gS (cells := ints (M.take k)) (by simp) (by simp [htl]) (by omega) (by omega) ?_
    rw [show ints (M.take k) ++ [AVal.int .i64 (c * x)] = ints (M.take (k + 1)) by rw [hMx]; simp [ints]]
    simp [← hmxb]
    (repeat first | refine And.intro (by omega) ?_ | refine And.intro (Fits.of (by omega) (by omega)) ?_)
    exact hJ.next (k + 1, s82 + 1) (by simp; omega) (by simp; omega) (by simp) (by simp)
  obtain rfl : k = r.n := by omega
  have htk : r.f.take r.n = r.f := List.take_of_length_le (Nat.le_refl _)
  have htM : M.take r.n = M := List.take_of_length_le (Nat.le_of_eq hMl)
  have cA := law03_RakeMore_1_ok r hs
  rw [tab4] at cA
  simp
  refine hJ.exitS (Sl.toV [(4, .ptr 4 0 (s4+1)), (9, .ptr 9 0 (s9+1)), (10, .ptr 10 0 (s10+1)), (11, .ptr 11 0 (s11+1)), (12, .int .i64 c), (13, .int .i64 (maxL r.f))] [(4, .row r.cells (s4+1)), (9, .row X.cells (s9+1)), (10, .row Y.cells (s10+1)), (11, .row Z.cells (s11+1))]
    (Sl.frzHp 82 (cells := ints M) (s := st) ?_ (Sl.refl ⟨rfl, ?_, ?_⟩)) ?_)
  · simp [gO_pos hn1, htM]
  · simp [htk]
  · simp [gS_pos hn1, Rak.cells, hZ, L, hMl]
  simp [Rak.cells]
  refine FCall.pure (PInv.func (first := []) (cap := []) (args := [r.v]) cA) ?_
  simp
  intro s17
  have hXs : X.Small := by rw [hX]; exact ⟨⟨hs.h.1, by simp; omega⟩, hs.f⟩
  have hYs : Y.Small := by rw [hY]; exact ⟨hs.h, by simp; omega⟩
  have hZs : Z.Small := by rw [hZ]; exact ⟨hs.h, by simp only; omega⟩
  obtain ⟨W, hW⟩ : ∃ W : Nat → Rak, W = fun k => if k = 0 then X else if k = 1 then Y else Z := ⟨_, rfl⟩
  have hW0 : W 0 = X := by rw [hW]; rfl
  have hW1 : W 1 = Y := by rw [hW]; rfl
  have hW2 : W 2 = Z := by rw [hW]; rfl
  have hWs : ∀ k, k < 3 → (W k).Small := fun k hk => by
    rcases (show k = 0 ∨ k = 1 ∨ k = 2 by omega) with rfl | rfl | rfl
    · rw [hW0]; exact hXs
    · rw [hW1]; exact hYs
    · rw [hW2]; exact hZs
  have hWr : ∀ k, k < 3 → (W k).Valid → Rak.Rel r (W k) k c := fun k hk hq => by
    rcases (show k = 0 ∨ k = 1 ∨ k = 2 by omega) with rfl | rfl | rfl
    · rw [hW0] at hq ⊢
      exact Rak.rel_more hv hq (by rw [hX]) (by rw [hX]; exact Rak.more_sub r.h sd) c
    · rw [hW1] at hq ⊢
      refine Rak.rel_long hv hq (by rw [hY]) (by rw [hY]; simp [Rak.n]) (fun i hi => ?_) c
      have hif : i < r.f.length := hi
      unfold Rak.F
      rw [hY, ← ofL_at r.f hif, ← ofL_at (r.f.set j (fj + 1)) (by simpa using hif), List.getElem_set]
      split
      · rename_i e
        subst e
        rw [hfj]; omega
      · exact Int.le_refl _
    · rw [hW2] at hq ⊢
      refine Rak.rel_times hv hq (by rw [hZ]) (by rw [hZ]; exact hMl) (by omega) (funext fun i => ?_)
      unfold Rak.F
      rw [hZ, hM]
      simp only [ofL, List.getD_eq_getElem?_getD, List.getElem?_map]
      cases r.f[i]? with
      | none => simp
      | some y => simp
  have hrb := fun j => Rak.vals_bound hv (k := j)
  have hmb := maxL_nonneg r.f
  have hb0 := hrb 0
  have hb3 := hrb 3
  have hm20 : maxL r.f ≤ 20 := by
    rcases maxL_mem r.f with h | h
    · omega
    · have := hv.fa _ h; omega
  rcases Rak.errE_v hv with ⟨he, _⟩ | ⟨he, _⟩
  · by_cases ha : r.anyE = 0
    · obtain ⟨hA1, hA2⟩ := Rak.any_le hv he ha
      simp [he, ha, show ¬ r.vals 0 + maxL r.f < r.vals 3 by omega, show ¬ r.vals 3 < 1 by omega]
      (repeat first | refine And.intro (by omega) ?_ | refine And.intro (Fits.of (by omega) (by omega)) ?_)
      intro s118
      exact law03_RakeMore_loop r hv W hWs c hcb hWr (s17 + 1) (s118 + 1) _ _ (by simp [mrV, he, ha]) (by simp [mrH, tab4, Rak.cells, hW0, hW1, hW2])
    · simp [he, ha]
      intro s118
      exact law03_RakeMore_loop r hv W hWs c hcb hWr (s17 + 1) (s118 + 1) _ _ (by simp [mrV, he, ha]) (by simp [mrH, tab4, Rak.cells, hW0, hW1, hW2])
  · have ha : r.anyE = 10 := by rw [Rak.errE_any (by omega), he]
    simp [he, ha]
    intro s118
    exact law03_RakeMore_loop r hv W hWs c hcb hWr (s17 + 1) (s118 + 1) _ _ (by simp [mrV, he, ha]) (by simp [mrH, tab4, Rak.cells, hW0, hW1, hW2])
end Go.Cw
end
