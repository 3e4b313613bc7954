/-
  What the document's reference of layer 3 computes; laws of layer 3; how a rake is read as an argument.
-/
import Derived.Test.YtdfllmjgmdhlpaaGreatLa
import Derived.Test.YtdfllmjgmdhlpaaGreatTa
import Derived.Test.YtdfllmjgmdhlpaaGreatAe
import Derived.Test.YtdfllmjgmdhlpaaGreatAf
import Derived.Test.YtdfllmjgmdhlpaaGreatRows
set_option linter.unusedVariables false
set_option linter.unusedSimpArgs false
set_option linter.unusedSectionVars false

/- The reference: Sets. -/
section
set_option maxRecDepth 100000
set_option linter.unusedSimpArgs false
namespace Go.Cw
open Go Go.Proofs

/-- The sets among the first so many numbers. -/
def setsTo (T : List (List Int)) : Nat → List Int
  | 0 => []
  | k + 1 => if T.any fun t => decide (leaksT t = k) then setsTo T k ++ [(k : Int)] else setsTo T k
theorem setsTo_len (T : List (List Int)) (k : Nat) : (setsTo T k).length ≤ k := by
  induction k with
  | zero => simp [setsTo]
  | succ k ih =>
    unfold setsTo
    split
    · rw [List.length_append]; simp; omega
    · omega
theorem setsTo_mem {T : List (List Int)} {k : Nat} {s : Int} : s ∈ setsTo T k ↔ (0 ≤ s ∧ s < k) ∧ ∃ t ∈ T, leaksT t = s := by
  induction k with
  | zero => simp [setsTo]; omega
  | succ k ih =>
    unfold setsTo
    split
    · rename_i hc
      obtain ⟨t, ht, h1⟩ := List.any_eq_true.1 hc
      rw [List.mem_append, ih, List.mem_singleton]
      constructor
      · rintro (⟨h2, h3⟩ | rfl)
        · exact ⟨by omega, h3⟩
        · exact ⟨by omega, t, ht, by simpa using h1⟩
      · rintro ⟨h2, h3⟩
        by_cases hk : s = k
        · exact .inr hk
        · exact .inl ⟨by omega, h3⟩
    · rename_i hc
      rw [ih]
      constructor
      · rintro ⟨h2, h3⟩; exact ⟨by omega, h3⟩
      · rintro ⟨h2, t, ht, h3⟩
        refine ⟨⟨h2.1, ?_⟩, t, ht, h3⟩
        by_cases hk : s = k
        · exact absurd (List.any_eq_true.2 ⟨t, ht, by simpa [hk] using h3⟩) hc
        · omega
theorem setsTo_lt (T : List (List Int)) (k : Nat) : (setsTo T k).Pairwise (· < ·) := by
  induction k with
  | zero => simp [setsTo]
  | succ k ih =>
    unfold setsTo
    split
    · rw [List.pairwise_append]
      refine ⟨ih, by simp, fun a ha b hb => ?_⟩
      obtain rfl : b = k := by simpa using hb
      have := (setsTo_mem.1 ha).1
      omega
    · exact ih
theorem sorted_ext : ∀ {l m : List Int}, l.Pairwise (· < ·) → m.Pairwise (· < ·) → (∀ x, x ∈ l ↔ x ∈ m) → l = m
  | [], [], _, _, _ => rfl
  | [], b :: m, _, _, h => absurd ((h b).2 (by simp)) (by simp)
  | a :: l, [], _, _, h => absurd ((h a).1 (by simp)) (by simp)
  | a :: l, b :: m, hl, hm, h => by
    have hl' := List.pairwise_cons.1 hl
    have hm' := List.pairwise_cons.1 hm
    have hab : a = b := by
      have h1 := (h a).1 (by simp)
      have h2 := (h b).2 (by simp)
      rcases List.mem_cons.1 h1 with h1 | h1
      · exact h1
      · rcases List.mem_cons.1 h2 with h2 | h2
        · exact h2.symm
        · have := hm'.1 a h1; have := hl'.1 b h2; omega
    subst hab
    congr 1
    refine sorted_ext hl'.2 hm'.2 fun x => ?_
    have hx := h x
    constructor
    · intro hxl
      rcases List.mem_cons.1 (hx.1 (List.mem_cons_of_mem _ hxl)) with h1 | h1
      · have := hl'.1 x hxl; omega
      · exact h1
    · intro hxm
      rcases List.mem_cons.1 (hx.2 (List.mem_cons_of_mem _ hxm)) with h1 | h1
      · have := hm'.1 x hxm; omega
      · exact h1
theorem setsTo_all {h : Hul} (hv : h.Valid) : setsTo (h.truths h.every) (2 ^ h.n) = h.setsL := by
  refine sorted_ext (setsTo_lt _ _) ?_ fun x => ?_
  · exact Rak.S_lt (r := ⟨h, []⟩)
  · rw [setsTo_mem, show x ∈ h.setsL ↔ _ from Rak.mem_S (r := ⟨h, []⟩)]
    constructor
    · rintro ⟨_, h2⟩; exact h2
    · rintro ⟨t, ht, rfl⟩
      have hl := (truths_in hv ht).1
      have := bits_lt (fun i => decide (0 < ofL t i)) t.length
      rw [hl] at this
      refine ⟨⟨?_, ?_⟩, t, ht, rfl⟩
      · unfold leaksT; rw [hl]; exact this.1
      · unfold leaksT; rw [hl]; simpa using this.2


end Go.Cw
end

/- Rake, the reference: is a rake valid; what agrees; the errors; Known. -/
section
set_option maxRecDepth 100000
set_option linter.unusedSimpArgs false
namespace Go.Cw
open Go Go.Proofs

theorem ref03_in_ok (n lo hi : Int) : APure Pg fn_ref03_in [.int .i64 n, .int .i64 lo, .int .i64 hi] (.bool (decide (lo ≤ n ∧ n ≤ hi))) := by
  refine ref03_in.pure (by simp) ?_
  by_cases h : lo ≤ n <;> simp [h] <;> refine RetV.refl ?_ <;> simp_all
theorem ref03_Rake_ok (r : Rak) (hs : r.Small) : APure Pg fn_ref03_Rake [r.v] (.bool (decide r.Valid)) := by
  have hf40 := hs.f
  have hs40 := hs.h.s
  have cH := ref01_Hull_ok r.h hs.h
  have nv : ¬ r.Valid → decide r.Valid = false := fun h => by simp [h]
  refine ref03_Rake.pure (by simp) ?_
  simp
  intro s1
  refine PCallK.intro (PInv.func (first := []) (cap := []) (args := [r.h.v]) cH) ?_
  by_cases hh : ¬ r.h.Valid
  · simp [hh]
    exact RetV.refl (by simp [show ¬ r.Valid from fun v => hh v.h])
  replace hh := Classical.not_not.1 hh
  by_cases hn : ¬ r.f.length = r.h.seams.length
  · have hn' : ¬ (r.f.length : Int) = r.h.seams.length := by omega
    simp [hh, hn, hn']
    exact RetV.refl (by simp [show ¬ r.Valid from fun v => hn v.len])
  replace hn := Classical.not_not.1 hn
  simp [hh, hn]
  refine Lp.intro (σ := Nat) (inv := fun k => k ≤ r.f.length ∧ ∀ j x, j < k → r.f[j]? = some x → 1 ≤ x ∧ x ≤ 20) (vw := fun k => [(1, .ptr 1 0 (s1+1)), (3, .int .i64 k)]) (hp := fun _ => [(1, .row r.cells (s1+1))]) (ms := fun k => r.f.length - k) 0 (by simp) (by simp) (by simp [Rak.cells]) ?_
  rintro k ⟨hk, inv⟩ J hJ
  by_cases hkc : k < r.f.length
  · obtain ⟨x, hx⟩ : ∃ x, r.f[k] = x := ⟨_, rfl⟩
    simp [hkc, hx, Rak.cells]
    refine PCallK.intro (PInv.func (ref03_in_ok x 1 20)) ?_
    by_cases hxb : 1 ≤ x ∧ x ≤ 20
    · simp [hxb]
      (repeat first | refine And.intro (by omega) ?_ | refine And.intro (Fits.of (by omega) (by omega)) ?_)
      refine hJ.next (k + 1) ⟨by omega, fun j y hj hy => ?_⟩ (by omega) (by simp) (by simp [Rak.cells])
      by_cases e : j = k
      · subst e
        obtain rfl : x = y := by simpa [hkc, hx] using hy
        exact hxb
      · exact inv j y (by omega) hy
    · simp [hxb]
      refine hJ.ret ?_
      simp
      refine RetV.refl ?_
      have : ¬ r.Valid := fun v => hxb (v.fa x (by rw [← hx]; simp))
      simp [this]
  obtain rfl : k = r.f.length := by omega
  simp [Rak.cells]
  refine hJ.exit ?_
  simp
  have : r.Valid := ⟨hh, hn, fun x hx => by
    obtain ⟨j, hj, e⟩ := List.getElem_of_mem hx
    exact inv j x hj (by rw [← e]; simp)⟩
  exact RetV.refl (by simp [this])




end Go.Cw
end

/- Rake, the reference: the best seam; Next, Worst, Any. -/
section
set_option maxRecDepth 100000
set_option linter.unusedSimpArgs false
namespace Go.Cw
open Go Go.Proofs

namespace Rk
/-- The best of the seams below a number. -/
def bestTo (n : Nat) (q : Int) (g : Nat → Int) (k : Nat) : Option (Nat × Int) := bestR g ((un n q).filter fun i => decide (i < k))
theorem bestTo_zero (n : Nat) (q : Int) (g : Nat → Int) : bestTo n q g 0 = none := by
  unfold bestTo; rw [List.filter_eq_nil_iff.2 (by simp)]; rfl
theorem bestTo_all (n : Nat) (q : Int) (g : Nat → Int) : bestTo n q g n = bestR g (un n q) := by
  unfold bestTo; rw [List.filter_eq_self.2 fun i hi => by simpa using (mem_un.1 hi).1]
theorem bestTo_succ {n : Nat} {q : Int} {g : Nat → Int} {k : Nat} (hk : k < n) : bestTo n q g (k + 1) = if inS q k then bestTo n q g k else betR g (bestTo n q g k) k := by
  have hpush : (un n q).filter (fun i => decide (i < k + 1)) = (un n q).filter (fun i => decide (i < k)) ++ if inS q k then [] else [k] := by
    unfold un
    rw [List.filter_filter, List.filter_filter]
    have e : ∀ m : Nat, m ≤ n → (List.range n).filter (fun i => decide (i < m) && !inS q i) = (List.range m).filter (fun i => !inS q i) := by
      intro m hm
      obtain ⟨d, rfl⟩ := Nat.exists_eq_add_of_le hm
      have e1 : (List.range m).filter (fun i => decide (i < m) && !inS q i) = (List.range m).filter (fun i => !inS q i) := List.filter_congr fun i hi => by simp [List.mem_range.1 hi]
      have e2 : ((List.range d).map (m + ·)).filter (fun i => decide (i < m) && !inS q i) = [] := List.filter_eq_nil_iff.2 fun i hi => by
        obtain ⟨x, _, rfl⟩ := List.mem_map.1 hi
        simp
        intro h; omega
      rw [List.range_add, List.filter_append, e1, e2, List.append_nil]
    rw [e (k + 1) (by omega), e k (by omega), List.range_succ, List.filter_append]
    cases h : inS q k <;> simp [h]
  unfold bestTo
  rw [hpush]
  cases h : inS q k
  · simp only [Bool.false_eq_true, if_false]
    rw [bestR_push]
  · simp
/-- The best so far, as the reference keeps it. -/
def leastV : Option (Nat × Int) → Int
  | none => -1
  | some b => b.2
end Rk







theorem Rak.zero_head {r : Rak} (hv : r.Valid) {x : Int} (hx : r.S.head? = some x) : (0 : Int) ∈ r.S ↔ x = 0 := by
  cases hS : r.S with
  | nil => rw [hS] at hx; cases hx
  | cons a l =>
    rw [hS] at hx
    obtain rfl : a = x := by simpa using hx
    have h1 := Rak.S_lt (r := r)
    rw [hS, List.pairwise_cons] at h1
    have h2 := Rak.S_in hv a (by rw [hS]; simp)
    constructor
    · intro h
      rcases List.mem_cons.1 h with h | h
      · exact h.symm
      · have := h1.1 0 h; omega
    · rintro rfl; simp

end Go.Cw
end

/- Rake, the reference: orders, what they cost. -/
section
set_option maxRecDepth 100000
set_option linter.unusedSimpArgs false
namespace Go.Cw
open Go Go.Proofs



theorem Rak.ask_set {r : Rak} (hv : r.Valid) {o : List Int} {s : Int} : r.Ask o s ↔ Rk.IsOrd r.n o ∧ r.h.Set s := by
  unfold Rak.Ask Hul.Set
  rw [show r.n = r.h.n from hv.len]

end Go.Cw
end

/- Rake, the reference: all orders. -/
section
set_option maxRecDepth 100000
set_option linter.unusedSimpArgs false
namespace Go.Cw
open Go Go.Proofs

namespace Rk
theorem flat_len {α β : Type} {g : α → List β} {m : Nat} : ∀ {l : List α}, (∀ i ∈ l, (g i).length ≤ m) → (l.flatMap g).length ≤ l.length * m
  | [], _ => by simp
  | a :: l, h => by
    have h1 := h a (by simp)
    have h2 := flat_len (l := l) fun i hi => h i (by simp [hi])
    rw [List.flatMap_cons, List.length_append, List.length_cons, Nat.succ_mul]
    omega
theorem ords_len (n : Nat) : ∀ (k : Nat) (b : List Nat), (ords n k b).length ≤ n ^ k
  | 0, b => by simp [ords]
  | k + 1, b => by
    simp only [ords]
    have h1 := flat_len (l := fr n b) (g := fun i => ords n k (b ++ [i])) (m := n ^ k) fun i _ => ords_len n k (b ++ [i])
    have h2 : (fr n b).length ≤ n := Nat.le_trans (List.length_filter_le _ _) (by simp)
    have h3 := Nat.mul_le_mul_right (n ^ k) h2
    rw [Nat.pow_succ, Nat.mul_comm (n ^ k) n]
    omega
/-- Orders, as lists of numbers. -/
def oL (l : List (List Nat)) : List (List Int) := l.map toI
theorem oL_append (a b : List (List Nat)) : oL (a ++ b) = oL a ++ oL b := by simp [oL]
end Rk

end Go.Cw
end

/- Rake, the reference: Order. -/
section
set_option maxRecDepth 100000
set_option linter.unusedSimpArgs false
namespace Go.Cw
open Go Go.Proofs

namespace Rk
def outO : Option (List Nat × Int) → AVal
  | none => .nils
  | some b => L (toI b.1)
def leastO : Option (List Nat × Int) → Int
  | none => -1
  | some b => b.2
end Rk

end Go.Cw
end

/- Rake, the reference: Enough. -/
section
set_option maxRecDepth 100000
set_option linter.unusedSimpArgs false
namespace Go.Cw
open Go Go.Proofs

namespace Rk
/-- Do two sets differ, at the first so many seams of a set? -/
def difB (q a b : Int) (k : Nat) : Bool := (List.range k).any fun i => inS q i && (inS a i != inS b i)
theorem difB_succ (q a b : Int) (k : Nat) : difB q a b (k + 1) = (difB q a b k || (inS q k && (inS a k != inS b k))) := by
  unfold difB; rw [List.range_succ, List.any_append]; simp
theorem difB_same {n : Nat} (hn : n ≤ 6) {q a b : Int} (hq : 0 ≤ q ∧ q < 2 ^ n) : difB q a b 6 = !same n q b a := by
  rw [Bool.eq_iff_iff, Bool.not_eq_true', ← Bool.not_eq_true, same_iff]
  unfold difB
  rw [List.any_eq_true]
  constructor
  · rintro ⟨i, hi, h⟩ hs
    rw [Bool.and_eq_true] at h
    by_cases hin : i < n
    · have := hs i hin h.1
      rw [this] at h
      simp at h
    · rw [inS_big hq (by omega)] at h
      simp at h
  · intro h
    refine Classical.byContradiction fun hc => h fun i hi hqi => ?_
    refine Classical.byContradiction fun hab => hc ⟨i, by simp; omega, ?_⟩
    rw [hqi]
    simp
    exact fun e => hab e.symm
end Rk



end Go.Cw
end

/- Rake: what the document fixes of its example is met; which rakes a law goes through. -/
section
set_option maxRecDepth 100000
set_option linter.unusedSimpArgs false
namespace Go.Cw
open Go Go.Proofs

/-- The document's example. -/
def rsm : Rak := ⟨⟨[⟨2, 0, 3⟩, ⟨5, -1, 2⟩, ⟨5, 1, 4⟩], [⟨3, 0, 1, 2⟩, ⟨6, 0, 4, 4⟩]⟩, [4, 3, 5]⟩
theorem rsm_small : rsm.Small := ⟨⟨by simp [rsm], by simp [rsm]⟩, by simp [rsm]⟩
theorem rsm_valid : rsm.Valid := ⟨⟨by simp [rsm, Hul.n], by simp [rsm, Hul.n], by simp [rsm, Hul.k], by decide, by decide⟩, by simp [rsm, Hul.n], by decide⟩
theorem rsm_S : rsm.S = [3, 5, 7] := by
  have h : rsm.h.truths rsm.h.every = [[1, 0, 3], [1, 1, 2], [1, 2, 1], [2, 0, 2], [2, 1, 1], [2, 2, 0]] := by decide +kernel
  unfold Rak.S Hul.setsL
  rw [h]
  exact sortI_eq (by decide +kernel) (by unfold SortedI; decide +kernel)
theorem rsm_n : rsm.n = 3 := rfl
theorem rsm_F : rsm.F = ofL [4, 3, 5] := rfl
def rsmE (l : List (Int × Bool)) (is : Bool) : Int := if (∀ x ∈ l, 0 ≤ x.1 ∧ x.1 < ((3 : Nat) : Int)) ∧ is = true then (if (l.map Prod.fst).Nodup then (if Rk.agF [3, 5, 7] l = [] then 10 else 0) else 5) else 2
theorem rsm_err (l : List (Int × Bool)) (is : Bool) : rsm.errE l is = rsmE l is := by
  unfold Rak.errE rsmE
  rw [if_pos rsm_valid, rsm_S]
  rfl
theorem rsm_known (l : List (Int × Bool)) {X : List Int} {e : Int} (h : ((if rsmE l true = 0 then Rk.agF [3, 5, 7] l else []), rsmE l true) = (X, e)) : rsm.knownV l = .tup [L X, .int .i64 e] := by
  rw [Prod.mk.injEq] at h
  unfold Rak.knownV
  rw [rsm_err, rsm_S, h.1, h.2]
theorem rsm_next (l : List (Int × Bool)) {a : Nat} {b e : Int} (h : (if rsmE l true = 0 then (if (Rk.agF [3, 5, 7] l).length ≤ 1 then (0, 0, 4) else ((Rk.planQ 3 (ofL [4, 3, 5]) false (Rk.agF [3, 5, 7] l) (Rk.fq l)).1, (Rk.planQ 3 (ofL [4, 3, 5]) false (Rk.agF [3, 5, 7] l) (Rk.fq l)).2, 0)) else (0, 0, rsmE l true)) = ((a, b, e) : Nat × Int × Int)) : rsm.nextV l = .tup [.int .i64 a, .int .i64 b, .int .i64 e] := by
  have : rsm.nextP l = (a, b, e) := by
    rw [← h]
    unfold Rak.nextP
    rw [rsm_err, rsm_S, rsm_n, rsm_F]
  unfold Rak.nextV
  rw [this]
theorem rsm_worst : rsm.worstV = .tup [.int .i64 8, .int .i64 0] := by
  unfold Rak.worstV
  rw [rsm_err, rsm_S, rsm_n, rsm_F, show rsmE [] true = 0 by decide +kernel, show Rk.planQ 3 (ofL [4, 3, 5]) false [3, 5, 7] 0 = (1, 8) by decide +kernel]
  rfl
theorem rsm_any : rsm.anyV = .tup [.int .i64 0, .int .i64 4, .int .i64 0] := by
  unfold Rak.anyV Rak.anyP
  rw [rsm_err, rsm_S, rsm_n, rsm_F, show rsmE [] true = 0 by decide +kernel, show Rk.planQ 3 (ofL [4, 3, 5]) true [3, 5, 7] 0 = (0, 4) by decide +kernel]
  rfl
theorem rsm_ord : rsm.ordV = .tup [L [1, 2, 0], .int .i64 8, .int .i64 0] := by
  unfold Rak.ordV Rak.ordL Rak.ordN
  rw [rsm_err, rsm_S, rsm_n, rsm_F, show rsmE [] true = 0 by decide +kernel, show Rk.ordP 3 (ofL [4, 3, 5]) [3, 5, 7] = ([1, 2, 0], 8) by decide +kernel]
  rfl
theorem rsm_en : rsm.enV = .tup [.int .i64 6, .int .i64 8, .int .i64 0] := by
  unfold Rak.enV
  rw [rsm_err, rsm_S, rsm_n, rsm_F, show rsmE [] true = 0 by decide +kernel, show Rk.enP 3 (ofL [4, 3, 5]) [3, 5, 7] = (6, 8) by decide +kernel]
  rfl
theorem rsm_cost (o : List Int) (s : Int) (ho : Rk.IsOrd 3 o ∧ 0 ≤ s ∧ s < 2 ^ 3) {a e : Int} (h : (if s ∈ [3, 5, 7] then (Rk.costL (ofL [4, 3, 5]) (Rk.toN o) [3, 5, 7] s, 0) else (0, 4)) = ((a, e) : Int × Int)) : rsm.costV o s = .tup [.int .i64 a, .int .i64 e] := by
  have hA : rsm.Ask o s := ho
  have : rsm.costP o s = (a, e) := by
    rw [← h]
    unfold Rak.costP
    rw [decide_eq_true hA, rsm_err, rsm_S, rsm_F, show rsmE [] true = 0 by decide +kernel]
    rfl
  unfold Rak.costV
  rw [this]

theorem law03_span_ok (a b : Int) : APure Pg fn_law03_span [.int .i64 a, .int .i64 b] (SP2 (a, b)) := by
  refine law03_span.pure (by simp) ?_
  simp
  intro s
  exact RetV.refl (by simp [SP2])
theorem law03_find_ok (a : Int) (b : Bool) : APure Pg fn_law03_find [.int .i64 a, .bool b] (.agg [.int .i64 a, .bool b]) := by
  refine law03_find.pure (by simp) ?_
  simp
  intro s
  exact RetV.refl (by simp)
theorem law03_ints_ok (a b : List Int) (ha : a.length ≤ 100000) (hb : b.length ≤ 100000) : APure Pg fn_law03_ints [L a, L b] (.bool (decide (a = b))) := by
  refine law03_ints.pure (by simp) ?_
  simp
  refine PCallK.intro (PInv.func (ref01_Ints_ok a b ha hb)) ?_
  simp
  exact RetV.refl rfl
theorem law03_sample_ok : APure Pg fn_law03_sample [] rsm.v := by
  refine law03_sample.pure (by simp) ?_
  simp
  intro s1 s2
  refine PCallK.intro (PInv.func (law03_span_ok _ _)) ?_
  simp [SP2]
  refine PCallK.intro (PInv.func (law03_span_ok _ _)) ?_
  simp [SP2]
  intro s3 s4
  refine RetV.frz 4 rfl (RetV.frz 9 rfl (RetV.frz 11 rfl (RetV.refl ?_)))
  simp [rsm, LS, LD, sms, sds, fl, Sm.c, Sd.c, L, ints]
theorem law03_alive_ok : APure Pg fn_law03_alive [] (.bool true) := by
  refine law03_alive.pure (by simp) ?_
  simp
  refine PCallK.intro (PInv.func law03_sample_ok) ?_
  simp
  refine PCallK.intro (PInv.func (law03_find_ok 1 true)) ?_
  simp
  intro s1
  refine FCall.frz1 22 rfl (v := .tup [L [3, 7], .int .i64 0]) ?_ trivial ?_
  · have := rake_Known_ok rsm rsm_small [(1, true)] (by simp)
    rw [rsm_known [(1, true)] (X := [3, 7]) (e := 0) (by decide +kernel)] at this
    simpa [LK, fds, fl, fdC] using PInv.func (first := []) (cap := []) (args := [rsm.v, LK [(1, true)]]) this
  simp
  refine PCallK.intro (PInv.func law03_sample_ok) ?_
  simp
  refine PCallK.intro (v := .tup [.int .i64 1, .int .i64 8, .int .i64 0]) (fun hh => AInvoke.ale (ALe.refl _) (args' := [rsm.v, LK []]) ⟨ALe.refl _, ALe.nils_vl, trivial⟩ (PInv.func (first := []) (cap := []) (args := [rsm.v, LK []]) (by
    have := rake_Next_ok rsm rsm_small [] (by simp)
    rw [rsm_next [] (a := 1) (b := 8) (e := 0) (by decide +kernel)] at this
    exact this) hh)) ?_
  simp
  refine PCallK.intro (PInv.func law03_sample_ok) ?_
  simp
  refine PCallK.intro (PInv.func (first := []) (cap := []) (args := [rsm.v]) (rake_Worst_ok rsm rsm_small)) ?_
  rw [rsm_worst]
  simp
  refine PCallK.intro (PInv.func law03_sample_ok) ?_
  simp
  intro s2
  refine FCall.frz1 39 rfl (v := .tup [.int .i64 3, .int .i64 0]) ?_ trivial ?_
  · have := rake_Cost_ok rsm rsm_small [1, 2, 0] (by simp) 5
    rw [rsm_cost [1, 2, 0] 5 (by decide +kernel) (a := 3) (e := 0) (by decide +kernel)] at this
    simpa [L] using PInv.func (first := []) (cap := []) (args := [rsm.v, L [1, 2, 0], .int .i64 5]) this
  simp
  refine PCallK.intro (PInv.func law03_sample_ok) ?_
  simp
  refine PCallK.intro (PInv.func (first := []) (cap := []) (args := [rsm.v]) (rake_Order_ok rsm rsm_small)) ?_
  rw [rsm_ord]
  simp
  refine PCallK.intro (PInv.func law03_sample_ok) ?_
  simp
  refine PCallK.intro (PInv.func (first := []) (cap := []) (args := [rsm.v]) (rake_Enough_ok rsm rsm_small)) ?_
  rw [rsm_en]
  simp
  refine PCallK.intro (PInv.func law03_sample_ok) ?_
  simp
  refine PCallK.intro (PInv.func (first := []) (cap := []) (args := [rsm.v]) (rake_Any_ok rsm rsm_small)) ?_
  rw [rsm_any]
  simp
  intro s3
  refine FCall.frz1 62 rfl (v := .bool true) ?_ trivial ?_
  · simpa [L] using PInv.func (first := []) (cap := []) (args := [L [3, 7], L [3, 7]]) (law03_ints_ok [3, 7] [3, 7] (by simp) (by simp))
  simp
  intro s4
  refine FCall.frz1 98 rfl (v := .bool true) ?_ trivial ?_
  · simpa [L] using PInv.func (first := []) (cap := []) (args := [L [1, 2, 0], L [1, 2, 0]]) (law03_ints_ok [1, 2, 0] [1, 2, 0] (by simp) (by simp))
  simp
  exact RetV.refl rfl
/-- How long the longest list is. -/
def Rak.many (r : Rak) (l : List (Int × Bool)) (ls : List (List Int)) : Int := ls.foldl (fun m x => max m (x.length : Int)) (max (max (max (r.h.seams.length : Int) (r.h.snds.length : Int)) (r.f.length : Int)) (l.length : Int))
def Rak.longB (r : Rak) (l : List (Int × Bool)) (ls : List (List Int)) : Bool := decide (40 < r.many l ls)
theorem Rak.many_push (r : Rak) (l : List (Int × Bool)) (ls : List (List Int)) (x : List Int) : r.many l (ls ++ [x]) = max (r.many l ls) (x.length : Int) := by simp [Rak.many]
theorem Rak.many_le {r : Rak} {l : List (Int × Bool)} (ls : List (List Int)) : r.h.seams.length ≤ r.many l ls ∧ r.h.snds.length ≤ r.many l ls ∧ r.f.length ≤ r.many l ls ∧ l.length ≤ r.many l ls ∧ ∀ x ∈ ls, (x.length : Int) ≤ r.many l ls := by
  induction ls using Rk.push_ind with
  | h0 => simp [Rak.many]; omega
  | h1 ls x ih =>
    rw [Rak.many_push]
    obtain ⟨a, b, c, d, e⟩ := ih
    refine ⟨by omega, by omega, by omega, by omega, fun y hy => ?_⟩
    rcases List.mem_append.1 hy with h | h
    · have := e y h; omega
    · simp at h; subst h; omega
theorem Rak.short {r : Rak} {l : List (Int × Bool)} {ls : List (List Int)} (h : r.longB l ls = false) : r.Small ∧ l.length ≤ 40 ∧ ∀ x ∈ ls, x.length ≤ 40 := by
  unfold Rak.longB at h
  rw [decide_eq_false_iff_not] at h
  obtain ⟨a, b, c, d, e⟩ := Rak.many_le (r := r) (l := l) ls
  exact ⟨⟨⟨by omega, by omega⟩, by omega⟩, by omega, fun x hx => by have := e x hx; omega⟩
theorem law03_long_ok (r : Rak) (l : List (Int × Bool)) (ls : List (List Int)) (hls : ls.length ≤ 10) : APure Pg fn_law03_long [r.v, LK l, LLv ls] (.bool (r.longB l ls)) := by
  refine law03_long.pure (by simp) ?_
  simp
  intro s3
  refine Lp.intro (σ := Nat) (inv := fun k => k ≤ ls.length) (vw := fun k => [(7, .int .i64 (r.many l (ls.take k))), (24, LLv ls), (25, .int .i64 ls.length), (26, .int .i64 k)]) (hp := fun _ => []) (ms := fun k => ls.length - k) 0 (by simp) (by simp [Rak.many]) (by simp) ?_
  intro k hk J hJ
  by_cases hkc : k < ls.length
  · obtain ⟨x, hx⟩ : ∃ x, ls[k] = x := ⟨_, rfl⟩
    have hst : r.many l (ls.take (k + 1)) = max (r.many l (ls.take k)) (x.length : Int) := by rw [← List.take_append_getElem hkc, hx, Rak.many_push]
    have hget : ls[k]? = some x := by rw [List.getElem?_eq_getElem hkc, hx]
    simp [hkc, hget, hx, ← hst]
    (repeat first | refine And.intro (by omega) ?_ | refine And.intro (Fits.of (by omega) (by omega)) ?_)
    exact hJ.next (k + 1) (by omega) (by omega) (by simp) (by simp)
  obtain rfl : k = ls.length := by omega
  simp
  refine hJ.exit ?_
  simp
  exact RetV.refl (by simp [Rak.longB])
theorem law03_long0 (r : Rak) (l : List (Int × Bool)) : PInv Pg (.func (.func fn_law03_long) [] []) [r.v, LK l, .nils] (.bool (r.longB l [])) := fun hh =>
  AInvoke.ale (ALe.refl _) (args' := [r.v, LK l, LLv []]) ⟨ALe.refl _, ALe.refl _, ALe.nils_vl, trivial⟩ (PInv.func (first := []) (cap := []) (args := [r.v, LK l, LLv []]) (law03_long_ok r l [] (by simp)) hh)
theorem law03_long00 (r : Rak) : PInv Pg (.func (.func fn_law03_long) [] []) [r.v, .nils, .nils] (.bool (r.longB [] [])) := fun hh =>
  AInvoke.ale (ALe.refl _) (args' := [r.v, LK [], .nils]) ⟨ALe.refl _, ALe.nils_vl, ALe.refl _, trivial⟩ (law03_long0 r [] hh)
noncomputable def Rak.heavyB (r : Rak) (n : Int) (l : List (Int × Bool)) (ls : List (List Int)) : Bool := if r.longB l ls then true else if r.Valid then decide (n < (r.n : Int)) else false

theorem Rak.light {r : Rak} {n : Int} {l : List (Int × Bool)} {ls : List (List Int)} (h : r.heavyB n l ls = false) : r.longB l ls = false := by
  unfold Rak.heavyB at h
  split at h
  · cases h
  · rename_i hl; simpa using hl
end Go.Cw
end

/- The laws RakeTells, RakeOrders, RakeNames. -/
section
set_option maxRecDepth 100000
set_option linter.unusedSimpArgs false
namespace Go.Cw
open Go Go.Proofs

theorem Rak.known_len {r : Rak} (l : List (Int × Bool)) : (if r.errE l true = 0 then Rk.agF r.S l else []).length ≤ 100000 := by
  split
  · rename_i h
    have h1 := Rak.S_len (Rak.errE_zero.1 h).1
    have h2 := (Rk.agF_sub r.S l).length_le
    omega
  · simp



end Go.Cw
end

/- How a rake is read as an argument. -/
section
set_option maxRecDepth 100000
namespace Go.Cw
open Go Go.Proofs

section
variable {w : World} {μ : Mu}

theorem opens_int : Opens Pg w μ 3 fun av => ∃ n, (Lit.int .i64 n).wf = true ∧ av = [.int .i64 n] := Opens.int Tryz.underlying3 (by kernel_rfl)
theorem opens_bool : Opens Pg w μ 4 fun av => ∃ b, av = [.bool b] := Opens.bool Tryz.underlying4 (by kernel_rfl)
theorem opens_ints : Opens Pg w μ 26 fun av => ∃ l : List Int, av = [L l] := Opens.ints Tryz.underlying26 (by kernel_rfl) Tryz.underlying3 (by kernel_rfl)
theorem opens_span : Opens Pg w μ 65 fun av => ∃ p : Int × Int, av = [.int .i64 p.1, .int .i64 p.2] := by
  refine (Opens.struct (Vs := [_, _]) Tryz.underlying65 (by kernel_rfl) ⟨rfl, opens_int, by kernel_rfl, opens_int, trivial⟩).mono ?_
  rintro av ⟨ass, h, rfl⟩
  obtain ⟨a, b, rfl, ⟨n, _, rfl⟩, ⟨m, _, rfl⟩⟩ := h.two
  exact ⟨(n, m), rfl⟩
theorem opens_seam : Opens Pg w μ 118 fun av => ∃ a : Sm, av = a.c := by
  refine (Opens.struct (Vs := [_, _, _]) Tryz.underlying118 (by kernel_rfl) ⟨rfl, opens_int, by kernel_rfl, opens_int, by kernel_rfl, opens_int, trivial⟩).mono ?_
  rintro av ⟨ass, h, rfl⟩
  obtain ⟨a, b, c, rfl, ⟨n, _, rfl⟩, ⟨m, _, rfl⟩, ⟨k, _, rfl⟩⟩ := h.three
  exact ⟨⟨n, m, k⟩, rfl⟩
theorem opens_sounding : Opens Pg w μ 67 fun av => ∃ a : Sd, av = a.c := by
  refine (Opens.struct (Vs := [_, _, _]) Tryz.underlying67 (by kernel_rfl) ⟨rfl, opens_int, by kernel_rfl, opens_int, by kernel_rfl, opens_span, trivial⟩).mono ?_
  rintro av ⟨ass, h, rfl⟩
  obtain ⟨a, b, c, rfl, ⟨n, _, rfl⟩, ⟨m, _, rfl⟩, ⟨p, rfl⟩⟩ := h.three
  exact ⟨⟨n, m, p.1, p.2⟩, rfl⟩
theorem c118 : 0 < Pg.cellsOf 118 := by rw [show Pg.cellsOf 118 = 3 by kernel_rfl]; omega
theorem c67 : 0 < Pg.cellsOf 67 := by rw [show Pg.cellsOf 67 = 4 by kernel_rfl]; omega
theorem opens_hull : Opens Pg w μ 25 fun av => ∃ h : Hul, av = h.cells := by
  refine (Opens.struct (Vs := [_, _]) Tryz.underlying25 (by kernel_rfl) ⟨rfl, Opens.fl Tryz.underlying22 (by kernel_rfl) c118 opens_seam, by kernel_rfl, Opens.fl Tryz.underlying23 (by kernel_rfl) c67 opens_sounding, trivial⟩).mono ?_
  rintro av ⟨ass, h, rfl⟩
  obtain ⟨a, b, rfl, ⟨n, rfl⟩, ⟨m, rfl⟩⟩ := h.two
  exact ⟨⟨n, m⟩, rfl⟩
theorem opens_find : Opens Pg w μ 48 fun av => ∃ a : Int × Bool, av = fdC a := by
  refine (Opens.struct (Vs := [_, _]) Tryz.underlying48 (by kernel_rfl) ⟨rfl, opens_int, by kernel_rfl, opens_bool, trivial⟩).mono ?_
  rintro av ⟨ass, h, rfl⟩
  obtain ⟨a, b, rfl, ⟨n, _, rfl⟩, ⟨m, rfl⟩⟩ := h.two
  exact ⟨(n, m), rfl⟩
theorem c48 : 0 < Pg.cellsOf 48 := by rw [show Pg.cellsOf 48 = 2 by kernel_rfl]; omega
theorem opens_finds : Opens Pg w μ 29 fun av => ∃ l : List (Int × Bool), av = [LK l] := Opens.fl Tryz.underlying29 (by kernel_rfl) c48 opens_find
theorem opens_rake : Opens Pg w μ 28 fun av => ∃ r : Rak, av = r.cells := by
  refine (Opens.struct (Vs := [_, _]) Tryz.underlying28 (by kernel_rfl) ⟨rfl, opens_hull, by kernel_rfl, opens_ints, trivial⟩).mono ?_
  rintro av ⟨ass, h, rfl⟩
  obtain ⟨a, b, rfl, ⟨n, rfl⟩, ⟨m, rfl⟩⟩ := h.two
  exact ⟨⟨n, m⟩, rfl⟩
theorem opens_u8 : Opens Pg w μ 5 fun av => ∃ n : Int, (0 ≤ n ∧ n ≤ 255) ∧ av = [.int .u8 n] :=
  (Opens.int Tryz.underlying5 (by kernel_rfl)).mono fun av ⟨n, h1, h2⟩ => ⟨n, bounds_u8 h1, h2⟩
end

theorem kids : Kids Pg (· < Pg.types.size) := kids_rows (by kernel_rfl) (by kernel_rfl)
theorem slices_full : ∀ t e, t < Pg.types.size → Pg.underlying t = some (.slice e) → 0 < Pg.cellsOf e := slices_full_of Pg (by kernel_rfl)
theorem ownKnobNone : ownKnob Pg.godebug = none := by kernel_rfl

end Go.Cw
end

/- What is found if a seam is raked; the law RakeEnough. -/
section
set_option maxRecDepth 100000
set_option linter.unusedSimpArgs false
namespace Go.Cw
open Go Go.Proofs

theorem law03_finding_ok (i : Nat) (hi : i ≤ 60) (s : Int) (hs : 0 ≤ s ∧ s < 2 ^ 62) : APure Pg fn_law03_finding [.int .i64 i, .int .i64 s] (.agg [.int .i64 i, .bool (inS s i)]) := by
  have hdv : 0 ≤ s / 2 ^ i := Int.ediv_nonneg hs.1 (by have := two_pow_pos i; omega)
  have hand := bitI_and1 hdv (by have := Int.ediv_le_self (2 ^ i) hs.1; omega)
  refine law03_finding.pure (by simp) ?_
  simp [hand]
  intro s4
  refine ⟨by omega, ?_⟩
  refine PCallK.intro (PInv.func (law03_find_ok i (decide (s / 2 ^ i % 2 = 1)))) ?_
  simp
  exact RetV.refl rfl
theorem Sl.toV {n : Nat} {K : KT} {tm : TM} {df : DF} {h : Heap} (l : List (Nat × AVal)) (k : List (Nat × AObj)) (en : Sl n (fun tm' df' h' => df' = df ∧ Vw l tm' ∧ Hw k h') tm df h) (hK : K (tmV l) df (hpV k)) : Sl n K tm df h := by
  obtain ⟨tm₁, df₁, h₁, a, rfl, hv, hh⟩ := en
  exact ⟨_, _, _, a.trans (SLe.view hv hh), hK⟩
/-- A list that has grown becomes a value, by a temporary. -/
theorem Sl.gSt {n : Nat} {K : KT} {tm : TM} {df : DF} {h : Heap} (t nm : Nat) {cells : List AVal} {m s esz : Nat} (ht : tm t = gS esz nm m s) (hr : h nm = gO m cells s)
    (k0 : m = 0 → Sl n K (upd tm t (.vl 0 [])) df h) (k1 : m ≠ 0 → Sl n K (frzT nm s cells tm) df (upd h nm .dead)) : Sl n K tm df h := by
  by_cases h0 : m = 0
  · exact Sl.wk t (.vl 0 []) (by rw [ht, gS, if_pos h0]; exact ALe.es_vl) (k0 h0)
  · exact Sl.frz nm (by rw [hr, gO, if_neg h0]) (k1 h0)
namespace Rak
variable {r : Rak}
theorem S_small (hv : r.Valid) {s : Int} (hs : s ∈ r.S) : 0 ≤ s ∧ s < 64 := by
  have h1 := S_in hv s hs
  have h2 := two_pow_le hv.n6
  have e6 : (2 : Int) ^ 6 = 64 := by decide
  omega
/-- What is told of findings that a set agrees with. -/
theorem errE_mem (hv : r.Valid) {l : List (Int × Bool)} (hf : Rk.Fnd r.n l) {s : Int} (hs : s ∈ Rk.agF r.S l) : r.errE l true = 0 := by
  rw [errE_of hv hf rfl, if_neg]
  intro h; rw [h] at hs; cases hs
theorem knownV_mem (hv : r.Valid) {l : List (Int × Bool)} (hf : Rk.Fnd r.n l) {s : Int} (hs : s ∈ Rk.agF r.S l) : r.knownV l = .tup [L (Rk.agF r.S l), .int .i64 0] := by
  unfold knownV
  rw [errE_mem hv hf hs, if_pos rfl]
theorem self_agF {t : Int} (ht : t ∈ r.S) (n : Nat) (q : Int) : t ∈ Rk.agF r.S (Rk.fnds n q t) := Rk.agF_fnds.2 ⟨ht, Rk.same_refl _ _⟩
theorem fnds_len (n : Nat) (q t : Int) : (Rk.fnds n q t).length ≤ n := by
  unfold Rk.fnds Rk.els
  rw [List.length_map]
  exact Nat.le_trans (List.length_filter_le _ _) (by simp)
end Rak


end Go.Cw
end

/- The law RakeEnough. -/
section
set_option maxRecDepth 100000
set_option linter.unusedSimpArgs false
namespace Go.Cw
open Go Go.Proofs

theorem bitsI_andNot (p q : Nat → Bool) {n : Nat} (hn : n ≤ 60) : bitI .andNot .i64 (bits p n) (bits q n) = bits (fun i => p i && !q i) n := by
  have ha := natB_lt62 p hn
  have hb := natB_lt62 q hn
  have hc := natB_lt62 (fun i => p i && !q i) hn
  rw [bits_natB, bits_natB, bits_natB]
  have key : (BitVec.ofNat 64 (natB p n) &&& ~~~(BitVec.ofNat 64 (natB q n))).toNat = natB (fun i => p i && !q i) n := by
    apply Nat.eq_of_testBit_eq
    intro i
    rw [← BitVec.getLsbD, BitVec.getLsbD_and, BitVec.getLsbD_not, BitVec.getLsbD_ofNat, BitVec.getLsbD_ofNat, natB_bit, natB_bit, natB_bit]
    by_cases hi : i < n
    · have : i < 64 := by omega
      simp [hi, this]
    · simp [hi]
  show IntKind.i64.wrap (Int.ofNat (BitVec.ofInt 64 (natB p n : Nat) &&& ~~~(BitVec.ofInt 64 (natB q n : Nat))).toNat) = _
  rw [BitVec.ofInt_natCast, BitVec.ofInt_natCast, key]
  have hh : ((natB (fun i => p i && !q i) n : Nat) : Int) < 2 ^ 62 := by exact_mod_cast hc
  simp [IntKind.wrap, IntKind.signed, IntKind.bits]
  omega
namespace Rk
theorem bits_self {n : Nat} {q : Int} (hq : 0 ≤ q ∧ q < 2 ^ n) : bits (inS q) n = q := bits_of hq.1 hq.2
theorem bits_all1 (n : Nat) : bits (fun _ => true) n = 2 ^ n - 1 := by
  induction n with
  | zero => rfl
  | succ n ih => simp only [bits, ih, if_true]; rw [Int.pow_succ]; omega
/-- A set among all seams. -/
theorem and_every {m : Int} (hm : 0 ≤ m ∧ m < 2 ^ 60) {n : Nat} (hn : n ≤ 60) : ∃ o, bitI .and .i64 m (2 ^ n - 1) = o ∧ (0 ≤ o ∧ o < 2 ^ n) ∧ ∀ i, i < n → inS o i = inS m i := by
  have h2 : (2 : Int) ^ n - 1 = bits (fun i => decide (i < n)) 60 := by
    rw [bits_more (n := n) hn fun i h1 h2 => by simpa using h1, bits_congr (q := fun _ => true) fun i hi => by simpa using hi, bits_all1]
  refine ⟨bits (inS m) n, ?_, bits_lt _ _, fun i hi => inS_bits _ hi⟩
  conv => lhs; rw [h2, ← bits_self hm]
  rw [bitsI_and _ _ (by omega), bits_more (n := n) hn fun i h1 h2 => by simp; omega]
  exact bits_congr fun i hi => by simp [hi]
/-- A set without one of its seams. -/
theorem less {n : Nat} (hn : n ≤ 60) {q : Int} (hq : 0 ≤ q ∧ q < 2 ^ n) {i : Nat} (hi : i < n) : ∃ p : Nat, bitI .andNot .i64 q (2 ^ i) = p ∧ p < 2 ^ n ∧ ∀ j, j < n → inS (p : Int) j = (inS q j && !decide (j = i)) := by
  have e1 : bitI .andNot .i64 q (2 ^ i) = bits (fun j => inS q j && !decide (j = i)) n := by
    conv => lhs; rw [← bits_self hq, ← bits_one hi]
    exact bitsI_andNot _ _ hn
  have hb := bits_lt (fun j => inS q j && !decide (j = i)) n
  have hpc := pow_cast n
  obtain ⟨p, hp⟩ : ∃ p : Nat, (p : Int) = bits (fun j => inS q j && !decide (j = i)) n := ⟨_, Int.toNat_of_nonneg hb.1⟩
  refine ⟨p, by rw [e1, hp], by omega, fun j hj => ?_⟩
  rw [hp, inS_bits _ hj]
end Rk
namespace Rak
variable {r : Rak}
theorem errE_nil (hv : r.Valid) : r.errE [] true = if r.S = [] then 10 else 0 := by
  rw [errE_of hv Rk.Fnd.nil rfl, agF_nil]
theorem inS_truth (hv : r.Valid) {t : List Int} (ht : t ∈ r.h.truths r.h.every) {i : Nat} (hi : i < r.n) : inS (leaksT t) i = decide (0 < ofL t i) := by
  have h1 := (truths_in hv.h ht).1
  unfold leaksT
  rw [inS_bits _ (by rw [h1, ← show r.n = r.h.n from hv.len]; exact hi)]
/-- No seam of the sets that tell all surely leaks, or surely does not. -/
theorem en_leaks (hv : r.Valid) : bitI .and .i64 ((Rk.enP r.n r.F r.S).1 : Int) (bits (sureL (r.h.truths r.h.every)) 6) = 0 ∧ bitI .andNot .i64 ((Rk.enP r.n r.F r.S).1 : Int) (bits (canL (r.h.truths r.h.every)) 6) = 0 := by
  have hsp := Rk.enP_spec (n := r.n) (f := r.F) S_nodup (S_in hv)
  have hpc := Rk.pow_cast r.n
  have h2p := two_pow_le hv.n6
  obtain ⟨q, hq⟩ : ∃ q : Int, q = ((Rk.enP r.n r.F r.S).1 : Int) := ⟨_, rfl⟩
  have hqn : 0 ≤ q ∧ q < 2 ^ r.n := by omega
  have hq6 : 0 ≤ q ∧ q < 2 ^ 6 := by omega
  have hop : ∀ i, inS q i = true → i < r.n ∧ ∃ s ∈ r.S, ∃ t ∈ r.S, inS s i = true ∧ inS t i = false := fun i hi => by
    have hin : i < r.n := Nat.lt_of_not_le fun h => by rw [Rk.inS_big hqn h] at hi; cases hi
    rw [hq] at hi
    exact ⟨hin, Rk.en_open (fun i hi => by have := hv.fat hi; unfold F; omega) S_nodup (S_in hv) hin hi⟩
  rw [← hq, ← Rk.bits_self hq6]
  constructor
  · rw [bitsI_and _ _ (by omega), bits_zero]
    intro i _
    cases hi : inS q i with
    | false => rfl
    | true =>
      obtain ⟨hin, _, _, t, ht, _, h2⟩ := hop i hi
      obtain ⟨u, hu, rfl⟩ := mem_S.1 ht
      rw [inS_truth hv hu hin] at h2
      rw [Bool.true_and]
      unfold sureL
      rw [List.all_eq_false]
      exact ⟨u, hu, by simpa using h2⟩
  · rw [bitsI_andNot _ _ (by omega), bits_zero]
    intro i _
    cases hi : inS q i with
    | false => rfl
    | true =>
      obtain ⟨hin, s, hs, _, _, h1, _⟩ := hop i hi
      obtain ⟨u, hu, rfl⟩ := mem_S.1 hs
      rw [inS_truth hv hu hin] at h1
      have : canL (r.h.truths r.h.every) i = true := by
        unfold canL
        rw [List.any_eq_true]
        exact ⟨u, hu, h1⟩
      rw [this]; rfl
end Rak
theorem rake_Known0 (r : Rak) (hs : r.Small) : PInv Pg (.func (.func fn_rake_Known) [] []) [r.v, .nils] (r.knownV []) := fun hh =>
  AInvoke.ale (ALe.refl _) (args' := [r.v, LK []]) ⟨ALe.refl _, ALe.nils_vl, trivial⟩ (PInv.func (first := []) (cap := []) (args := [r.v, LK []]) (rake_Known_ok r hs [] (by simp)) hh)
section
variable {F n₀ : Nat} {inr : Bool} {keep : List Nat} {fa fl : List It} {t : Option Nat} {K : KT} {Q : Post} {tm : TM} {df : DF} {h : Heap}


end

end Go.Cw
end

/- The law RakeBest: what is left behind one seam more. -/
section
set_option maxRecDepth 100000
set_option linter.unusedSimpArgs false
namespace Go.Cw
open Go Go.Proofs

theorem and8 : ∀ a : Nat, a < 256 → bitI .and .u8 (a : Int) 1 = (a : Int) % 2 := by decide +kernel
theorem bit8 {w : Int} (hw : 0 ≤ w ∧ w ≤ 255) (i : Nat) : bitI .and .u8 (w / 2 ^ i) 1 = if inS w i then 1 else 0 := by
  have h0 := two_pow_pos i
  have h1 : 0 ≤ w / 2 ^ i := Int.ediv_nonneg hw.1 (by omega)
  have h2 : w / 2 ^ i ≤ w := Int.ediv_le_self _ hw.1
  have h3 := and8 (w / 2 ^ i).toNat (by omega)
  rw [Int.toNat_of_nonneg h1] at h3
  rw [h3]
  unfold inS
  simp only [decide_eq_true_eq]
  split <;> omega
/-- A list that has grown becomes a value, by a cell. -/
theorem Sl.gSc {n : Nat} {K : KT} {tm : TM} {df : DF} {h : Heap} (rc nm : Nat) {cells : List AVal} {m s esz sc : Nat} (hc : h rc = .row [gS esz nm m s] sc) (hr : h nm = gO m cells s)
    (k0 : m = 0 → Sl n K tm df (upd h rc (.row [.vl 0 []] sc))) (k1 : m ≠ 0 → Sl n K (frzT nm s cells tm) df (frzH nm s cells (upd h nm .dead))) : Sl n K tm df h := by
  by_cases h0 : m = 0
  · exact Sl.rowLe rc [.vl 0 []] hc ⟨by rw [gS, if_pos h0]; exact ALe.es_vl, trivial⟩ (k0 h0)
  · exact Sl.frzHp nm (by rw [hr, gO, if_neg h0]) (k1 h0)
namespace Rak
variable {r : Rak}
/-- What Next tells of findings behind one seam more. -/
theorem nextP_push (hv : r.Valid) {l : List (Int × Bool)} (hf : Rk.Fnd r.n l) {i : Nat} (hi : i < r.n) (hni : ((i : Nat) : Int) ∉ l.map Prod.fst) (b : Bool) :
    (2 ≤ (Rk.agF r.S (l ++ [((i : Int), b)])).length ∧ r.nextP (l ++ [((i : Int), b)]) = ((Rk.planQ r.n r.F false (Rk.agF r.S (l ++ [((i : Int), b)])) (Rk.fq (l ++ [((i : Int), b)]))).1, (Rk.leftB r.n r.F r.S l i b), 0)) ∨
    (Rk.leftB r.n r.F r.S l i b = 0 ∧ (r.nextP (l ++ [((i : Int), b)]) = (0, 0, 4) ∨ r.nextP (l ++ [((i : Int), b)]) = (0, 0, 10))) := by
  have hf1 := hf.push (x := ((i : Int), b)) ⟨by simp, by simp; omega⟩ hni
  have hE := errE_of (is := true) hv hf1 rfl
  unfold nextP Rk.leftB
  rw [hE]
  by_cases h0 : Rk.agF r.S (l ++ [((i : Int), b)]) = []
  · right
    simp [h0]
  · rw [if_neg h0]
    by_cases h1 : (Rk.agF r.S (l ++ [((i : Int), b)])).length ≤ 1
    · right
      simp [h1, show ¬ 2 ≤ (Rk.agF r.S (l ++ [((i : Int), b)])).length by omega]
    · left
      simp [h1, show 2 ≤ (Rk.agF r.S (l ++ [((i : Int), b)])).length by omega]
theorem leftB_nonneg (hv : r.Valid) (l : List (Int × Bool)) (i : Nat) (b : Bool) : 0 ≤ Rk.leftB r.n r.F r.S l i b ∧ Rk.leftB r.n r.F r.S l i b ≤ 600 := by
  unfold Rk.leftB
  have h1 := Rk.planQ_nonneg (n := r.n) (fun i hi => (F_in hv i hi).1) (any := false) (Rk.un r.n (Rk.fq (l ++ [((i : Int), b)]))).length (Rk.agF r.S (l ++ [((i : Int), b)])) (Rk.fq (l ++ [((i : Int), b)]))
  have h2 := Rk.planQ_bound (F_in hv) (by omega) (any := false) (Rk.agF r.S (l ++ [((i : Int), b)])) (Rk.fq (l ++ [((i : Int), b)]))
  have hn := hv.n6
  split
  · exact ⟨h1, by omega⟩
  · omega
end Rak

end Go.Cw
end

/- Known as a row that can be written. -/
section
set_option maxRecDepth 100000
set_option linter.unusedSimpArgs false
namespace Go.Cw
open Go Go.Proofs

theorem rake_hull_agreeing_gen (f : Nat → Int) (n : Nat) (hn : n ≤ 6) (S : List Int) (hl : S.length ≤ 100000) (hS : ∀ s ∈ S, 0 ≤ s ∧ s < 2 ^ n) {q p : Int} (hk : Rk.Kn n q p) (hne : Rk.agQ n S q p ≠ []) (K : AEnd → Heap → Prop)
    (hK : ∀ s', K (.ret (.sl 900 0 s' (Rk.agQ n S q p).length (.gr 1))) (hpV [(900, .row (ints (Rk.agQ n S q p)) s')])) :
    ACalls Pg fn_rake_hull_agreeing [.pv (Rk.Hc f n S), .agg [.int .i64 q, .int .i64 p]] (hpV [(900, .dead)]) K := by
  refine rake_hull_agreeing.enter 0 (by simp) ?_
  simp [Rk.Hc]
  intro s
  obtain ⟨m, hm⟩ : ∃ m : Nat → List Int, m = fun k => (S.take k).filter (fun s => Rk.same n q s p) := ⟨_, rfl⟩
  have hml : ∀ k, (m k).length ≤ k := fun k => by
    rw [hm]; have := List.length_filter_le (fun s => Rk.same n q s p) (S.take k); simp at this ⊢; omega
  have hm0 : m 0 = [] := by rw [hm]; rfl
  refine Lp.intro' (σ := Nat × Nat) (inv := fun x => x.1 ≤ S.length)
    (vw := fun x => [(3, .ptr 3 0 (s+1)), (4, gS 1 22 (m x.1).length x.2), (10, L S), (11, .int .i64 S.length), (12, .int .i64 x.1)])
    (hp := fun x => [(3, .row [.int .i64 q, .int .i64 p] (s+1)), (22, gO (m x.1).length (ints (m x.1)) x.2)]) (ms := fun x => S.length - x.1) (0, 0) (by simp) (Sl.wk 4 .es (by simpa using ALe.nils_es) (Sl.refl ⟨by simp, by simp [hm0], by simp [hm0]⟩)) ?_
  rintro ⟨k, st⟩ hk2 J hJ
  simp at hk2
  by_cases hkc : k < S.length
  · obtain ⟨x, hx⟩ : ∃ x, S[k] = x := ⟨_, rfl⟩
    have hxb := hS x (by rw [← hx]; simp)
    have hmk := hml k
    have hms : m (k + 1) = m k ++ (if Rk.same n q x p then [x] else []) := by
      rw [hm]
      simp only [← List.take_append_getElem hkc, List.filter_append, hx]
      congr 1
      cases h : Rk.same n q x p
      · simp [h]
      · simp [h]
    have cA := rake_known_agrees_ok q p x
    rw [Rk.agrees_bits hk (by omega) hxb] at cA
    simp [hkc, hx]
    refine PCallK.intro (PInv.func cA) ?_
    cases hfx : Rk.same n q x p
    · rw [hfx] at hms
      simp
      (repeat first | refine And.intro (by omega) ?_ | refine And.intro (Fits.of (by omega) (by omega)) ?_)
      exact hJ.next (k + 1, st) (by simp; omega) (by simp; omega) (by simp [hms]) (by simp [hms])
    · rw [hfx] at hms
      simp [hkc, hx]
      intro s4 s5
      refine xApN_gS (cells := ints (m k)) (by simp) (by simp) (by omega) (by omega) ?_
      simp
      (repeat first | refine And.intro (by omega) ?_ | refine And.intro (Fits.of (by omega) (by omega)) ?_)
      exact hJ.next (k + 1, s5 + 1) (by simp; omega) (by simp; omega) (by simp [hms]) (by simp [hms])
  obtain rfl : k = S.length := by omega
  have hmE : m S.length = Rk.agQ n S q p := by rw [hm]; simp only [List.take_length]; rfl
  have hpos := List.length_pos_iff.2 hne
  have hne' : ¬ (Rk.agQ n S q p).length = 0 := by omega
  simp
  refine hJ.exit ?_
  simp [hmE, gS, gO, hne']
  refine RetV.move 22 900 (RetV.view [(900, .row (ints (Rk.agQ n S q p)) st)] (by simp) ?_)
  simpa using hK st
theorem rake_Known_gen (r : Rak) (hs : r.Small) (l : List (Int × Bool)) (hl : l.length ≤ 40) (he : r.errE l true = 0) (K : AEnd → Heap → Prop)
    (hK : ∀ s', K (.ret (.tup [.sl 900 0 s' (Rk.agF r.S l).length (.gr 1), .int .i64 0])) (hpV [(900, .row (ints (Rk.agF r.S l)) s')])) : ACalls Pg fn_rake_Known [r.v, LK l] (hpV [(900, .dead)]) K := by
  obtain ⟨hv, hf, _, hne⟩ := Rak.errE_zero.1 he
  have hkn := (Rk.fnd_kn hf).1
  have hSl := Rak.S_len hv
  have cO := rake_open_ok r hs l hl true he
  have cA := fun K => rake_hull_agreeing_gen r.F r.n hv.n6 r.S (by omega) (Rak.S_in hv) hkn (by rw [← Rk.agF_eq hf]; exact hne) K
  rw [← Rk.agF_eq hf] at cA
  refine rake_Known.enter 0 (by simp) ?_
  simp
  intro s1 s2
  refine FCall.pure (PInv.func cO) ?_
  simp
  intro s3
  refine FCall.cps [(900, .dead)] (fun s : Nat => .sl 900 0 s (Rk.agF r.S l).length (.gr 1)) (fun s => [(900, .row (ints (Rk.agF r.S l)) s)]) (fun _ => True) (fun K' hK' => AInvoke.func (cA K' fun s' => hK' s' trivial)) (by simp) (fun _ => rfl) trivial (fun s9 _ => ⟨trivial, ?_⟩)
  simp
  refine RetD.ret rfl rake_Known_1.recClo ((rake_said_nil _ _).mono ?_)
  rintro e h' ⟨rfl, rfl⟩
  simp
  exact RetV.view [(900, .row (ints (Rk.agF r.S l)) s9)] (by simp) (hK s9)
section
variable {F n₀ : Nat} {inr : Bool} {keep : List Nat} {fa fl : List It} {t : Option Nat} {K : KT} {Q : Post} {tm : TM} {df : DF} {h : Heap}
/-- Known of findings that are still gathered, as a row. -/
theorem FCall.knownG {r : Rak} (hs : r.Small) (l : List (Int × Bool)) (hl : l.length ≤ 40) (he : r.errE l true = 0) (nm st : Nat) (hnm : nm ≠ 900) (hw : h nm = gO l.length (fds l) st) (h9 : h 900 = .dead) (f : FaOk F fa tm h)
    (next : ∀ s' : Nat, FlOk fl (putD tm t (.tup [.sl 900 0 s' (Rk.agF r.S l).length (.gr 1), .int .i64 0])) (upd (upd h 900 (.row (ints (Rk.agF r.S l)) s')) nm (gO l.length (fds l) st)) ∧ K (putD tm t (.tup [.sl 900 0 s' (Rk.agF r.S l).length (.gr 1), .int .i64 0])) df (upd (upd h 900 (.row (ints (Rk.agF r.S l)) s')) nm (gO l.length (fds l) st))) :
    FCall ⟨Pg, F, n₀, inr, keep⟩ (.func (.func fn_rake_Known) [] []) [r.v, gS 2 nm l.length st] fa fl t K Q tm df h := by
  have c := fun K => rake_Known_gen r hs l hl he K
  have hz : ∀ s', ZF (.tup [.sl 900 0 s' (Rk.agF r.S l).length (.gr 1), .int .i64 0]) := fun s' => ZF.tup fun a ha => by
    simp only [List.mem_cons, List.mem_singleton, List.not_mem_nil, or_false] at ha
    rcases ha with rfl | rfl
    · exact ZF.sl _ _ _ _ _
    · exact ZF.int _ _
  have h9n : hpV [(900, AObj.dead)] = nilH := by rw [hpV_cons, hpV_nil, upd_dead rfl]
  by_cases h0 : l.length = 0
  · have hd : h nm = .dead := by rw [hw, gO, if_pos h0]
    have hl0 : LK l = .vl 0 [] := by rw [List.eq_nil_of_length_eq_zero h0]; rfl
    refine FCall.cps [(900, .dead)] (fun s' : Nat => .tup [.sl 900 0 s' (Rk.agF r.S l).length (.gr 1), .int .i64 0]) (fun s' => [(900, .row (ints (Rk.agF r.S l)) s')]) (fun _ => True) (fun K' hK' => ?_) ⟨h9, trivial⟩ (fun _ => rfl) f (fun s' _ => ?_)
    · exact AInvoke.ale (ALe.refl _) (args' := [r.v, LK l]) ⟨ALe.refl _, by rw [hl0, gS, if_pos h0]; exact ALe.es_vl, trivial⟩ (AInvoke.func (first := []) (cap := []) (args := [r.v, LK l]) (c K' fun s' => hK' s' trivial))
    · have := next s'
      rw [gO, if_pos h0, upd_dead (by rw [upd_ne _ _ hnm]; exact hd)] at this
      simpa using this
  · have hr : h nm = .row (fds l) st := by rw [hw, gO, if_neg h0]
    rw [gO, if_neg h0] at next
    rw [gS, if_neg h0]
    refine FCall.cps [(nm, .row (fds l) st), (900, .dead)] (fun s' : Nat => .tup [.sl 900 0 s' (Rk.agF r.S l).length (.gr 1), .int .i64 0]) (fun s' => [(nm, .row (fds l) st), (900, .row (ints (Rk.agF r.S l)) s')]) (fun _ => True) (fun K' hK' => ?_) ⟨hr, h9, trivial⟩ (fun _ => rfl) f (fun s' _ => by simpa using next s')
    have e : hpV [(nm, AObj.row (fds l) st), (900, .dead)] = hpV [(nm, AObj.row (fds l) st)] := by rw [hpV_cons, h9n, hpV_cons, hpV_nil]
    rw [e]
    refine AInvoke.peek (K0 := fun e h' => ∃ s', e = .ret (.tup [.sl 900 0 s' (Rk.agF r.S l).length (.gr 1), .int .i64 0]) ∧ h' = hpV [(900, .row (ints (Rk.agF r.S l)) s')]) nm ?_ fun e h' he => ?_
    · have := AInvoke.func (first := []) (cap := []) (args := [r.v, LK l]) (c (fun e h' => ∃ s', e = .ret (.tup [.sl 900 0 s' (Rk.agF r.S l).length (.gr 1), .int .i64 0]) ∧ h' = hpV [(900, .row (ints (Rk.agF r.S l)) s')]) fun s' => ⟨s', rfl, rfl⟩)
      rw [h9n] at this
      simpa [LK] using this
    · obtain ⟨s', rfl, rfl⟩ := he
      exact ⟨_, rfl, hz s', RowsZ.one 900 s' (ZF.ints _), by rw [hpV_cons, hpV_nil, upd_ne _ _ hnm]; rfl, hK' s' trivial⟩
end
end Go.Cw
end

/- The law RakeTurned: what is told of findings in another order, and of findings of no set. -/
section
set_option maxRecDepth 100000
set_option linter.unusedSimpArgs false
namespace Go.Cw
open Go Go.Proofs

theorem bitsI_xor (p q : Nat → Bool) {n : Nat} (hn : n ≤ 60) : bitI .xor .i64 (bits p n) (bits q n) = bits (fun i => p i != q i) n := by
  have ha := natB_lt62 p hn
  have hb := natB_lt62 q hn
  have hc := natB_lt62 (fun i => p i != q i) hn
  rw [bits_natB, bits_natB, bits_natB]
  have key : (BitVec.ofNat 64 (natB p n) ^^^ BitVec.ofNat 64 (natB q n)).toNat = natB (fun i => p i != q i) n := by
    apply Nat.eq_of_testBit_eq
    intro i
    rw [← BitVec.getLsbD, BitVec.getLsbD_xor, BitVec.getLsbD_ofNat, BitVec.getLsbD_ofNat, natB_bit, natB_bit, natB_bit]
    by_cases hi : i < n
    · have : i < 64 := by omega
      simp [hi, this]
    · simp [hi]
  show IntKind.i64.wrap (Int.ofNat (BitVec.ofInt 64 (natB p n : Nat) ^^^ BitVec.ofInt 64 (natB q n : Nat)).toNat) = _
  rw [BitVec.ofInt_natCast, BitVec.ofInt_natCast, key]
  have hh : ((natB (fun i => p i != q i) n : Nat) : Int) < 2 ^ 62 := by exact_mod_cast hc
  simp [IntKind.wrap, IntKind.signed, IntKind.bits]
  omega
theorem Sl.gSv {n : Nat} {K : KT} {tm : TM} {df : DF} {h : Heap} (t nm : Nat) {cells : List AVal} {m s esz : Nat} (ht : tm t = gS esz nm m s) (hr : h nm = gO m cells s) (hl : cells.length = m * esz)
    (k : Sl n K (upd tm t (.vl m cells)) df (upd h nm .dead)) : Sl n K tm df h := Sl.vle t _ (by rw [ht]; exact VLe.gS hr hl) k
theorem Sl.cpv {n : Nat} {K : KT} {tm : TM} {df : DF} {h : Heap} (t nm : Nat) {cells : List AVal} {m s s' r esz : Nat} (ht : tm t = cpV esz r s nm s' m) (hr : h nm = cpO m cells s') (hl : cells.length = m * esz)
    (k : Sl n K (upd tm t (.vl m cells)) df (upd h nm .dead)) : Sl n K tm df h := Sl.vle t _ (by rw [ht]; exact VLe.cp hr hl) k
namespace Rk
/-- Does a set agree with what was found of some seams? -/
theorem xor_same {n : Nat} (hn : n ≤ 6) {x b q : Int} (hx : 0 ≤ x ∧ x < 64) (hb : 0 ≤ b ∧ b ≤ 255) (hq : 0 ≤ q ∧ q ≤ 255) : decide (bitI .and .i64 (bitI .and .i64 (bitI .xor .i64 x b) q) (2 ^ n - 1) = 0) = same n q x b := by
  have e8 : (2 : Int) ^ 8 = 256 := by decide
  have h2 : (2 : Int) ^ n - 1 = bits (fun i => decide (i < n)) 8 := by
    rw [bits_more (n := n) (by omega) fun i h1 h2 => by simpa using h1, bits_congr (q := fun _ => true) fun i hi => by simpa using hi, bits_all1]
  have e : bitI .and .i64 (bitI .and .i64 (bitI .xor .i64 x b) q) (2 ^ n - 1) = bits (fun i => ((inS x i != inS b i) && inS q i) && decide (i < n)) 8 := by
    conv => lhs; rw [h2, ← bits_self (n := 8) (q := x) (by omega), ← bits_self (n := 8) (q := b) (by omega), ← bits_self (n := 8) (q := q) (by omega)]
    rw [bitsI_xor _ _ (by omega), bitsI_and _ _ (by omega), bitsI_and _ _ (by omega)]
  rw [e, Bool.eq_iff_iff, decide_eq_true_eq, bits_zero, same_iff]
  constructor
  · intro h i hi hqi
    have := h i (by omega)
    simpa [hqi, hi] using this
  · intro h i hi
    by_cases hin : i < n
    · have := h i hin
      cases hqi : inS q i with
      | false => simp
      | true => simp [this hqi]
    · simp [hin]
theorem agF_filter (n : Nat) (S : List Int) (q t : Int) : agF S (fnds n q t) = S.filter fun s => same n q s t := by
  unfold agF
  refine List.filter_congr fun s hs => ?_
  rw [Bool.eq_iff_iff]
  have h := agF_fnds (n := n) (S := S) (q := q) (t := t) (s := s)
  rw [agB_iff]
  have h2 := mem_agF (S := S) (l := fnds n q t) (s := s)
  rw [h2] at h
  simpa [hs] using h
end Rk
namespace Rak
variable {r : Rak}
/-- The order of findings makes no difference. -/
theorem nextV_perm (hv : r.Valid) {l m : List (Int × Bool)} (hf : Rk.Fnd r.n l) (hp : l.Perm m) : r.nextV m = r.nextV l := by
  have hf2 := hf.perm hp
  have e1 := errE_of (is := true) hv hf rfl
  have e2 := errE_of (is := true) hv hf2 rfl
  have e3 := Rk.agF_perm r.S hp
  have e4 := Rk.fq_perm hf hp
  rw [← e3] at e2
  unfold nextV nextP
  rw [e1, e2, ← e3, ← e4]
theorem knownV_of (hv : r.Valid) {l : List (Int × Bool)} (hf : Rk.Fnd r.n l) : r.knownV l = .tup [L (Rk.agF r.S l), .int .i64 (if Rk.agF r.S l = [] then 10 else 0)] := by
  unfold knownV
  rw [errE_of hv hf rfl]
  by_cases h : Rk.agF r.S l = []
  · simp [h]
  · simp [h]
end Rak
section
variable {F n₀ : Nat} {inr : Bool} {keep : List Nat} {fa fl : List It} {t : Option Nat} {K : KT} {Q : Post} {tm : TM} {df : DF} {h : Heap}
/-- All sets, as a row. -/
theorem FCall.known0 {r : Rak} (hs : r.Small) (he : r.errE [] true = 0) (h9 : h 900 = .dead) (f : FaOk F fa tm h)
    (next : ∀ s' : Nat, FlOk fl (putD tm t (.tup [.sl 900 0 s' r.S.length (.gr 1), .int .i64 0])) (upd h 900 (.row (ints r.S) s')) ∧ K (putD tm t (.tup [.sl 900 0 s' r.S.length (.gr 1), .int .i64 0])) df (upd h 900 (.row (ints r.S) s'))) :
    FCall ⟨Pg, F, n₀, inr, keep⟩ (.func (.func fn_rake_Known) [] []) [r.v, .nils] fa fl t K Q tm df h := by
  refine FCall.cps [(900, .dead)] (fun s' : Nat => .tup [.sl 900 0 s' r.S.length (.gr 1), .int .i64 0]) (fun s' => [(900, .row (ints r.S) s')]) (fun _ => True) (fun K' hK' => ?_) ⟨h9, trivial⟩ (fun _ => rfl) f (fun s' _ => by simpa using next s')
  refine AInvoke.ale (ALe.refl _) (args' := [r.v, LK []]) ⟨ALe.refl _, ALe.nils_vl, trivial⟩ (AInvoke.func (first := []) (cap := []) (args := [r.v, LK []]) (rake_Known_gen r hs [] (by simp) he K' fun s' => ?_))
  rw [Rak.agF_nil]
  exact hK' s' trivial
/-- The best order, as a row. -/
theorem FCall.orderR {r : Rak} (hs : r.Small) (he : r.errE [] true = 0) (h9 : h 900 = .dead) (f : FaOk F fa tm h)
    (next : ∀ s' : Nat, FlOk fl (putD tm t (.tup [.sl 900 0 s' r.ordL.length (.gr 1), .int .i64 r.ordN, .int .i64 0])) (upd h 900 (.row (ints r.ordL) s')) ∧ K (putD tm t (.tup [.sl 900 0 s' r.ordL.length (.gr 1), .int .i64 r.ordN, .int .i64 0])) df (upd h 900 (.row (ints r.ordL) s'))) :
    FCall ⟨Pg, F, n₀, inr, keep⟩ (.func (.func fn_rake_Order) [] []) [r.v] fa fl t K Q tm df h := by
  refine FCall.cps [(900, .dead)] (fun s' : Nat => .tup [.sl 900 0 s' r.ordL.length (.gr 1), .int .i64 r.ordN, .int .i64 0]) (fun s' => [(900, .row (ints r.ordL) s')]) (fun _ => True) (fun K' hK' => ?_) ⟨h9, trivial⟩ (fun _ => rfl) f (fun s' _ => by simpa using next s')
  refine AInvoke.func (first := []) (cap := []) (args := [r.v]) (rake_Order_gen r hs he K' fun s' => ?_)
  exact RetV.view [(900, .row (ints r.ordL) s')] (by simp) (hK' s' trivial)
end
theorem law03_RakeTurned_t48 (r : Rak) (hs : r.Small) (hv : r.Valid) (hS : r.S ≠ []) (l : List (Int × Bool)) (hll : l.length ≤ 6) (O : List Int) (hO : O = r.ordL) (hOl : O.length = r.n) (s4 s9 s37 s40 r40 s40' : Nat) (tm : TM) (h : Heap)
    (hvw : Vw [(4, .ptr 4 0 s4), (9, .sl 901 0 s9 r.S.length (.gr 1)), (12, LK l), (17, LK l), (18, L r.f), (37, .sl 900 0 s37 r.n (.gr 1)), (40, cpV 1 r40 s40 262 s40' r.n), (264, .int .i64 r.n), (265, .int .i64 0)] tm)
    (hh : Hw [(4, .row r.cells s4), (901, .row (ints r.S) s9), (900, .row (ints O) s37), (262, cpO r.n (ints O) s40')] h) :
    Lp 318 (AW ⟨Pg, 0, 318, false, []⟩ (.seq (.ops law03_RakeTurned.r49) (.seq (.cond (.t 266) .skip (.exit 8)) (.seq (.block 9 (.seq (.ops law03_RakeTurned.r50) (.ops law03_RakeTurned.r51))) (.ops law03_RakeTurned.r52))))) (InB 8 (Then (AW ⟨Pg, 0, 318, false, []⟩ (.seq (.seq (.ops law03_RakeTurned.r53) (.block 10 (.loop (.seq (.ops law03_RakeTurned.r54) (.seq (.cond (.t 275) .skip (.exit 10)) (.seq (.block 11 (.seq (.ops law03_RakeTurned.r55) (.ops law03_RakeTurned.r56))) (.ops law03_RakeTurned.r57))))))) (.seq (.ops law03_RakeTurned.r58) (.seq (.seq (.ops law03_RakeTurned.r59) (.cond (.t 301) (.seq (.ops law03_RakeTurned.r60) .ret) .skip)) (.seq (.seq (.ops law03_RakeTurned.r61) (.block 12 (.loop (.seq (.ops law03_RakeTurned.r62) (.seq (.cond (.t 305) .skip (.exit 12)) (.seq (.block 13 (.seq (.ops law03_RakeTurned.r63) (.seq (.ops law03_RakeTurned.r64) (.cond (.t 315) (.seq (.ops law03_RakeTurned.r65) .ret) .skip)))) (.ops law03_RakeTurned.r66))))))) (.seq (.ops law03_RakeTurned.r67) .ret))))) (RetK [.tmp 8] fun e _ => e = AEnd.ret (.bool true))) (RetK [.tmp 8] fun e _ => e = AEnd.ret (.bool true)))) tm [] h := by
  simp [Vw, Hw] at hvw hh
  have hn6 := hv.n6
  have hn1 := hv.n1
  have hfn : r.f.length = r.n := rfl
  have hE : r.errE [] true = 0 := by rw [Rak.errE_nil hv, if_neg hS]
  have hSl := Rak.S_len hv
  have cO := rake_Order_ok r hs
  have hV : r.ordV = .tup [L O, .int .i64 r.ordN, .int .i64 0] := by unfold Rak.ordV; rw [hE, hO]
  rw [hV] at cO
  refine Lp.intro' (σ := Nat × List Int) (inv := fun x => x.1 ≤ r.n ∧ x.2.length = r.n) (vw := fun x => [(4, .ptr 4 0 s4), (9, .sl 901 0 s9 r.S.length (.gr 1)), (12, LK l), (17, LK l), (18, L r.f), (37, .sl 900 0 s37 r.n (.gr 1)), (40, L O), (264, .int .i64 r.n), (265, .int .i64 x.1)])
    (hp := fun x => [(4, .row r.cells s4), (901, .row (ints r.S) s9), (900, .row (ints x.2) s37)]) (ms := fun x => r.n - x.1) (0, O) ⟨by simp, hOl⟩
    (Sl.cpv 40 262 (m := r.n) (cells := ints O) (s := s40) (s' := s40') (r := r40) (esz := 1) (by simp [hvw]) (by simp [hh]) (by simp [hOl]) (Sl.refl ⟨rfl, by simp [L, hvw, hOl], by simp [hh]⟩)) ?_
  rintro ⟨k, X⟩ ⟨hk, hX⟩ J hJ
  simp at hk hX
  by_cases hkc : k < r.n
  · have hkX : k < X.length := by omega
    simp [hkc, hkX, hX]
    (repeat first | refine And.intro (by omega) ?_ | refine And.intro (Fits.of (by omega) (by omega)) ?_)
    exact hJ.next (k + 1, X.set k (-9)) ⟨by simp; omega, by simp [hX]⟩ (by simp; omega) (by simp) (by simp [hkX])
  obtain rfl : k = r.n := by omega
  simp
  refine hJ.exit ?_
  simp
  refine Lp.intro (σ := Nat × List Int) (inv := fun x => x.1 ≤ r.S.length ∧ x.2.length = r.S.length) (vw := fun x => [(4, .ptr 4 0 s4), (9, .sl 901 0 s9 r.S.length (.gr 1)), (12, LK l), (17, LK l), (18, L r.f), (40, L O), (273, .int .i64 r.S.length), (274, .int .i64 x.1)])
    (hp := fun x => [(4, .row r.cells s4), (901, .row (ints x.2) s9)]) (ms := fun x => r.S.length - x.1) (0, r.S) ⟨by simp, by simp⟩ (by simp) (by simp) ?_
  rintro ⟨k, Y⟩ ⟨hk2, hY⟩ J2 hJ2
  simp at hk2 hY
  by_cases hkc2 : k < r.S.length
  · have hkY : k < Y.length := by omega
    simp [hkc2, hkY, hY]
    (repeat first | refine And.intro (by omega) ?_ | refine And.intro (Fits.of (by omega) (by omega)) ?_)
    exact hJ2.next (k + 1, Y.set k (-9)) ⟨by simp; omega, by simp [hY]⟩ (by simp; omega) (by simp) (by simp [hkY])
  obtain rfl : k = r.S.length := by omega
  simp
  refine hJ2.exit ?_
  simp [Rak.cells]
  refine FCall.pure (PInv.func (first := []) (cap := []) (args := [r.v]) cO) ?_
  simp
  refine PCallK.intro (PInv.func (law03_ints_ok O O (by omega) (by omega))) ?_
  simp
  refine PCallK.intro (PInv.func (law03_ints_ok r.f r.f (by omega) (by omega))) ?_
  simp
  refine Lp.intro (σ := Nat) (inv := fun k => k ≤ l.length) (vw := fun k => [(12, LK l), (17, LK l), (303, .int .i64 l.length), (304, .int .i64 k)])
    (hp := fun _ => []) (ms := fun k => l.length - k) 0 (by omega) (by simp) (by simp) ?_
  intro k hk3 J3 hJ3
  by_cases hkc3 : k < l.length
  · obtain ⟨x, hx⟩ : ∃ x, l[k] = x := ⟨_, rfl⟩
    have hgx : l[k]? = some x := by rw [List.getElem?_eq_getElem hkc3, hx]
    simp [hkc3, hx, hgx]
    (repeat first | refine And.intro (by omega) ?_ | refine And.intro (Fits.of (by omega) (by omega)) ?_)
    exact hJ3.next (k + 1) (by omega) (by omega) (by simp) (by simp)
  obtain rfl : k = l.length := by omega
  simp
  refine hJ3.exit ?_
  simp
  refine PCallK.intro (PInv.func law03_alive_ok) ?_
  simp
  exact RetV.refl rfl
theorem law03_RakeTurned_t36 (r : Rak) (hs : r.Small) (hv : r.Valid) (hS : r.S ≠ []) (rk : Int) (hrk : 0 ≤ rk ∧ rk ≤ 255) (bt : Int) (hbt : 0 ≤ bt ∧ bt ≤ 255) (l : List (Int × Bool)) (hll : l.length ≤ 6) (C : List Int) (hC : C = r.S.filter fun s => Rk.same r.n rk s bt) (s4 s9 : Nat) :
    AW ⟨Pg, 0, 318, false, []⟩ (.seq (.seq (.ops law03_RakeTurned.r36) (.block 6 (.loop (.seq (.ops law03_RakeTurned.r37) (.seq (.cond (.t 209) .skip (.exit 6)) (.seq (.block 7 (.seq (.ops law03_RakeTurned.r38) (.seq (.ops law03_RakeTurned.r39) (.cond (.t 225) (.ops law03_RakeTurned.r40) .skip)))) (.ops law03_RakeTurned.r41))))))) (.seq (.seq (.ops law03_RakeTurned.r42) (.cond (.t 251) (.seq (.ops law03_RakeTurned.r43) .ret) .skip)) (.seq (.ops law03_RakeTurned.r44) (.seq (.seq (.ops law03_RakeTurned.r45) (.cond (.t 259) (.seq (.ops law03_RakeTurned.r46) .ret) .skip)) (.seq (.ops law03_RakeTurned.r47) (.seq (.seq (.ops law03_RakeTurned.r48) (.block 8 (.loop (.seq (.ops law03_RakeTurned.r49) (.seq (.cond (.t 266) .skip (.exit 8)) (.seq (.block 9 (.seq (.ops law03_RakeTurned.r50) (.ops law03_RakeTurned.r51))) (.ops law03_RakeTurned.r52))))))) (.seq (.seq (.ops law03_RakeTurned.r53) (.block 10 (.loop (.seq (.ops law03_RakeTurned.r54) (.seq (.cond (.t 275) .skip (.exit 10)) (.seq (.block 11 (.seq (.ops law03_RakeTurned.r55) (.ops law03_RakeTurned.r56))) (.ops law03_RakeTurned.r57))))))) (.seq (.ops law03_RakeTurned.r58) (.seq (.seq (.ops law03_RakeTurned.r59) (.cond (.t 301) (.seq (.ops law03_RakeTurned.r60) .ret) .skip)) (.seq (.seq (.ops law03_RakeTurned.r61) (.block 12 (.loop (.seq (.ops law03_RakeTurned.r62) (.seq (.cond (.t 305) .skip (.exit 12)) (.seq (.block 13 (.seq (.ops law03_RakeTurned.r63) (.seq (.ops law03_RakeTurned.r64) (.cond (.t 315) (.seq (.ops law03_RakeTurned.r65) .ret) .skip)))) (.ops law03_RakeTurned.r66))))))) (.seq (.ops law03_RakeTurned.r67) .ret)))))))))))
      (RetK [.tmp 8] fun e _ => e = AEnd.ret (.bool true))
      (tmV [(2, .int .u8 rk), (3, .int .u8 bt), (4, .ptr 4 0 s4), (9, .sl 900 0 s9 r.S.length (.gr 1)), (12, LK l), (17, LK l), (18, L r.f), (29, L C), (30, .int .i64 (if C = [] then 10 else 0)), (31, .bool true), (32, .int .i64 0)]) [] (hpV [(4, .row r.cells s4), (900, .row (ints r.S) s9)]) := by
  have hn6 := hv.n6
  have hn1 := hv.n1
  have hfn : r.f.length = r.n := rfl
  have hSl := Rak.S_len hv
  have e6 : (2 : Int) ^ 6 = 64 := by decide
  have h2p := two_pow_le hn6
  have hpp := two_pow_pos r.n
  have hbw : IntKind.i64.wrap bt = bt := Rk.wrapI (by omega) (by omega)
  have hkw : IntKind.i64.wrap rk = rk := Rk.wrapI (by omega) (by omega)
  have hnw : IntKind.i64.wrap ((2 : Int) ^ r.n) = 2 ^ r.n := Rk.wrapI (by omega) (by have e62 : (2 : Int) ^ 62 = 4611686018427387904 := by decide
                                                                                     omega)
  obtain ⟨cn, hcn⟩ : ∃ cn : Nat → Nat, cn = fun k => ((r.S.take k).filter fun s => Rk.same r.n rk s bt).length := ⟨_, rfl⟩
  have hc0 : cn 0 = 0 := by rw [hcn]; rfl
  have hcE : cn r.S.length = C.length := by rw [hcn, hC]; simp only [List.take_length]
  have hcs : ∀ k (h : k < r.S.length), cn (k + 1) = cn k + if Rk.same r.n rk r.S[k] bt then 1 else 0 := fun k h => by
    rw [hcn]
    simp only
    rw [← List.take_append_getElem h, List.filter_append, List.length_append]
    congr 1
    cases h2 : Rk.same r.n rk r.S[k] bt <;> simp [h2]
  have hcl : ∀ k, cn k ≤ k := fun k => by
    rw [hcn]
    have := List.length_filter_le (fun s => Rk.same r.n rk s bt) (r.S.take k)
    simp at this ⊢
    omega
  simp
  refine Lp.intro (σ := Nat) (inv := fun k => k ≤ r.S.length) (vw := fun k => [(2, .int .u8 rk), (3, .int .u8 bt), (4, .ptr 4 0 s4), (9, .sl 900 0 s9 r.S.length (.gr 1)), (12, LK l), (17, LK l), (18, L r.f), (29, L C), (30, .int .i64 (if C = [] then 10 else 0)), (31, .bool true), (32, .int .i64 (cn k)), (206, .sl 900 0 s9 r.S.length (.gr 1)), (207, .int .i64 r.S.length), (208, .int .i64 k)])
    (hp := fun _ => [(4, .row r.cells s4), (900, .row (ints r.S) s9)]) (ms := fun k => r.S.length - k) 0 (by omega) (by simp [hc0]) (by simp) ?_
  intro k hk J hJ
  by_cases hkc : k < r.S.length
  · obtain ⟨x, hx⟩ : ∃ x, r.S[k] = x := ⟨_, rfl⟩
    have hxS : x ∈ r.S := by rw [← hx]; simp
    have hxb := Rak.S_small hv hxS
    have hst := hcs k hkc
    have hck := hcl k
    have hxs := Rk.xor_same hn6 hxb hbt hrk
    rw [hx] at hst
    cases hsm : Rk.same r.n rk x bt with
    | true =>
      rw [hsm] at hst hxs
      rw [decide_eq_true_eq] at hxs
      rw [if_pos rfl] at hst
      simp [hkc, hx, Rak.cells, hbw, hkw, hfn, hnw, hxs]
      (repeat first | refine And.intro (by omega) ?_ | refine And.intro (Fits.of (by omega) (by omega)) ?_)
      exact hJ.next (k + 1) (by omega) (by omega) (by simp [hst]) (by simp [Rak.cells])
    | false =>
      rw [hsm] at hst hxs
      rw [decide_eq_false_iff_not] at hxs
      simp at hst
      simp [hkc, hx, Rak.cells, hbw, hkw, hfn, hnw, hxs]
      (repeat first | refine And.intro (by omega) ?_ | refine And.intro (Fits.of (by omega) (by omega)) ?_)
      exact hJ.next (k + 1) (by omega) (by omega) (by simp [hst]) (by simp [Rak.cells])
  obtain rfl : k = r.S.length := by omega
  simp
  refine hJ.exitS (Sl.moveH 900 901 (Sl.toV [(4, .ptr 4 0 s4), (9, .sl 901 0 s9 r.S.length (.gr 1)), (12, LK l), (17, LK l), (18, L r.f), (29, L C), (30, .int .i64 (if C = [] then 10 else 0)), (31, .bool true), (32, .int .i64 C.length)] [(4, .row r.cells s4), (901, .row (ints r.S) s9)] (Sl.refl ⟨rfl, by simp [hcE], by simp [Rak.cells]⟩) ?_))
  have hE : r.errE [] true = 0 := by rw [Rak.errE_nil hv, if_neg hS]
  obtain ⟨O, hO⟩ : ∃ O, O = r.ordL := ⟨_, rfl⟩
  have hOl : O.length = r.n := by
    rw [hO]; unfold Rak.ordL; rw [hE, if_pos rfl]
    exact (Rk.ord_iff.2 ⟨_, (Rk.ordP_spec (n := r.n) (f := r.F) (S := r.S)).1, rfl⟩).1
  by_cases hC0 : C = []
  all_goals simp [hC0, Rak.cells]
  all_goals refine FCall.orderR hs hE (by simp) (by simp) fun s37 => ⟨by simp, ?_⟩
  all_goals rw [← hO]
  all_goals simp [hOl]
  all_goals intro s260 s262
  all_goals refine xAp_cp (by simp) (by simp) (by omega) ?_
  all_goals simp [hOl]
  all_goals exact law03_RakeTurned_t48 r hs hv hS l hll O hO hOl s4 s9 s37 (s260 + 1) 260 (s262 + 1) _ _ (by simp [hOl]) (by simp [Rak.cells, List.take_of_length_le (Nat.le_of_eq hOl)])
theorem law03_RakeTurned_t31 (r : Rak) (hs : r.Small) (hv : r.Valid) (hS : r.S ≠ []) (t : Int) (rk : Int) (hrk : 0 ≤ rk ∧ rk ≤ 255) (bt : Int) (hbt : 0 ≤ bt ∧ bt ≤ 255) (l : List (Int × Bool)) (hll : l.length ≤ 6) (A C : List Int) (hmem : t ∈ A) (hAl : A.length ≤ 100000) (hC : C = r.S.filter fun s => Rk.same r.n rk s bt) (s4 s9 s17 s17' r17 s18 s18' r18 : Nat) (tm : TM) (h : Heap)
    (hvw : Vw [(2, .int .u8 rk), (3, .int .u8 bt), (4, .ptr 4 0 s4), (9, .sl 900 0 s9 r.S.length (.gr 1)), (11, .int .i64 t), (12, LK l), (17, cpV 2 r17 s17 121 s17' l.length), (18, cpV 1 r18 s18 125 s18' r.f.length), (29, L C), (30, .int .i64 (if C = [] then 10 else 0)), (31, .bool false), (32, .int .i64 0), (193, L A), (194, .int .i64 A.length), (195, .int .i64 0)] tm)
    (hh : Hw [(4, .row r.cells s4), (900, .row (ints r.S) s9), (121, cpO l.length (fds l) s17'), (125, cpO r.f.length (ints r.f) s18')] h) :
    Lp 318 (AW ⟨Pg, 0, 318, false, []⟩ (.seq (.ops law03_RakeTurned.r32) (.seq (.cond (.t 196) .skip (.exit 4)) (.seq (.block 5 (.seq (.ops law03_RakeTurned.r33) (.ops law03_RakeTurned.r34))) (.ops law03_RakeTurned.r35))))) (InB 4 (Then (AW ⟨Pg, 0, 318, false, []⟩ (.seq (.seq (.ops law03_RakeTurned.r36) (.block 6 (.loop (.seq (.ops law03_RakeTurned.r37) (.seq (.cond (.t 209) .skip (.exit 6)) (.seq (.block 7 (.seq (.ops law03_RakeTurned.r38) (.seq (.ops law03_RakeTurned.r39) (.cond (.t 225) (.ops law03_RakeTurned.r40) .skip)))) (.ops law03_RakeTurned.r41))))))) (.seq (.seq (.ops law03_RakeTurned.r42) (.cond (.t 251) (.seq (.ops law03_RakeTurned.r43) .ret) .skip)) (.seq (.ops law03_RakeTurned.r44) (.seq (.seq (.ops law03_RakeTurned.r45) (.cond (.t 259) (.seq (.ops law03_RakeTurned.r46) .ret) .skip)) (.seq (.ops law03_RakeTurned.r47) (.seq (.seq (.ops law03_RakeTurned.r48) (.block 8 (.loop (.seq (.ops law03_RakeTurned.r49) (.seq (.cond (.t 266) .skip (.exit 8)) (.seq (.block 9 (.seq (.ops law03_RakeTurned.r50) (.ops law03_RakeTurned.r51))) (.ops law03_RakeTurned.r52))))))) (.seq (.seq (.ops law03_RakeTurned.r53) (.block 10 (.loop (.seq (.ops law03_RakeTurned.r54) (.seq (.cond (.t 275) .skip (.exit 10)) (.seq (.block 11 (.seq (.ops law03_RakeTurned.r55) (.ops law03_RakeTurned.r56))) (.ops law03_RakeTurned.r57))))))) (.seq (.ops law03_RakeTurned.r58) (.seq (.seq (.ops law03_RakeTurned.r59) (.cond (.t 301) (.seq (.ops law03_RakeTurned.r60) .ret) .skip)) (.seq (.seq (.ops law03_RakeTurned.r61) (.block 12 (.loop (.seq (.ops law03_RakeTurned.r62) (.seq (.cond (.t 305) .skip (.exit 12)) (.seq (.block 13 (.seq (.ops law03_RakeTurned.r63) (.seq (.ops law03_RakeTurned.r64) (.cond (.t 315) (.seq (.ops law03_RakeTurned.r65) .ret) .skip)))) (.ops law03_RakeTurned.r66))))))) (.seq (.ops law03_RakeTurned.r67) .ret))))))))))) (RetK [.tmp 8] fun e _ => e = AEnd.ret (.bool true))) (RetK [.tmp 8] fun e _ => e = AEnd.ret (.bool true)))) tm [] h := by
  simp [Vw, Hw] at hvw hh
  refine Lp.intro' (σ := Nat) (inv := fun k => k ≤ A.length) (vw := fun k => [(2, .int .u8 rk), (3, .int .u8 bt), (4, .ptr 4 0 s4), (9, .sl 900 0 s9 r.S.length (.gr 1)), (11, .int .i64 t), (12, LK l), (17, LK l), (18, L r.f), (29, L C), (30, .int .i64 (if C = [] then 10 else 0)), (31, .bool (decide (t ∈ A.take k))), (32, .int .i64 0), (193, L A), (194, .int .i64 A.length), (195, .int .i64 k)])
    (hp := fun _ => [(4, .row r.cells s4), (900, .row (ints r.S) s9)]) (ms := fun k => A.length - k) 0 (by omega)
    (Sl.cpv 17 121 (m := l.length) (cells := fds l) (s := s17) (s' := s17') (r := r17) (esz := 2) hvw.2.2.2.2.2.2.1 hh.2.2.1 (by simp) (Sl.cpv 18 125 (m := r.f.length) (cells := ints r.f) (s := s18) (s' := s18') (r := r18) (esz := 1) (by simp [hvw]) (by simp [hh]) (by simp) (Sl.refl ⟨rfl, by simp [LK, L, hvw], by simp [hh]⟩))) ?_
  intro k hk J2 hJ2
  by_cases hkc : k < A.length
  · obtain ⟨x, hx⟩ : ∃ x, A[k] = x := ⟨_, rfl⟩
    have hst : decide (t ∈ A.take (k + 1)) = (decide (t ∈ A.take k) || decide (x = t)) := by
      rw [← List.take_append_getElem hkc, hx, Bool.eq_iff_iff]
      simp only [decide_eq_true_eq, Bool.or_eq_true, List.mem_append, List.mem_singleton]
      exact or_congr Iff.rfl ⟨Eq.symm, Eq.symm⟩
    cases hd : decide (t ∈ A.take k) with
    | true =>
      rw [hd, Bool.true_or, decide_eq_true_eq] at hst
      simp [hkc, hx]
      (repeat first | refine And.intro (by omega) ?_ | refine And.intro (Fits.of (by omega) (by omega)) ?_)
      exact hJ2.next (k + 1) (by omega) (by omega) (by simp [hst]) (by simp)
    | false =>
      rw [hd, Bool.false_or] at hst
      by_cases hxt : x = t
      · rw [decide_eq_true hxt, decide_eq_true_eq] at hst
        simp [hkc, hx, hxt]
        (repeat first | refine And.intro (by omega) ?_ | refine And.intro (Fits.of (by omega) (by omega)) ?_)
        exact hJ2.next (k + 1) (by omega) (by omega) (by simp [hst]) (by simp)
      · rw [decide_eq_false hxt, decide_eq_false_iff_not] at hst
        simp [hkc, hx, hxt]
        (repeat first | refine And.intro (by omega) ?_ | refine And.intro (Fits.of (by omega) (by omega)) ?_)
        exact hJ2.next (k + 1) (by omega) (by omega) (by simp [hst]) (by simp)
  obtain rfl : k = A.length := by omega
  simp
  refine hJ2.exitS (Sl.toV [(2, .int .u8 rk), (3, .int .u8 bt), (4, .ptr 4 0 s4), (9, .sl 900 0 s9 r.S.length (.gr 1)), (12, LK l), (17, LK l), (18, L r.f), (29, L C), (30, .int .i64 (if C = [] then 10 else 0)), (31, .bool true), (32, .int .i64 0)] [(4, .row r.cells s4), (900, .row (ints r.S) s9)] (Sl.refl ⟨rfl, by simp [hmem], by simp⟩) ?_)
  exact law03_RakeTurned_t36 r hs hv hS rk hrk bt hbt l hll C hC s4 s9
theorem law03_RakeTurned_t16 (r : Rak) (hs : r.Small) (hv : r.Valid) (t : Int) (htS : t ∈ r.S) (rk : Int) (hrk : 0 ≤ rk ∧ rk ≤ 255) (bt : Int) (hbt : 0 ≤ bt ∧ bt ≤ 255) (l o : List (Int × Bool)) (hl : l = Rk.fnds r.n rk t) (ho : o = Rk.fnds r.n rk bt) (s4 s9 : Nat) :
    AW ⟨Pg, 0, 318, false, []⟩ (.seq (.ops law03_RakeTurned.r16) (.seq (.seq (.ops law03_RakeTurned.r17) (.block 2 (.loop (.seq (.ops law03_RakeTurned.r18) (.seq (.cond (.t 105) .skip (.exit 2)) (.seq (.block 3 (.seq (.ops law03_RakeTurned.r19) (.ops law03_RakeTurned.r20))) (.ops law03_RakeTurned.r21))))))) (.seq (.ops law03_RakeTurned.r22) (.seq (.ops law03_RakeTurned.r23) (.seq (.ops law03_RakeTurned.r24) (.seq (.ops law03_RakeTurned.r25) (.seq (.ops law03_RakeTurned.r26) (.seq (.ops law03_RakeTurned.r27) (.seq (.seq (.ops law03_RakeTurned.r28) (.cond (.t 192) (.seq (.ops law03_RakeTurned.r29) .ret) .skip)) (.seq (.ops law03_RakeTurned.r30) (.seq (.seq (.ops law03_RakeTurned.r31) (.block 4 (.loop (.seq (.ops law03_RakeTurned.r32) (.seq (.cond (.t 196) .skip (.exit 4)) (.seq (.block 5 (.seq (.ops law03_RakeTurned.r33) (.ops law03_RakeTurned.r34))) (.ops law03_RakeTurned.r35))))))) (.seq (.seq (.ops law03_RakeTurned.r36) (.block 6 (.loop (.seq (.ops law03_RakeTurned.r37) (.seq (.cond (.t 209) .skip (.exit 6)) (.seq (.block 7 (.seq (.ops law03_RakeTurned.r38) (.seq (.ops law03_RakeTurned.r39) (.cond (.t 225) (.ops law03_RakeTurned.r40) .skip)))) (.ops law03_RakeTurned.r41))))))) (.seq (.seq (.ops law03_RakeTurned.r42) (.cond (.t 251) (.seq (.ops law03_RakeTurned.r43) .ret) .skip)) (.seq (.ops law03_RakeTurned.r44) (.seq (.seq (.ops law03_RakeTurned.r45) (.cond (.t 259) (.seq (.ops law03_RakeTurned.r46) .ret) .skip)) (.seq (.ops law03_RakeTurned.r47) (.seq (.seq (.ops law03_RakeTurned.r48) (.block 8 (.loop (.seq (.ops law03_RakeTurned.r49) (.seq (.cond (.t 266) .skip (.exit 8)) (.seq (.block 9 (.seq (.ops law03_RakeTurned.r50) (.ops law03_RakeTurned.r51))) (.ops law03_RakeTurned.r52))))))) (.seq (.seq (.ops law03_RakeTurned.r53) (.block 10 (.loop (.seq (.ops law03_RakeTurned.r54) (.seq (.cond (.t 275) .skip (.exit 10)) (.seq (.block 11 (.seq (.ops law03_RakeTurned.r55) (.ops law03_RakeTurned.r56))) (.ops law03_RakeTurned.r57))))))) (.seq (.ops law03_RakeTurned.r58) (.seq (.seq (.ops law03_RakeTurned.r59) (.cond (.t 301) (.seq (.ops law03_RakeTurned.r60) .ret) .skip)) (.seq (.seq (.ops law03_RakeTurned.r61) (.block 12 (.loop (.seq (.ops law03_RakeTurned.r62) (.seq (.cond (.t 305) .skip (.exit 12)) (.seq (.block 13 (.seq (.ops law03_RakeTurned.r63) (.seq (.ops law03_RakeTurned.r64) (.cond (.t 315) (.seq (.ops law03_RakeTurned.r65) .ret) .skip)))) (.ops law03_RakeTurned.r66))))))) (.seq (.ops law03_RakeTurned.r67) .ret))))))))))))))))))))))
      (RetK [.tmp 8] fun e _ => e = AEnd.ret (.bool true))
      (tmV [(2, .int .u8 rk), (3, .int .u8 bt), (4, .ptr 4 0 s4), (9, .sl 900 0 s9 r.S.length (.gr 1)), (11, .int .i64 t), (12, LK l), (13, LK o)]) [] (hpV [(4, .row r.cells s4), (900, .row (ints r.S) s9)]) := by
  have hn6 := hv.n6
  have hn1 := hv.n1
  have hfn : r.f.length = r.n := rfl
  have hS : r.S ≠ [] := List.ne_nil_of_mem htS
  have hE : r.errE [] true = 0 := by rw [Rak.errE_nil hv, if_neg hS]
  have hSl := Rak.S_len hv
  have e6 : (2 : Int) ^ 6 = 64 := by decide
  have h2p := two_pow_le hn6
  have hbw : IntKind.i64.wrap bt = bt := Rk.wrapI (by omega) (by omega)
  have hkw : IntKind.i64.wrap rk = rk := Rk.wrapI (by omega) (by omega)
  have hll : l.length ≤ 6 := by have := Rak.fnds_len r.n rk t; rw [← hl] at this; omega
  have hol : o.length ≤ 6 := by have := Rak.fnds_len r.n rk bt; rw [← ho] at this; omega
  have hf : Rk.Fnd r.n l := by rw [hl]; exact Rk.fnds_ok r.n rk t
  have hfo : Rk.Fnd r.n o := by rw [ho]; exact Rk.fnds_ok r.n rk bt
  have hmem : t ∈ Rk.agF r.S l := by rw [hl]; exact Rak.self_agF htS r.n rk
  have hp : l.Perm l.reverse := (List.reverse_perm l).symm
  have hfr := hf.perm hp
  simp
  refine Lp.intro' (σ := Nat × Nat) (inv := fun x => x.1 ≤ l.length) (vw := fun x => [(2, .int .u8 rk), (3, .int .u8 bt), (4, .ptr 4 0 s4), (9, .sl 900 0 s9 r.S.length (.gr 1)), (11, .int .i64 t), (12, LK l), (13, LK o), (15, gS 2 117 x.1 x.2), (103, .int .i64 l.length), (104, .int .i64 x.1)])
    (hp := fun x => [(4, .row r.cells s4), (900, .row (ints r.S) s9), (117, gO x.1 (fds (l.reverse.take x.1)) x.2)]) (ms := fun x => l.length - x.1) (0, 0) (by simp) (Sl.wk 15 .es (by simpa using ALe.nils_es) (Sl.refl ⟨by simp, by simp, by simp⟩)) ?_
  rintro ⟨i, st⟩ hi J hJ
  simp at hi
  by_cases hic : i < l.length
  · have hlr : l.length - 1 - i < l.length := by omega
    obtain ⟨x, hx⟩ : ∃ x, l[l.length - 1 - i] = x := ⟨_, rfl⟩
    have e0 : ((l.length : Int) - 1 - i).toNat = l.length - 1 - i := by omega
    have hgx : l[l.length - 1 - i]? = some x := by rw [List.getElem?_eq_getElem hlr, hx]
    have hst : l.reverse.take (i + 1) = l.reverse.take i ++ [x] := by
      have h1 : i < l.reverse.length := by simpa using hic
      rw [← List.take_append_getElem h1, List.getElem_reverse, hx]
    have hrl : (l.reverse.take i).length = i := by simp; omega
    simp [hic, e0, hgx]
    (repeat first | refine And.intro (by omega) ?_ | refine And.intro (Fits.of (by omega) (by omega)) ?_)
    intro s116 s117
    refine xApN_gS (cells := fds (l.reverse.take i)) (by simp) (by simp [hrl]) (by omega) (by omega) ?_
    rw [show fds (l.reverse.take i) ++ [AVal.int IntKind.i64 x.1, .bool x.2] = fds (l.reverse.take (i + 1)) by rw [hst]; exact fds_push _ x]
    simp
    (repeat first | refine And.intro (by omega) ?_ | refine And.intro (Fits.of (by omega) (by omega)) ?_)
    exact hJ.next (i + 1, s117 + 1) (by simp; omega) (by simp; omega) (by simp) (by simp [Rak.cells])
  obtain rfl : i = l.length := by omega
  have htl : l.reverse.take l.length = l.reverse := by rw [List.take_of_length_le (by simp)]
  simp
  refine hJ.exitS (Sl.toV [(2, .int .u8 rk), (3, .int .u8 bt), (4, .ptr 4 0 s4), (9, .sl 900 0 s9 r.S.length (.gr 1)), (11, .int .i64 t), (12, LK l), (13, LK o), (15, LK l.reverse)] [(4, .row r.cells s4), (900, .row (ints r.S) s9)]
    (Sl.gSv 15 117 (m := l.length) (cells := fds l.reverse) (s := st) (esz := 2) (by simp) (by simp [htl]) (by simp) (Sl.refl ⟨rfl, by simp [LK], by simp [Rak.cells]⟩)) ?_)
  have cK := rake_Known_ok r hs l (by omega)
  have cT := rake_Known_ok r hs l.reverse (by simp; omega)
  have cO := rake_Known_ok r hs o (by omega)
  have cN := rake_Next_ok r hs l (by omega)
  have cM := rake_Next_ok r hs l.reverse (by simp; omega)
  rw [Rak.knownV_mem hv hf hmem] at cK
  rw [Rak.knownV_of hv hfr, ← Rk.agF_perm r.S hp, if_neg (List.ne_nil_of_mem hmem)] at cT
  rw [Rak.knownV_of hv hfo] at cO
  rw [Rak.nextV_perm hv hf hp] at cM
  obtain ⟨A, hA⟩ : ∃ A, A = Rk.agF r.S l := ⟨_, rfl⟩
  obtain ⟨C, hC⟩ : ∃ C, C = Rk.agF r.S o := ⟨_, rfl⟩
  obtain ⟨ce, hce⟩ : ∃ ce : Int, ce = if C = [] then 10 else 0 := ⟨_, rfl⟩
  have hAl : A.length ≤ r.S.length := by rw [hA]; exact (Rk.agF_sub r.S l).length_le
  rw [← hA] at cK cT hmem
  rw [← hC, ← hce] at cO
  have hNV : ∃ a b c, r.nextV l = .tup [.int .i64 a, .int .i64 b, .int .i64 c] := ⟨_, _, _, rfl⟩
  obtain ⟨na, nb, nc, hN⟩ := hNV
  rw [hN] at cN cM
  simp [Rak.cells]
  intro s119 s122 s121
  refine xAp_cp (by simp) (by simp) (by omega) ?_
  simp
  intro s125
  refine xAp_cp (by simp) (by simp) (by omega) ?_
  simp
  refine FCall.pure (PInv.func (first := []) (cap := []) (args := [r.v, LK l]) cK) ?_
  simp
  refine FCall.pure (PInv.func (first := []) (cap := []) (args := [r.v, LK l.reverse]) cT) ?_
  simp
  refine PCallK.intro (PInv.func (first := []) (cap := []) (args := [r.v, LK l]) cN) ?_
  simp
  refine PCallK.intro (PInv.func (first := []) (cap := []) (args := [r.v, LK l.reverse]) cM) ?_
  simp
  refine FCall.pure (PInv.func (first := []) (cap := []) (args := [r.v, LK o]) cO) ?_
  simp
  refine PCallK.intro (PInv.func (law03_ints_ok A A (by omega) (by omega))) ?_
  simp [show ¬ (r.S.length : Int) < A.length by omega, show ¬ r.S.length < A.length by omega]
  rw [hce]
  exact law03_RakeTurned_t31 r hs hv hS t rk hrk bt hbt l hll A C hmem (by omega) (by rw [hC, ho, Rk.agF_filter]) s4 s9 (s119 + 1) (s121 + 1) 119 (s122 + 1) (s125 + 1) 122 _ _ (by simp) (by simp [Rak.cells])
theorem law03_RakeTurned_ok (r : Rak) (w : Int) (hw : 0 ≤ w ∧ w ≤ 255) (rk : Int) (hrk : 0 ≤ rk ∧ rk ≤ 255) (bt : Int) (hbt : 0 ≤ bt ∧ bt ≤ 255) : APure Pg fn_law03_RakeTurned [r.v, .int .u8 w, .int .u8 rk, .int .u8 bt] (.bool true) := by
  refine law03_RakeTurned.pure (by simp) ?_
  simp
  intro s4
  refine PCallK.intro (law03_long00 r) ?_
  cases hlg : r.longB [] [] with
  | true =>
    simp
    refine PCallK.intro (PInv.func law03_alive_ok) ?_
    simp
    exact RetV.refl rfl
  | false =>
  obtain ⟨hs, _, _⟩ := Rak.short hlg
  simp
  refine PCallK.intro (PInv.func (first := []) (cap := []) (args := [r.v]) (ref03_Rake_ok r hs)) ?_
  by_cases hv : ¬ r.Valid
  · simp [hv]
    refine PCallK.intro (PInv.func law03_alive_ok) ?_
    simp
    exact RetV.refl rfl
  replace hv := Classical.not_not.1 hv
  have hn6 := hv.n6
  have hn1 := hv.n1
  have hfn : r.f.length = r.n := rfl
  have e6 : (2 : Int) ^ 6 = 64 := by decide
  have e62 : (2 : Int) ^ 62 = 4611686018427387904 := by decide
  have h2p := two_pow_le hn6
  have hE := Rak.errE_nil hv
  simp [hv]
  by_cases hS : r.S = []
  · rw [if_pos hS] at hE
    refine FCall.pure (rake_Known0 r hs) ?_
    simp [Rak.knownV, hE]
    refine PCallK.intro (PInv.func law03_alive_ok) ?_
    simp
    exact RetV.refl rfl
  rw [if_neg hS] at hE
  have hSp := List.length_pos_iff.2 hS
  have hSl := Rak.S_len hv
  obtain ⟨j, hj, hjl⟩ := rem_u8 (w := w) (by omega) (n := r.S.length) (by omega)
  obtain ⟨t, ht⟩ : ∃ t, r.S[j] = t := ⟨_, rfl⟩
  have hget : r.S[j]? = some t := by rw [List.getElem?_eq_getElem hjl, ht]
  have htS : t ∈ r.S := by rw [← ht]; simp
  have htb := Rak.S_small hv htS
  have hww : IntKind.i64.wrap w = w := Rk.wrapI (by omega) (by omega)
  have hbw : IntKind.i64.wrap bt = bt := Rk.wrapI (by omega) (by omega)
  have hkw : IntKind.i64.wrap rk = rk := Rk.wrapI (by omega) (by omega)
  obtain ⟨m, hm⟩ : ∃ m : Nat → List (Int × Bool), m = fun i => Rk.fnds i rk t := ⟨_, rfl⟩
  have hm0 : m 0 = [] := by rw [hm]; rfl
  have hml : ∀ i, (m i).length ≤ i := fun i => by rw [hm]; exact Rak.fnds_len i rk t
  have hms : ∀ i, m (i + 1) = m i ++ if inS rk i then [((i : Int), inS t i)] else [] := fun i => by rw [hm]; exact Rk.fnds_succ i rk t
  obtain ⟨o, ho⟩ : ∃ o : Nat → List (Int × Bool), o = fun i => Rk.fnds i rk bt := ⟨_, rfl⟩
  have ho0 : o 0 = [] := by rw [ho]; rfl
  have hol : ∀ i, (o i).length ≤ i := fun i => by rw [ho]; exact Rak.fnds_len i rk bt
  have hos : ∀ i, o (i + 1) = o i ++ if inS rk i then [((i : Int), inS bt i)] else [] := fun i => by rw [ho]; exact Rk.fnds_succ i rk bt
  refine FCall.known0 hs hE (by simp) (by simp) fun s9 => ⟨by simp, ?_⟩
  simp [hS, hww, hj, hget, hjl, ht]
  (repeat first | refine And.intro (by omega) ?_ | refine And.intro (Fits.of (by omega) (by omega)) ?_)
  refine Lp.intro' (σ := Nat × Nat × Nat) (inv := fun x => x.1 ≤ r.n) (vw := fun x => [(2, .int .u8 rk), (3, .int .u8 bt), (4, .ptr 4 0 (s4+1)), (9, .sl 900 0 s9 r.S.length (.gr 1)), (11, .int .i64 t), (12, gS 2 93 (m x.1).length x.2.1), (13, gS 2 100 (o x.1).length x.2.2), (79, .int .i64 r.n), (80, .int .i64 x.1)])
    (hp := fun x => [(4, .row r.cells (s4+1)), (900, .row (ints r.S) s9), (93, gO (m x.1).length (fds (m x.1)) x.2.1), (100, gO (o x.1).length (fds (o x.1)) x.2.2)]) (ms := fun x => r.n - x.1) (0, 0, 0) (by simp) (Sl.wk 12 .es (by simpa using ALe.nils_es) (Sl.wk 13 .es (by simpa using ALe.nils_es) (Sl.refl ⟨by simp, by simp [hm0, ho0, hfn], by simp [hm0, ho0, Rak.cells]⟩))) ?_
  rintro ⟨i, st, st'⟩ hi J hJ
  simp at hi
  by_cases hic : i < r.n
  · have hmi := hml i
    have hst := hms i
    have hoi := hol i
    have hot := hos i
    have hb8 := bit8 hrk i
    cases hqi : inS rk i with
    | false =>
      rw [hqi] at hst hot hb8
      simp at hst hot hb8
      simp [hic, hb8]
      (repeat first | refine And.intro (by omega) ?_ | refine And.intro (Fits.of (by omega) (by omega)) ?_)
      exact hJ.next (i + 1, st, st') (by simp; omega) (by simp; omega) (by simp [hst, hot]) (by simp [hst, hot, Rak.cells])
    | true =>
      rw [hqi] at hst hot hb8
      simp at hst hot hb8
      simp [hic, hb8]
      (repeat first | refine And.intro (by omega) ?_ | refine And.intro (Fits.of (by omega) (by omega)) ?_)
      refine PCallK.intro (PInv.func (law03_finding_ok i (by omega) t (by omega))) ?_
      simp
      intro s92 s93
      refine xApN_gS (cells := fds (m i)) (by simp) (by simp) (by omega) (by omega) ?_
      rw [show fds (m i) ++ [AVal.int IntKind.i64 (i : Int), .bool (inS t i)] = fds (m (i + 1)) by rw [hst]; exact fds_push (m i) ((i : Int), inS t i)]
      simp [hbw]
      (repeat first | refine And.intro (by omega) ?_ | refine And.intro (Fits.of (by omega) (by omega)) ?_)
      refine PCallK.intro (PInv.func (law03_finding_ok i (by omega) bt (by omega))) ?_
      simp
      intro s99 s100
      refine xApN_gS (cells := fds (o i)) (by simp) (by simp) (by omega) (by omega) ?_
      rw [show fds (o i) ++ [AVal.int IntKind.i64 (i : Int), .bool (inS bt i)] = fds (o (i + 1)) by rw [hot]; exact fds_push (o i) ((i : Int), inS bt i)]
      simp
      (repeat first | refine And.intro (by omega) ?_ | refine And.intro (Fits.of (by omega) (by omega)) ?_)
      exact hJ.next (i + 1, s93 + 1, s100 + 1) (by simp; omega) (by simp; omega) (by simp [hst, hot]) (by simp [hst, hot, Rak.cells])
  obtain rfl : i = r.n := by omega
  simp
  refine hJ.exitS (Sl.toV [(2, .int .u8 rk), (3, .int .u8 bt), (4, .ptr 4 0 (s4+1)), (9, .sl 900 0 s9 r.S.length (.gr 1)), (11, .int .i64 t), (12, LK (m r.n)), (13, LK (o r.n))] [(4, .row r.cells (s4+1)), (900, .row (ints r.S) s9)]
    (Sl.gSv 12 93 (m := (m r.n).length) (cells := fds (m r.n)) (s := st) (esz := 2) (by simp) (by simp) (by simp) (Sl.gSv 13 100 (m := (o r.n).length) (cells := fds (o r.n)) (s := st') (esz := 2) (by simp) (by simp) (by simp) (Sl.refl ⟨rfl, by simp [LK], by simp [Rak.cells]⟩))) ?_)
  exact law03_RakeTurned_t16 r hs hv t htS rk hrk bt hbt (m r.n) (o r.n) (by rw [hm]) (by rw [ho]) (s4+1) s9
end Go.Cw
end
