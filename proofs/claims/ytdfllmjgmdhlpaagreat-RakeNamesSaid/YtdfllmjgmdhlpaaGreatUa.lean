/-
  What the document's reference of layer 3 computes; laws of layer 3; how a rake is read as an argument.
-/
import Derived.Test.YtdfllmjgmdhlpaaGreatLa
import Derived.Test.YtdfllmjgmdhlpaaGreatTa
import Derived.Test.YtdfllmjgmdhlpaaGreatAe
import Derived.Test.YtdfllmjgmdhlpaaGreatAf
import Derived.Test.YtdfllmjgmdhlpaaGreatRows
set_option linter.unusedVariables false
set_option linter.unusedSimpArgs false
set_option linter.unusedSectionVars false

/- The reference: Sets. -/
section
set_option maxRecDepth 100000
set_option linter.unusedSimpArgs false
namespace Go.Cw
open Go Go.Proofs

/-- The sets among the first so many numbers. -/
def setsTo (T : List (List Int)) : Nat → List Int
  | 0 => []
  | k + 1 => if T.any fun t => decide (leaksT t = k) then setsTo T k ++ [(k : Int)] else setsTo T k
theorem setsTo_len (T : List (List Int)) (k : Nat) : (setsTo T k).length ≤ k := by
  induction k with
  | zero => simp [setsTo]
  | succ k ih =>
    unfold setsTo
    split
    · rw [List.length_append]; simp; omega
    · omega
theorem setsTo_mem {T : List (List Int)} {k : Nat} {s : Int} : s ∈ setsTo T k ↔ (0 ≤ s ∧ s < k) ∧ ∃ t ∈ T, leaksT t = s := by
  induction k with
  | zero => simp [setsTo]; omega
  | succ k ih =>
    unfold setsTo
    split
    · rename_i hc
      obtain ⟨t, ht, h1⟩ := List.any_eq_true.1 hc
      rw [List.mem_append, ih, List.mem_singleton]
      constructor
      · rintro (⟨h2, h3⟩ | rfl)
        · exact ⟨by omega, h3⟩
        · exact ⟨by omega, t, ht, by simpa using h1⟩
      · rintro ⟨h2, h3⟩
        by_cases hk : s = k
        · exact .inr hk
        · exact .inl ⟨by omega, h3⟩
    · rename_i hc
      rw [ih]
      constructor
      · rintro ⟨h2, h3⟩; exact ⟨by omega, h3⟩
      · rintro ⟨h2, t, ht, h3⟩
        refine ⟨⟨h2.1, ?_⟩, t, ht, h3⟩
        by_cases hk : s = k
        · exact absurd (List.any_eq_true.2 ⟨t, ht, by simpa [hk] using h3⟩) hc
        · omega
theorem setsTo_lt (T : List (List Int)) (k : Nat) : (setsTo T k).Pairwise (· < ·) := by
  induction k with
  | zero => simp [setsTo]
  | succ k ih =>
    unfold setsTo
    split
    · rw [List.pairwise_append]
      refine ⟨ih, by simp, fun a ha b hb => ?_⟩
      obtain rfl : b = k := by simpa using hb
      have := (setsTo_mem.1 ha).1
      omega
    · exact ih
theorem sorted_ext : ∀ {l m : List Int}, l.Pairwise (· < ·) → m.Pairwise (· < ·) → (∀ x, x ∈ l ↔ x ∈ m) → l = m
  | [], [], _, _, _ => rfl
  | [], b :: m, _, _, h => absurd ((h b).2 (by simp)) (by simp)
  | a :: l, [], _, _, h => absurd ((h a).1 (by simp)) (by simp)
  | a :: l, b :: m, hl, hm, h => by
    have hl' := List.pairwise_cons.1 hl
    have hm' := List.pairwise_cons.1 hm
    have hab : a = b := by
      have h1 := (h a).1 (by simp)
      have h2 := (h b).2 (by simp)
      rcases List.mem_cons.1 h1 with h1 | h1
      · exact h1
      · rcases List.mem_cons.1 h2 with h2 | h2
        · exact h2.symm
        · have := hm'.1 a h1; have := hl'.1 b h2; omega
    subst hab
    congr 1
    refine sorted_ext hl'.2 hm'.2 fun x => ?_
    have hx := h x
    constructor
    · intro hxl
      rcases List.mem_cons.1 (hx.1 (List.mem_cons_of_mem _ hxl)) with h1 | h1
      · have := hl'.1 x hxl; omega
      · exact h1
    · intro hxm
      rcases List.mem_cons.1 (hx.2 (List.mem_cons_of_mem _ hxm)) with h1 | h1
      · have := hm'.1 x hxm; omega
      · exact h1
theorem setsTo_all {h : Hul} (hv : h.Valid) : setsTo (h.truths h.every) (2 ^ h.n) = h.setsL := by
  refine sorted_ext (setsTo_lt _ _) ?_ fun x => ?_
  · exact Rak.S_lt (r := ⟨h, []⟩)
  · rw [setsTo_mem, show x ∈ h.setsL ↔ _ from Rak.mem_S (r := ⟨h, []⟩)]
    constructor
    · rintro ⟨_, h2⟩; exact h2
    · rintro ⟨t, ht, rfl⟩
      have hl := (truths_in hv ht).1
      have := bits_lt (fun i => decide (0 < ofL t i)) t.length
      rw [hl] at this
      refine ⟨⟨?_, ?_⟩, t, ht, rfl⟩
      · unfold leaksT; rw [hl]; exact this.1
      · unfold leaksT; rw [hl]; simpa using this.2


end Go.Cw
end

/- Rake, the reference: is a rake valid; what agrees; the errors; Known. -/
section
set_option maxRecDepth 100000
set_option linter.unusedSimpArgs false
namespace Go.Cw
open Go Go.Proofs







end Go.Cw
end

/- Rake, the reference: the best seam; Next, Worst, Any. -/
section
set_option maxRecDepth 100000
set_option linter.unusedSimpArgs false
namespace Go.Cw
open Go Go.Proofs

namespace Rk
/-- The best of the seams below a number. -/
def bestTo (n : Nat) (q : Int) (g : Nat → Int) (k : Nat) : Option (Nat × Int) := bestR g ((un n q).filter fun i => decide (i < k))
theorem bestTo_zero (n : Nat) (q : Int) (g : Nat → Int) : bestTo n q g 0 = none := by
  unfold bestTo; rw [List.filter_eq_nil_iff.2 (by simp)]; rfl
theorem bestTo_all (n : Nat) (q : Int) (g : Nat → Int) : bestTo n q g n = bestR g (un n q) := by
  unfold bestTo; rw [List.filter_eq_self.2 fun i hi => by simpa using (mem_un.1 hi).1]
theorem bestTo_succ {n : Nat} {q : Int} {g : Nat → Int} {k : Nat} (hk : k < n) : bestTo n q g (k + 1) = if inS q k then bestTo n q g k else betR g (bestTo n q g k) k := by
  have hpush : (un n q).filter (fun i => decide (i < k + 1)) = (un n q).filter (fun i => decide (i < k)) ++ if inS q k then [] else [k] := by
    unfold un
    rw [List.filter_filter, List.filter_filter]
    have e : ∀ m : Nat, m ≤ n → (List.range n).filter (fun i => decide (i < m) && !inS q i) = (List.range m).filter (fun i => !inS q i) := by
      intro m hm
      obtain ⟨d, rfl⟩ := Nat.exists_eq_add_of_le hm
      have e1 : (List.range m).filter (fun i => decide (i < m) && !inS q i) = (List.range m).filter (fun i => !inS q i) := List.filter_congr fun i hi => by simp [List.mem_range.1 hi]
      have e2 : ((List.range d).map (m + ·)).filter (fun i => decide (i < m) && !inS q i) = [] := List.filter_eq_nil_iff.2 fun i hi => by
        obtain ⟨x, _, rfl⟩ := List.mem_map.1 hi
        simp
        intro h; omega
      rw [List.range_add, List.filter_append, e1, e2, List.append_nil]
    rw [e (k + 1) (by omega), e k (by omega), List.range_succ, List.filter_append]
    cases h : inS q k <;> simp [h]
  unfold bestTo
  rw [hpush]
  cases h : inS q k
  · simp only [Bool.false_eq_true, if_false]
    rw [bestR_push]
  · simp
/-- The best so far, as the reference keeps it. -/
def leastV : Option (Nat × Int) → Int
  | none => -1
  | some b => b.2
end Rk







theorem Rak.zero_head {r : Rak} (hv : r.Valid) {x : Int} (hx : r.S.head? = some x) : (0 : Int) ∈ r.S ↔ x = 0 := by
  cases hS : r.S with
  | nil => rw [hS] at hx; cases hx
  | cons a l =>
    rw [hS] at hx
    obtain rfl : a = x := by simpa using hx
    have h1 := Rak.S_lt (r := r)
    rw [hS, List.pairwise_cons] at h1
    have h2 := Rak.S_in hv a (by rw [hS]; simp)
    constructor
    · intro h
      rcases List.mem_cons.1 h with h | h
      · exact h.symm
      · have := h1.1 0 h; omega
    · rintro rfl; simp

end Go.Cw
end

/- Rake, the reference: orders, what they cost. -/
section
set_option maxRecDepth 100000
set_option linter.unusedSimpArgs false
namespace Go.Cw
open Go Go.Proofs



theorem Rak.ask_set {r : Rak} (hv : r.Valid) {o : List Int} {s : Int} : r.Ask o s ↔ Rk.IsOrd r.n o ∧ r.h.Set s := by
  unfold Rak.Ask Hul.Set
  rw [show r.n = r.h.n from hv.len]

end Go.Cw
end

/- Rake, the reference: all orders. -/
section
set_option maxRecDepth 100000
set_option linter.unusedSimpArgs false
namespace Go.Cw
open Go Go.Proofs

namespace Rk
theorem flat_len {α β : Type} {g : α → List β} {m : Nat} : ∀ {l : List α}, (∀ i ∈ l, (g i).length ≤ m) → (l.flatMap g).length ≤ l.length * m
  | [], _ => by simp
  | a :: l, h => by
    have h1 := h a (by simp)
    have h2 := flat_len (l := l) fun i hi => h i (by simp [hi])
    rw [List.flatMap_cons, List.length_append, List.length_cons, Nat.succ_mul]
    omega
theorem ords_len (n : Nat) : ∀ (k : Nat) (b : List Nat), (ords n k b).length ≤ n ^ k
  | 0, b => by simp [ords]
  | k + 1, b => by
    simp only [ords]
    have h1 := flat_len (l := fr n b) (g := fun i => ords n k (b ++ [i])) (m := n ^ k) fun i _ => ords_len n k (b ++ [i])
    have h2 : (fr n b).length ≤ n := Nat.le_trans (List.length_filter_le _ _) (by simp)
    have h3 := Nat.mul_le_mul_right (n ^ k) h2
    rw [Nat.pow_succ, Nat.mul_comm (n ^ k) n]
    omega
/-- Orders, as lists of numbers. -/
def oL (l : List (List Nat)) : List (List Int) := l.map toI
theorem oL_append (a b : List (List Nat)) : oL (a ++ b) = oL a ++ oL b := by simp [oL]
end Rk

end Go.Cw
end

/- Rake, the reference: Order. -/
section
set_option maxRecDepth 100000
set_option linter.unusedSimpArgs false
namespace Go.Cw
open Go Go.Proofs

namespace Rk
def outO : Option (List Nat × Int) → AVal
  | none => .nils
  | some b => L (toI b.1)
def leastO : Option (List Nat × Int) → Int
  | none => -1
  | some b => b.2
end Rk

end Go.Cw
end

/- Rake, the reference: Enough. -/
section
set_option maxRecDepth 100000
set_option linter.unusedSimpArgs false
namespace Go.Cw
open Go Go.Proofs

namespace Rk
/-- Do two sets differ, at the first so many seams of a set? -/
def difB (q a b : Int) (k : Nat) : Bool := (List.range k).any fun i => inS q i && (inS a i != inS b i)
theorem difB_succ (q a b : Int) (k : Nat) : difB q a b (k + 1) = (difB q a b k || (inS q k && (inS a k != inS b k))) := by
  unfold difB; rw [List.range_succ, List.any_append]; simp
theorem difB_same {n : Nat} (hn : n ≤ 6) {q a b : Int} (hq : 0 ≤ q ∧ q < 2 ^ n) : difB q a b 6 = !same n q b a := by
  rw [Bool.eq_iff_iff, Bool.not_eq_true', ← Bool.not_eq_true, same_iff]
  unfold difB
  rw [List.any_eq_true]
  constructor
  · rintro ⟨i, hi, h⟩ hs
    rw [Bool.and_eq_true] at h
    by_cases hin : i < n
    · have := hs i hin h.1
      rw [this] at h
      simp at h
    · rw [inS_big hq (by omega)] at h
      simp at h
  · intro h
    refine Classical.byContradiction fun hc => h fun i hi hqi => ?_
    refine Classical.byContradiction fun hab => hc ⟨i, by simp; omega, ?_⟩
    rw [hqi]
    simp
    exact fun e => hab e.symm
end Rk



end Go.Cw
end

/- Rake: what the document fixes of its example is met; which rakes a law goes through. -/
section
set_option maxRecDepth 100000
set_option linter.unusedSimpArgs false
namespace Go.Cw
open Go Go.Proofs

/-- The document's example. -/
def rsm : Rak := ⟨⟨[⟨2, 0, 3⟩, ⟨5, -1, 2⟩, ⟨5, 1, 4⟩], [⟨3, 0, 1, 2⟩, ⟨6, 0, 4, 4⟩]⟩, [4, 3, 5]⟩
theorem rsm_small : rsm.Small := ⟨⟨by simp [rsm], by simp [rsm]⟩, by simp [rsm]⟩
theorem rsm_valid : rsm.Valid := ⟨⟨by simp [rsm, Hul.n], by simp [rsm, Hul.n], by simp [rsm, Hul.k], by decide, by decide⟩, by simp [rsm, Hul.n], by decide⟩
theorem rsm_S : rsm.S = [3, 5, 7] := by
  have h : rsm.h.truths rsm.h.every = [[1, 0, 3], [1, 1, 2], [1, 2, 1], [2, 0, 2], [2, 1, 1], [2, 2, 0]] := by decide +kernel
  unfold Rak.S Hul.setsL
  rw [h]
  exact sortI_eq (by decide +kernel) (by unfold SortedI; decide +kernel)
theorem rsm_n : rsm.n = 3 := rfl
theorem rsm_F : rsm.F = ofL [4, 3, 5] := rfl
def rsmE (l : List (Int × Bool)) (is : Bool) : Int := if (∀ x ∈ l, 0 ≤ x.1 ∧ x.1 < ((3 : Nat) : Int)) ∧ is = true then (if (l.map Prod.fst).Nodup then (if Rk.agF [3, 5, 7] l = [] then 10 else 0) else 5) else 2
theorem rsm_err (l : List (Int × Bool)) (is : Bool) : rsm.errE l is = rsmE l is := by
  unfold Rak.errE rsmE
  rw [if_pos rsm_valid, rsm_S]
  rfl
theorem rsm_known (l : List (Int × Bool)) {X : List Int} {e : Int} (h : ((if rsmE l true = 0 then Rk.agF [3, 5, 7] l else []), rsmE l true) = (X, e)) : rsm.knownV l = .tup [L X, .int .i64 e] := by
  rw [Prod.mk.injEq] at h
  unfold Rak.knownV
  rw [rsm_err, rsm_S, h.1, h.2]
theorem rsm_next (l : List (Int × Bool)) {a : Nat} {b e : Int} (h : (if rsmE l true = 0 then (if (Rk.agF [3, 5, 7] l).length ≤ 1 then (0, 0, 4) else ((Rk.planQ 3 (ofL [4, 3, 5]) false (Rk.agF [3, 5, 7] l) (Rk.fq l)).1, (Rk.planQ 3 (ofL [4, 3, 5]) false (Rk.agF [3, 5, 7] l) (Rk.fq l)).2, 0)) else (0, 0, rsmE l true)) = ((a, b, e) : Nat × Int × Int)) : rsm.nextV l = .tup [.int .i64 a, .int .i64 b, .int .i64 e] := by
  have : rsm.nextP l = (a, b, e) := by
    rw [← h]
    unfold Rak.nextP
    rw [rsm_err, rsm_S, rsm_n, rsm_F]
  unfold Rak.nextV
  rw [this]
theorem rsm_worst : rsm.worstV = .tup [.int .i64 8, .int .i64 0] := by
  unfold Rak.worstV
  rw [rsm_err, rsm_S, rsm_n, rsm_F, show rsmE [] true = 0 by decide +kernel, show Rk.planQ 3 (ofL [4, 3, 5]) false [3, 5, 7] 0 = (1, 8) by decide +kernel]
  rfl
theorem rsm_any : rsm.anyV = .tup [.int .i64 0, .int .i64 4, .int .i64 0] := by
  unfold Rak.anyV Rak.anyP
  rw [rsm_err, rsm_S, rsm_n, rsm_F, show rsmE [] true = 0 by decide +kernel, show Rk.planQ 3 (ofL [4, 3, 5]) true [3, 5, 7] 0 = (0, 4) by decide +kernel]
  rfl
theorem rsm_ord : rsm.ordV = .tup [L [1, 2, 0], .int .i64 8, .int .i64 0] := by
  unfold Rak.ordV Rak.ordL Rak.ordN
  rw [rsm_err, rsm_S, rsm_n, rsm_F, show rsmE [] true = 0 by decide +kernel, show Rk.ordP 3 (ofL [4, 3, 5]) [3, 5, 7] = ([1, 2, 0], 8) by decide +kernel]
  rfl
theorem rsm_en : rsm.enV = .tup [.int .i64 6, .int .i64 8, .int .i64 0] := by
  unfold Rak.enV
  rw [rsm_err, rsm_S, rsm_n, rsm_F, show rsmE [] true = 0 by decide +kernel, show Rk.enP 3 (ofL [4, 3, 5]) [3, 5, 7] = (6, 8) by decide +kernel]
  rfl
theorem rsm_cost (o : List Int) (s : Int) (ho : Rk.IsOrd 3 o ∧ 0 ≤ s ∧ s < 2 ^ 3) {a e : Int} (h : (if s ∈ [3, 5, 7] then (Rk.costL (ofL [4, 3, 5]) (Rk.toN o) [3, 5, 7] s, 0) else (0, 4)) = ((a, e) : Int × Int)) : rsm.costV o s = .tup [.int .i64 a, .int .i64 e] := by
  have hA : rsm.Ask o s := ho
  have : rsm.costP o s = (a, e) := by
    rw [← h]
    unfold Rak.costP
    rw [decide_eq_true hA, rsm_err, rsm_S, rsm_F, show rsmE [] true = 0 by decide +kernel]
    rfl
  unfold Rak.costV
  rw [this]

theorem law03_span_ok (a b : Int) : APure Pg fn_law03_span [.int .i64 a, .int .i64 b] (SP2 (a, b)) := by
  refine law03_span.pure (by simp) ?_
  simp
  intro s
  exact RetV.refl (by simp [SP2])
theorem law03_find_ok (a : Int) (b : Bool) : APure Pg fn_law03_find [.int .i64 a, .bool b] (.agg [.int .i64 a, .bool b]) := by
  refine law03_find.pure (by simp) ?_
  simp
  intro s
  exact RetV.refl (by simp)
theorem law03_ints_ok (a b : List Int) (ha : a.length ≤ 100000) (hb : b.length ≤ 100000) : APure Pg fn_law03_ints [L a, L b] (.bool (decide (a = b))) := by
  refine law03_ints.pure (by simp) ?_
  simp
  refine PCallK.intro (PInv.func (ref01_Ints_ok a b ha hb)) ?_
  simp
  exact RetV.refl rfl
theorem law03_sample_ok : APure Pg fn_law03_sample [] rsm.v := by
  refine law03_sample.pure (by simp) ?_
  simp
  intro s1 s2
  refine PCallK.intro (PInv.func (law03_span_ok _ _)) ?_
  simp [SP2]
  refine PCallK.intro (PInv.func (law03_span_ok _ _)) ?_
  simp [SP2]
  intro s3 s4
  refine RetV.frz 4 rfl (RetV.frz 9 rfl (RetV.frz 11 rfl (RetV.refl ?_)))
  simp [rsm, LS, LD, sms, sds, fl, Sm.c, Sd.c, L, ints]
theorem law03_alive_ok : APure Pg fn_law03_alive [] (.bool true) := by
  refine law03_alive.pure (by simp) ?_
  simp
  refine PCallK.intro (PInv.func law03_sample_ok) ?_
  simp
  refine PCallK.intro (PInv.func (law03_find_ok 1 true)) ?_
  simp
  intro s1
  refine FCall.frz1 22 rfl (v := .tup [L [3, 7], .int .i64 0]) ?_ trivial ?_
  · have := rake_Known_ok rsm rsm_small [(1, true)] (by simp)
    rw [rsm_known [(1, true)] (X := [3, 7]) (e := 0) (by decide +kernel)] at this
    simpa [LK, fds, fl, fdC] using PInv.func (first := []) (cap := []) (args := [rsm.v, LK [(1, true)]]) this
  simp
  refine PCallK.intro (PInv.func law03_sample_ok) ?_
  simp
  refine PCallK.intro (v := .tup [.int .i64 1, .int .i64 8, .int .i64 0]) (fun hh => AInvoke.ale (ALe.refl _) (args' := [rsm.v, LK []]) ⟨ALe.refl _, ALe.nils_vl, trivial⟩ (PInv.func (first := []) (cap := []) (args := [rsm.v, LK []]) (by
    have := rake_Next_ok rsm rsm_small [] (by simp)
    rw [rsm_next [] (a := 1) (b := 8) (e := 0) (by decide +kernel)] at this
    exact this) hh)) ?_
  simp
  refine PCallK.intro (PInv.func law03_sample_ok) ?_
  simp
  refine PCallK.intro (PInv.func (first := []) (cap := []) (args := [rsm.v]) (rake_Worst_ok rsm rsm_small)) ?_
  rw [rsm_worst]
  simp
  refine PCallK.intro (PInv.func law03_sample_ok) ?_
  simp
  intro s2
  refine FCall.frz1 39 rfl (v := .tup [.int .i64 3, .int .i64 0]) ?_ trivial ?_
  · have := rake_Cost_ok rsm rsm_small [1, 2, 0] (by simp) 5
    rw [rsm_cost [1, 2, 0] 5 (by decide +kernel) (a := 3) (e := 0) (by decide +kernel)] at this
    simpa [L] using PInv.func (first := []) (cap := []) (args := [rsm.v, L [1, 2, 0], .int .i64 5]) this
  simp
  refine PCallK.intro (PInv.func law03_sample_ok) ?_
  simp
  refine PCallK.intro (PInv.func (first := []) (cap := []) (args := [rsm.v]) (rake_Order_ok rsm rsm_small)) ?_
  rw [rsm_ord]
  simp
  refine PCallK.intro (PInv.func law03_sample_ok) ?_
  simp
  refine PCallK.intro (PInv.func (first := []) (cap := []) (args := [rsm.v]) (rake_Enough_ok rsm rsm_small)) ?_
  rw [rsm_en]
  simp
  refine PCallK.intro (PInv.func law03_sample_ok) ?_
  simp
  refine PCallK.intro (PInv.func (first := []) (cap := []) (args := [rsm.v]) (rake_Any_ok rsm rsm_small)) ?_
  rw [rsm_any]
  simp
  intro s3
  refine FCall.frz1 62 rfl (v := .bool true) ?_ trivial ?_
  · simpa [L] using PInv.func (first := []) (cap := []) (args := [L [3, 7], L [3, 7]]) (law03_ints_ok [3, 7] [3, 7] (by simp) (by simp))
  simp
  intro s4
  refine FCall.frz1 98 rfl (v := .bool true) ?_ trivial ?_
  · simpa [L] using PInv.func (first := []) (cap := []) (args := [L [1, 2, 0], L [1, 2, 0]]) (law03_ints_ok [1, 2, 0] [1, 2, 0] (by simp) (by simp))
  simp
  exact RetV.refl rfl
/-- How long the longest list is. -/
def Rak.many (r : Rak) (l : List (Int × Bool)) (ls : List (List Int)) : Int := ls.foldl (fun m x => max m (x.length : Int)) (max (max (max (r.h.seams.length : Int) (r.h.snds.length : Int)) (r.f.length : Int)) (l.length : Int))
def Rak.longB (r : Rak) (l : List (Int × Bool)) (ls : List (List Int)) : Bool := decide (40 < r.many l ls)
theorem Rak.many_push (r : Rak) (l : List (Int × Bool)) (ls : List (List Int)) (x : List Int) : r.many l (ls ++ [x]) = max (r.many l ls) (x.length : Int) := by simp [Rak.many]
theorem Rak.many_le {r : Rak} {l : List (Int × Bool)} (ls : List (List Int)) : r.h.seams.length ≤ r.many l ls ∧ r.h.snds.length ≤ r.many l ls ∧ r.f.length ≤ r.many l ls ∧ l.length ≤ r.many l ls ∧ ∀ x ∈ ls, (x.length : Int) ≤ r.many l ls := by
  induction ls using Rk.push_ind with
  | h0 => simp [Rak.many]; omega
  | h1 ls x ih =>
    rw [Rak.many_push]
    obtain ⟨a, b, c, d, e⟩ := ih
    refine ⟨by omega, by omega, by omega, by omega, fun y hy => ?_⟩
    rcases List.mem_append.1 hy with h | h
    · have := e y h; omega
    · simp at h; subst h; omega
theorem Rak.short {r : Rak} {l : List (Int × Bool)} {ls : List (List Int)} (h : r.longB l ls = false) : r.Small ∧ l.length ≤ 40 ∧ ∀ x ∈ ls, x.length ≤ 40 := by
  unfold Rak.longB at h
  rw [decide_eq_false_iff_not] at h
  obtain ⟨a, b, c, d, e⟩ := Rak.many_le (r := r) (l := l) ls
  exact ⟨⟨⟨by omega, by omega⟩, by omega⟩, by omega, fun x hx => by have := e x hx; omega⟩
theorem law03_long_ok (r : Rak) (l : List (Int × Bool)) (ls : List (List Int)) (hls : ls.length ≤ 10) : APure Pg fn_law03_long [r.v, LK l, LLv ls] (.bool (r.longB l ls)) := by
  refine law03_long.pure (by simp) ?_
  simp
  intro s3
  refine Lp.intro (σ := Nat) (inv := fun k => k ≤ ls.length) (vw := fun k => [(7, .int .i64 (r.many l (ls.take k))), (24, LLv ls), (25, .int .i64 ls.length), (26, .int .i64 k)]) (hp := fun _ => []) (ms := fun k => ls.length - k) 0 (by simp) (by simp [Rak.many]) (by simp) ?_
  intro k hk J hJ
  by_cases hkc : k < ls.length
  · obtain ⟨x, hx⟩ : ∃ x, ls[k] = x := ⟨_, rfl⟩
    have hst : r.many l (ls.take (k + 1)) = max (r.many l (ls.take k)) (x.length : Int) := by rw [← List.take_append_getElem hkc, hx, Rak.many_push]
    have hget : ls[k]? = some x := by rw [List.getElem?_eq_getElem hkc, hx]
    simp [hkc, hget, hx, ← hst]
    (repeat first | refine And.intro (by omega) ?_ | refine And.intro (Fits.of (by omega) (by omega)) ?_)
    exact hJ.next (k + 1) (by omega) (by omega) (by simp) (by simp)
  obtain rfl : k = ls.length := by omega
  simp
  refine hJ.exit ?_
  simp
  exact RetV.refl (by simp [Rak.longB])
theorem law03_long0 (r : Rak) (l : List (Int × Bool)) : PInv Pg (.func (.func fn_law03_long) [] []) [r.v, LK l, .nils] (.bool (r.longB l [])) := fun hh =>
  AInvoke.ale (ALe.refl _) (args' := [r.v, LK l, LLv []]) ⟨ALe.refl _, ALe.refl _, ALe.nils_vl, trivial⟩ (PInv.func (first := []) (cap := []) (args := [r.v, LK l, LLv []]) (law03_long_ok r l [] (by simp)) hh)
theorem law03_long00 (r : Rak) : PInv Pg (.func (.func fn_law03_long) [] []) [r.v, .nils, .nils] (.bool (r.longB [] [])) := fun hh =>
  AInvoke.ale (ALe.refl _) (args' := [r.v, LK [], .nils]) ⟨ALe.refl _, ALe.nils_vl, ALe.refl _, trivial⟩ (law03_long0 r [] hh)
noncomputable def Rak.heavyB (r : Rak) (n : Int) (l : List (Int × Bool)) (ls : List (List Int)) : Bool := if r.longB l ls then true else if r.Valid then decide (n < (r.n : Int)) else false

theorem Rak.light {r : Rak} {n : Int} {l : List (Int × Bool)} {ls : List (List Int)} (h : r.heavyB n l ls = false) : r.longB l ls = false := by
  unfold Rak.heavyB at h
  split at h
  · cases h
  · rename_i hl; simpa using hl
end Go.Cw
end

/- The laws RakeTells, RakeOrders, RakeNames. -/
section
set_option maxRecDepth 100000
set_option linter.unusedSimpArgs false
namespace Go.Cw
open Go Go.Proofs

theorem Rak.known_len {r : Rak} (l : List (Int × Bool)) : (if r.errE l true = 0 then Rk.agF r.S l else []).length ≤ 100000 := by
  split
  · rename_i h
    have h1 := Rak.S_len (Rak.errE_zero.1 h).1
    have h2 := (Rk.agF_sub r.S l).length_le
    omega
  · simp


theorem law03_RakeNames_ok : APure Pg fn_law03_RakeNames [] (.bool true) := by
  refine law03_RakeNames.pure (by simp) ?_
  simp
  refine PCallK.intro (PInv.func law03_sample_ok) ?_
  simp
  refine FCall.pure (v := .tup [L [3, 5, 7], .int .i64 0]) (fun hh => AInvoke.ale (ALe.refl _) (args' := [rsm.v, LK []]) ⟨ALe.refl _, ALe.nils_vl, trivial⟩ (PInv.func (first := []) (cap := []) (args := [rsm.v, LK []]) (by
    have := rake_Known_ok rsm rsm_small [] (by simp)
    rw [rsm_known [] (X := [3, 5, 7]) (e := 0) (by decide +kernel)] at this
    exact this) hh)) ?_
  simp
  refine PCallK.intro (PInv.func law03_sample_ok) ?_
  simp
  refine PCallK.intro (PInv.func (law03_find_ok 1 false)) ?_
  simp
  intro s1
  refine FCall.frz1 29 rfl (v := .tup [L [5], .int .i64 0]) ?_ trivial ?_
  · have := rake_Known_ok rsm rsm_small [(1, false)] (by simp)
    rw [rsm_known [(1, false)] (X := [5]) (e := 0) (by decide +kernel)] at this
    simpa [LK, fds, fl, fdC] using PInv.func (first := []) (cap := []) (args := [rsm.v, LK [(1, false)]]) this
  simp
  refine PCallK.intro (PInv.func law03_sample_ok) ?_
  simp
  refine PCallK.intro (PInv.func (law03_find_ok 1 true)) ?_
  simp
  intro s2
  refine FCall.frz1 36 rfl (v := .tup [.int .i64 2, .int .i64 5, .int .i64 0]) ?_ trivial ?_
  · have := rake_Next_ok rsm rsm_small [(1, true)] (by simp)
    rw [rsm_next [(1, true)] (a := 2) (b := 5) (e := 0) (by decide +kernel)] at this
    simpa [LK, fds, fl, fdC] using PInv.func (first := []) (cap := []) (args := [rsm.v, LK [(1, true)]]) this
  simp
  refine PCallK.intro (PInv.func law03_sample_ok) ?_
  simp
  refine PCallK.intro (PInv.func (law03_find_ok 1 false)) ?_
  simp
  intro s3
  refine FCall.frz1 44 rfl (v := .tup [.int .i64 0, .int .i64 0, .int .i64 4]) ?_ trivial ?_
  · have := rake_Next_ok rsm rsm_small [(1, false)] (by simp)
    rw [rsm_next [(1, false)] (a := 0) (b := 0) (e := 4) (by decide +kernel)] at this
    simpa [LK, fds, fl, fdC] using PInv.func (first := []) (cap := []) (args := [rsm.v, LK [(1, false)]]) this
  simp
  refine PCallK.intro (PInv.func law03_sample_ok) ?_
  simp
  intro s4
  refine FCall.frz1 51 rfl (v := .tup [.int .i64 8, .int .i64 0]) ?_ trivial ?_
  · have := rake_Cost_ok rsm rsm_small [1, 2, 0] (by simp) 7
    rw [rsm_cost [1, 2, 0] 7 (by decide +kernel) (a := 8) (e := 0) (by decide +kernel)] at this
    simpa [L] using PInv.func (first := []) (cap := []) (args := [rsm.v, L [1, 2, 0], .int .i64 7]) this
  simp
  refine PCallK.intro (PInv.func law03_sample_ok) ?_
  simp
  intro s5
  refine FCall.frz1 57 rfl (v := .tup [.int .i64 0, .int .i64 4]) ?_ trivial ?_
  · have := rake_Cost_ok rsm rsm_small [1, 2, 0] (by simp) 1
    rw [rsm_cost [1, 2, 0] 1 (by decide +kernel) (a := 0) (e := 4) (by decide +kernel)] at this
    simpa [L] using PInv.func (first := []) (cap := []) (args := [rsm.v, L [1, 2, 0], .int .i64 1]) this
  simp
  refine PCallK.intro (PInv.func law03_sample_ok) ?_
  simp
  refine PCallK.intro (PInv.func (law03_find_ok 0 false)) ?_
  simp
  intro s6
  refine FCall.frz1 64 rfl (v := .tup [.int .i64 0, .int .i64 0, .int .i64 10]) ?_ trivial ?_
  · have := rake_Next_ok rsm rsm_small [(0, false)] (by simp)
    rw [rsm_next [(0, false)] (a := 0) (b := 0) (e := 10) (by decide +kernel)] at this
    simpa [LK, fds, fl, fdC] using PInv.func (first := []) (cap := []) (args := [rsm.v, LK [(0, false)]]) this
  simp
  refine PCallK.intro (PInv.func law03_sample_ok) ?_
  simp
  refine PCallK.intro (PInv.func (law03_find_ok 1 true)) ?_
  simp
  refine PCallK.intro (PInv.func (law03_find_ok 1 true)) ?_
  simp
  intro s7
  refine FCall.frz1 73 rfl (v := .tup [.int .i64 0, .int .i64 0, .int .i64 5]) ?_ trivial ?_
  · have := rake_Next_ok rsm rsm_small [(1, true), (1, true)] (by simp)
    rw [rsm_next [(1, true), (1, true)] (a := 0) (b := 0) (e := 5) (by decide +kernel)] at this
    simpa [LK, fds, fl, fdC] using PInv.func (first := []) (cap := []) (args := [rsm.v, LK [(1, true), (1, true)]]) this
  simp
  refine PCallK.intro (PInv.func law03_alive_ok) ?_
  simp
  intro s8
  refine FCall.frz1 83 rfl (v := .bool true) ?_ (by simp) ?_
  · simpa [L] using PInv.func (first := []) (cap := []) (args := [L [3, 5, 7], L [3, 5, 7]]) (law03_ints_ok [3, 5, 7] [3, 5, 7] (by simp) (by simp))
  simp
  intro s9
  refine FCall.frz1 92 rfl (v := .bool true) ?_ (by simp) ?_
  · simpa [L] using PInv.func (first := []) (cap := []) (args := [L [5], L [5]]) (law03_ints_ok [5] [5] (by simp) (by simp))
  simp
  exact RetV.refl rfl
end Go.Cw
end

/- How a rake is read as an argument. -/
section
set_option maxRecDepth 100000
namespace Go.Cw
open Go Go.Proofs

section
variable {w : World} {μ : Mu}

theorem opens_int : Opens Pg w μ 3 fun av => ∃ n, (Lit.int .i64 n).wf = true ∧ av = [.int .i64 n] := Opens.int Tryz.underlying3 (by kernel_rfl)
theorem opens_bool : Opens Pg w μ 4 fun av => ∃ b, av = [.bool b] := Opens.bool Tryz.underlying4 (by kernel_rfl)
theorem opens_ints : Opens Pg w μ 26 fun av => ∃ l : List Int, av = [L l] := Opens.ints Tryz.underlying26 (by kernel_rfl) Tryz.underlying3 (by kernel_rfl)
theorem opens_span : Opens Pg w μ 65 fun av => ∃ p : Int × Int, av = [.int .i64 p.1, .int .i64 p.2] := by
  refine (Opens.struct (Vs := [_, _]) Tryz.underlying65 (by kernel_rfl) ⟨rfl, opens_int, by kernel_rfl, opens_int, trivial⟩).mono ?_
  rintro av ⟨ass, h, rfl⟩
  obtain ⟨a, b, rfl, ⟨n, _, rfl⟩, ⟨m, _, rfl⟩⟩ := h.two
  exact ⟨(n, m), rfl⟩
theorem opens_seam : Opens Pg w μ 118 fun av => ∃ a : Sm, av = a.c := by
  refine (Opens.struct (Vs := [_, _, _]) Tryz.underlying118 (by kernel_rfl) ⟨rfl, opens_int, by kernel_rfl, opens_int, by kernel_rfl, opens_int, trivial⟩).mono ?_
  rintro av ⟨ass, h, rfl⟩
  obtain ⟨a, b, c, rfl, ⟨n, _, rfl⟩, ⟨m, _, rfl⟩, ⟨k, _, rfl⟩⟩ := h.three
  exact ⟨⟨n, m, k⟩, rfl⟩
theorem opens_sounding : Opens Pg w μ 67 fun av => ∃ a : Sd, av = a.c := by
  refine (Opens.struct (Vs := [_, _, _]) Tryz.underlying67 (by kernel_rfl) ⟨rfl, opens_int, by kernel_rfl, opens_int, by kernel_rfl, opens_span, trivial⟩).mono ?_
  rintro av ⟨ass, h, rfl⟩
  obtain ⟨a, b, c, rfl, ⟨n, _, rfl⟩, ⟨m, _, rfl⟩, ⟨p, rfl⟩⟩ := h.three
  exact ⟨⟨n, m, p.1, p.2⟩, rfl⟩
theorem c118 : 0 < Pg.cellsOf 118 := by rw [show Pg.cellsOf 118 = 3 by kernel_rfl]; omega
theorem c67 : 0 < Pg.cellsOf 67 := by rw [show Pg.cellsOf 67 = 4 by kernel_rfl]; omega
theorem opens_hull : Opens Pg w μ 25 fun av => ∃ h : Hul, av = h.cells := by
  refine (Opens.struct (Vs := [_, _]) Tryz.underlying25 (by kernel_rfl) ⟨rfl, Opens.fl Tryz.underlying22 (by kernel_rfl) c118 opens_seam, by kernel_rfl, Opens.fl Tryz.underlying23 (by kernel_rfl) c67 opens_sounding, trivial⟩).mono ?_
  rintro av ⟨ass, h, rfl⟩
  obtain ⟨a, b, rfl, ⟨n, rfl⟩, ⟨m, rfl⟩⟩ := h.two
  exact ⟨⟨n, m⟩, rfl⟩
theorem opens_find : Opens Pg w μ 48 fun av => ∃ a : Int × Bool, av = fdC a := by
  refine (Opens.struct (Vs := [_, _]) Tryz.underlying48 (by kernel_rfl) ⟨rfl, opens_int, by kernel_rfl, opens_bool, trivial⟩).mono ?_
  rintro av ⟨ass, h, rfl⟩
  obtain ⟨a, b, rfl, ⟨n, _, rfl⟩, ⟨m, rfl⟩⟩ := h.two
  exact ⟨(n, m), rfl⟩
theorem c48 : 0 < Pg.cellsOf 48 := by rw [show Pg.cellsOf 48 = 2 by kernel_rfl]; omega
theorem opens_finds : Opens Pg w μ 29 fun av => ∃ l : List (Int × Bool), av = [LK l] := Opens.fl Tryz.underlying29 (by kernel_rfl) c48 opens_find
theorem opens_rake : Opens Pg w μ 28 fun av => ∃ r : Rak, av = r.cells := by
  refine (Opens.struct (Vs := [_, _]) Tryz.underlying28 (by kernel_rfl) ⟨rfl, opens_hull, by kernel_rfl, opens_ints, trivial⟩).mono ?_
  rintro av ⟨ass, h, rfl⟩
  obtain ⟨a, b, rfl, ⟨n, rfl⟩, ⟨m, rfl⟩⟩ := h.two
  exact ⟨⟨n, m⟩, rfl⟩
theorem opens_u8 : Opens Pg w μ 5 fun av => ∃ n : Int, (0 ≤ n ∧ n ≤ 255) ∧ av = [.int .u8 n] :=
  (Opens.int Tryz.underlying5 (by kernel_rfl)).mono fun av ⟨n, h1, h2⟩ => ⟨n, bounds_u8 h1, h2⟩
end

theorem kids : Kids Pg (· < Pg.types.size) := kids_rows (by kernel_rfl) (by kernel_rfl)
theorem slices_full : ∀ t e, t < Pg.types.size → Pg.underlying t = some (.slice e) → 0 < Pg.cellsOf e := slices_full_of Pg (by kernel_rfl)
theorem ownKnobNone : ownKnob Pg.godebug = none := by kernel_rfl

end Go.Cw
end
