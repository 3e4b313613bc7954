/-
  What the document's reference of layer 13 computes; laws of layer 13; how a rap is read as an argument.
-/
import Derived.Test.YtggclbdfeaaapaaGreatRa
import Derived.Test.YtggclbdfeaaapaaGreatAe
import Derived.Test.YtggclbdfeaaapaaGreatAf
import Derived.Test.YtggclbdfeaaapaaGreatRows
set_option linter.unusedVariables false
set_option linter.unusedSimpArgs false
set_option linter.unusedSectionVars false

/- What the document's reference of the rap tells: small functions. -/
section
set_option maxRecDepth 100000
set_option linter.unusedSimpArgs false
namespace Go.Cw
open Go Go.Proofs

theorem sumN_nonneg {n : Nat} {c : Nat → Int} (h : ∀ j, j < n → 0 ≤ c j) : 0 ≤ sumN n c := by
  induction n with
  | zero => exact Int.le_refl _
  | succ n ih => simp only [sumN]; have := ih fun j hj => h j (by omega); have := h n (by omega); omega

theorem sumN_le {n : Nat} {c : Nat → Int} {m : Int} (h : ∀ j, j < n → c j ≤ m) : sumN n c ≤ n * m := by
  induction n with
  | zero => simp [sumN]
  | succ n ih =>
    simp only [sumN]
    have := ih fun j hj => h j (by omega)
    have := h n (by omega)
    rw [show ((n + 1 : Nat) : Int) * m = n * m + m by rw [Int.natCast_add, Int.add_mul]; simp]
    omega

theorem ref13_in_ok (n lo hi : Int) : APure Pg fn_ref13_in [.int .i64 n, .int .i64 lo, .int .i64 hi] (.bool (decide (lo ≤ n ∧ n ≤ hi))) := by
  refine ref13_in.pure (by simp) ?_
  by_cases h : lo ≤ n <;> simp [h] <;> refine RetV.refl ?_ <;> simp_all

theorem ref13_power_ok (n : Nat) (hn : n ≤ 60) : APure Pg fn_ref13_power [.int .i64 n] (.int .i64 (2 ^ n)) := by
  refine ref13_power.pure (by simp) ?_
  simp
  refine Lp.intro (σ := Nat) (inv := fun k => k ≤ n) (vw := fun k => [(0, .int .i64 n), (3, .int .i64 (2 ^ k)), (4, .int .i64 k)]) (hp := fun _ => []) (ms := fun k => n - k) 0 (by simp) (by simp) (by simp) ?_
  intro k hk J hJ
  by_cases hkc : k < n
  · simp [hkc]
    have : (2 : Int) ^ (k + 1) ≤ 2 ^ 60 := by
      have := Nat.pow_le_pow_right (n := 2) (by omega) (show k + 1 ≤ 60 by omega)
      exact_mod_cast this
    have h0 : (0 : Int) < 2 ^ (k + 1) := by
      have := Nat.pow_pos (n := k + 1) (show 0 < 2 by omega)
      exact_mod_cast this
    have h2 : (2 : Int) ^ (k + 1) = 2 * 2 ^ k := by rw [Int.pow_succ, Int.mul_comm]
    rw [h2] at this h0
    refine ⟨by unfold Fits; omega, Fits.of (by omega) (by omega), hJ.next (k + 1) (by omega) (by omega) (by simp [h2]) (by simp)⟩
  · obtain rfl : k = n := by omega
    simp
    refine hJ.exit ?_
    simp
    exact RetV.refl rfl

theorem ref13_Has_ok (s : Int) (hs : 0 ≤ s ∧ s < 2 ^ 62) (i : Nat) (hi : i ≤ 60) : APure Pg fn_ref13_Has [.int .i64 s, .int .i64 i] (.bool (inS s i)) := by
  refine ref13_Has.pure (by simp) ?_
  simp
  refine PCallK.intro (PInv.func (ref13_power_ok i hi)) ?_
  have h0 := two_pow_pos i
  have h1 : s.tdiv (2 ^ i) = s / 2 ^ i := Int.tdiv_eq_ediv_of_nonneg hs.1
  have h2 : 0 ≤ s / 2 ^ i := Int.ediv_nonneg hs.1 (by omega)
  have h3 : s / 2 ^ i ≤ s := Int.ediv_le_self _ hs.1
  have h4 : (s / 2 ^ i).tmod 2 = s / 2 ^ i % 2 := Int.tmod_eq_emod_of_nonneg h2
  simp [h1, h4]
  refine ⟨by omega, by unfold Fits; omega, RetV.refl (by simp [inS])⟩

theorem ref13_Size_ok (s : Int) (hs : 0 ≤ s ∧ s < 2 ^ 60) : APure Pg fn_ref13_Size [.int .i64 s] (.int .i64 (sizeS s)) := by
  refine ref13_Size.pure (by simp) ?_
  simp
  have hdv : ∀ k : Nat, 0 ≤ s / 2 ^ k := fun k => Int.ediv_nonneg hs.1 (by have := two_pow_pos k; omega)
  have hle : ∀ k : Nat, s / 2 ^ k ≤ s := fun k => Int.ediv_le_self _ hs.1
  have hz : ∀ k : Nat, s / 2 ^ k = 0 → ∀ i, k ≤ i → s / 2 ^ i = 0 := fun k h i hi => by
    obtain ⟨m, rfl⟩ : ∃ m, i = k + m := ⟨i - k, by omega⟩
    rw [Int.pow_add, ← Int.ediv_ediv_of_nonneg (Int.le_of_lt (two_pow_pos k)), h]; simp
  have h60 : s / 2 ^ 60 = 0 := Int.ediv_eq_zero_of_lt hs.1 hs.2
  have hsum : ∀ k, 0 ≤ sumN k (fun i => if inS s i then 1 else 0) ∧ sumN k (fun i => if inS s i then 1 else 0) ≤ k := fun k =>
    ⟨sumN_nonneg fun j _ => by split <;> omega, by have := sumN_le (n := k) (c := fun i => if inS s i then 1 else 0) (m := 1) (fun j _ => by split <;> omega); omega⟩
  refine Lp.intro (σ := Nat) (inv := fun k => k ≤ 60) (vw := fun k => [(0, .int .i64 (s / 2 ^ k)), (3, .int .i64 (sumN k fun i => if inS s i then 1 else 0))]) (hp := fun _ => []) (ms := fun k => 60 - k) 0 (by simp) (by simp [sumN]) (by simp) ?_
  intro k hk J hJ
  by_cases hc : 0 < s / 2 ^ k
  · have hk60 : k < 60 := by
      by_cases h : k < 60
      · exact h
      · obtain rfl : k = 60 := by omega
        omega
    have h1 := hsum k
    have h2 := hdv k
    have h3 := hle k
    have h4 : (s / 2 ^ k).tmod 2 = s / 2 ^ k % 2 := Int.tmod_eq_emod_of_nonneg h2
    have h5 : (s / 2 ^ k).tdiv 2 = s / 2 ^ k / 2 := Int.tdiv_eq_ediv_of_nonneg h2
    have h6 : s / 2 ^ (k + 1) = s / 2 ^ k / 2 := by rw [Int.pow_succ, Int.ediv_ediv_of_nonneg (Int.le_of_lt (two_pow_pos k))]
    have h7 : sumN (k + 1) (fun i => if inS s i then 1 else 0) = sumN k (fun i => if inS s i then 1 else 0) + s / 2 ^ k % 2 := by
      simp only [sumN, inS, decide_eq_true_eq]
      congr 1
      split <;> omega
    simp [hc, h4, h5]
    refine ⟨by unfold Fits; omega, by unfold Fits; omega, ?_⟩
    exact hJ.next (k + 1) (by omega) (by omega) (by simp [h6, h7]) (by simp)
  · have h0 : s / 2 ^ k = 0 := by have := hdv k; omega
    have : sizeS s = sumN k fun i => if inS s i then 1 else 0 := sumN_ext (by omega) fun i hi => by
      rw [if_neg]; unfold inS; rw [hz k h0 i hi]; simp
    simp [hc]
    refine hJ.exit ?_
    simp
    exact RetV.refl (by rw [this])

theorem ref13_every_ok (r : Rp) (hd : r.k ≤ 40) : APure Pg fn_ref13_every [r.v] (.int .i64 (2 ^ r.k - 1)) := by
  have hkl : r.rs.length = r.k := rfl
  refine ref13_every.pure (by simp) ?_
  simp
  intro s
  rw [hkl]
  refine PCallK.intro (PInv.func (ref13_power_ok r.k (by omega))) ?_
  have h1 := two_pow_le hd
  have h0 := two_pow_pos r.k
  have : (2 : Int) ^ 40 < 2 ^ 62 := by decide
  simp
  exact ⟨by unfold Fits; omega, RetV.refl rfl⟩
end Go.Cw
end

/- The reference: is a rap valid; does a seam sound dull. -/
section
set_option maxRecDepth 100000
set_option linter.unusedSimpArgs false
namespace Go.Cw
open Go Go.Proofs

theorem ref13_Rap_ok (r : Rp) (hs : r.Small) : APure Pg fn_ref13_Rap [r.v] (.bool (decide r.Valid)) := by
  have hkl : r.rs.length = r.k := rfl
  have hk40 := hs.k
  have cD := ref05_Drive_ok r.d hs.d
  have hdv : r.d.v = .agg [L r.d.limits, LP r.d.beside, LP r.d.blows] := rfl
  rw [hdv] at cD
  refine ref13_Rap.pure (by simp) ?_
  simp
  intro s
  refine PCallK.intro (PInv.func cD) ?_
  by_cases h1 : ¬ r.d.Valid
  · simp [h1]
    exact RetV.refl (by simp [show ¬ r.Valid from fun h => h1 h.d])
  replace h1 := Classical.not_not.1 h1
  by_cases h2 : ¬ r.k ≤ 10
  · simp [h1, hkl, show (10 : Int) < (r.k : Int) by omega]
    exact RetV.refl (by simp [show ¬ r.Valid from fun h => h2 h.k10])
  replace h2 := Classical.not_not.1 h2
  simp [h1, hkl, show ¬ ((10 : Int) < (r.k : Int)) by omega]
  refine Lp.intro (σ := Nat) (inv := fun k => k ≤ r.k ∧ ∀ j x, j < k → r.rs[j]? = some x → r.d.Seam x.1) (vw := fun k => [(1, .ptr 1 0 (s+1)), (3, .int .i64 k)])
    (hp := fun _ => [(1, .row [L r.d.limits, LP r.d.beside, LP r.d.blows, LR r.rs] (s+1))]) (ms := fun k => r.k - k) 0 (by simp) (by simp) (by simp) ?_
  rintro k ⟨hk, inv⟩ J hJ
  by_cases hkc : k < r.k
  · have hkl2 : k < r.rs.length := hkc
    obtain ⟨a, hak⟩ : ∃ a, r.rs[k] = a := ⟨_, rfl⟩
    have hgk : r.rs[k]? = some a := by rw [List.getElem?_eq_getElem hkl2, hak]
    have cSm := ref05_Seam_ok r.d hs.d a.1
    rw [hdv] at cSm
    simp [hkc, hkl2, hkl, hak]
    refine PCallK.intro (PInv.func cSm) ?_
    by_cases h3 : ¬ r.d.Seam a.1
    · simp [h3]
      refine hJ.ret ?_
      simp
      exact RetV.refl (by simp [show ¬ r.Valid from fun h => h3 (h.sm a (List.mem_of_getElem? hgk))])
    replace h3 := Classical.not_not.1 h3
    simp [h3]
    (repeat first | refine And.intro (by omega) ?_ | refine And.intro (Fits.of (by omega) (by omega)) ?_)
    refine hJ.next (k + 1) ⟨by omega, fun j x hj hx => ?_⟩ (by omega) (by simp) (by simp)
    by_cases hjk : j = k
    · subst hjk
      rw [hgk] at hx; cases hx; exact h3
    · exact inv j x (by omega) hx
  obtain rfl : k = r.k := by omega
  have hV : r.Valid := ⟨h1, h2, fun x hx => by
    obtain ⟨j, hj, rfl⟩ := List.getElem_of_mem hx
    exact inv j _ hj (List.getElem?_eq_getElem hj)⟩
  simp [hkl]
  refine hJ.exit ?_
  simp
  exact RetV.refl (by simp [hV])
end Go.Cw
end

/- The reference: does a seam sound dull. -/
section
set_option maxRecDepth 100000
set_option linter.unusedSimpArgs false
namespace Go.Cw
open Go Go.Proofs

/-- Does a pair let a seam sound dull? -/
def pairH (o : Int) (i : Nat) (p : Int × Int) : Bool := (decide (p.1 = (i : Int)) && inS o p.2.toNat) || (decide (p.2 = (i : Int)) && inS o p.1.toNat)

theorem ref13_Hears_ok (r : Rp) (hs : r.Small) (o : Int) (ho : 0 ≤ o ∧ o < 2 ^ 62) (i : Nat) (hi : i ≤ 60) (hp : ∀ p ∈ r.d.beside, 0 ≤ p.1 ∧ p.1 ≤ 60 ∧ 0 ≤ p.2 ∧ p.2 ≤ 60) :
    APure Pg fn_ref13_Hears [r.v, .int .i64 o, .int .i64 i] (.bool (inS o i || r.d.beside.any (pairH o i))) := by
  have cH := ref13_Has_ok o ho i hi
  have hpl := hs.d.p
  refine ref13_Hears.pure (by simp) ?_
  simp
  intro s
  refine PCallK.intro (PInv.func cH) ?_
  cases h1 : inS o i
  · simp
    refine Lp.intro (σ := Nat) (inv := fun k => k ≤ r.d.beside.length ∧ (r.d.beside.take k).any (pairH o i) = false) (vw := fun k => [(1, .int .i64 o), (2, .int .i64 i), (3, .ptr 3 0 (s+1)), (7, .int .i64 k)])
      (hp := fun _ => [(3, .row [L r.d.limits, LP r.d.beside, LP r.d.blows, LR r.rs] (s+1))]) (ms := fun k => r.d.beside.length - k) 0 (by simp) (by simp) (by simp) ?_
    rintro k ⟨hk, inv⟩ J hJ
    by_cases hkc : k < r.d.beside.length
    · obtain ⟨a, b, hab⟩ : ∃ a b, r.d.beside[k] = (a, b) := ⟨_, _, rfl⟩
      have hpk := hp (a, b) (by rw [← hab]; simp)
      simp only at hpk
      obtain ⟨A, rfl⟩ : ∃ A : Nat, a = A := ⟨a.toNat, by omega⟩
      obtain ⟨B, rfl⟩ : ∃ B : Nat, b = B := ⟨b.toNat, by omega⟩
      have cA := ref13_Has_ok o ho A (by omega)
      have cB := ref13_Has_ok o ho B (by omega)
      have htk : r.d.beside.take (k + 1) = r.d.beside.take k ++ [((A : Int), (B : Int))] := by rw [← hab, List.take_append_getElem hkc]
      have hmem : ((A : Int), (B : Int)) ∈ r.d.beside := by rw [← hab]; simp
      have hret : pairH o i ((A : Int), (B : Int)) = true → r.d.beside.any (pairH o i) = true := fun h => List.any_eq_true.2 ⟨_, hmem, h⟩
      have hnxt : pairH o i ((A : Int), (B : Int)) = false → (r.d.beside.take (k + 1)).any (pairH o i) = false := fun h => by
        rw [htk, List.any_append, inv]; simp [h]
      by_cases e1 : A = i
      · subst e1
        simp [hkc, hab]
        refine ⟨by omega, fun s2 => ?_⟩
        refine PCallK.intro (PInv.func cB) ?_
        cases b1 : inS o B
        · have hpf : pairH o A ((A : Int), (B : Int)) = false := by simp [pairH, b1, h1]
          by_cases e2 : B = A
          · subst e2
            simp
            refine PCallK.intro (PInv.func cA) ?_
            simp [h1]
            (repeat first | refine And.intro (by omega) ?_ | refine And.intro (Fits.of (by omega) (by omega)) ?_)
            exact hJ.next (k + 1) ⟨by omega, hnxt hpf⟩ (by omega) (by simp) (by simp)
          · simp [e2]
            (repeat first | refine And.intro (by omega) ?_ | refine And.intro (Fits.of (by omega) (by omega)) ?_)
            exact hJ.next (k + 1) ⟨by omega, hnxt hpf⟩ (by omega) (by simp) (by simp)
        · have hpt : pairH o A ((A : Int), (B : Int)) = true := by simp [pairH, b1]
          simp
          refine hJ.ret ?_
          simp
          exact RetV.refl (by simp [hret hpt])
      · by_cases e2 : B = i
        · subst e2
          simp [hkc, hab, e1]
          refine ⟨by omega, fun s2 => ?_⟩
          refine PCallK.intro (PInv.func cA) ?_
          cases b1 : inS o A
          · have hpf : pairH o B ((A : Int), (B : Int)) = false := by simp [pairH, b1, e1]
            simp
            (repeat first | refine And.intro (by omega) ?_ | refine And.intro (Fits.of (by omega) (by omega)) ?_)
            exact hJ.next (k + 1) ⟨by omega, hnxt hpf⟩ (by omega) (by simp) (by simp)
          · have hpt : pairH o B ((A : Int), (B : Int)) = true := by simp [pairH, b1]
            simp
            refine hJ.ret ?_
            simp
            exact RetV.refl (by simp [hret hpt])
        · have hpf : pairH o i ((A : Int), (B : Int)) = false := by simp [pairH, e1, e2]
          simp [hkc, hab, e1, e2]
          refine ⟨by omega, fun s2 => ?_⟩
          (repeat first | refine And.intro (by omega) ?_ | refine And.intro (Fits.of (by omega) (by omega)) ?_)
          exact hJ.next (k + 1) ⟨by omega, hnxt hpf⟩ (by omega) (by simp) (by simp)
    · obtain rfl : k = r.d.beside.length := by omega
      rw [List.take_length] at inv
      simp
      refine hJ.exit ?_
      simp
      exact RetV.refl (by simp [inv])
  · simp
    exact RetV.refl rfl
end Go.Cw
end

/- The reference's Hears tells what the program's around tells; Dull. -/
section
set_option maxRecDepth 100000
set_option linter.unusedSimpArgs false
namespace Go.Cw
open Go Go.Proofs

theorem Rp.Valid.pr {r : Rp} (hv : r.Valid) {p : Int × Int} (hp : p ∈ r.d.beside) : (0 ≤ p.1 ∧ p.1 < r.n) ∧ 0 ≤ p.2 ∧ p.2 < r.n := by
  obtain ⟨i, hi, rfl⟩ := List.getElem_of_mem hp
  have := hv.d.pr i _ (List.getElem?_eq_getElem hi)
  unfold Drv.Seam at this
  have hn : r.d.n = r.n := rfl
  omega

theorem Rp.hears_eq {r : Rp} (hv : r.Valid) (o : Int) {i : Nat} (hi : i < r.n) : (inS o i || r.d.beside.any (pairH o i)) = r.hears o i := by
  rw [Bool.eq_iff_iff]
  unfold Rp.hears Rp.near nearL pairH
  simp only [Bool.or_eq_true, List.any_eq_true, List.mem_range, Bool.and_eq_true, decide_eq_true_eq]
  constructor
  · rintro (h | ⟨p, hp, (⟨h1, h2⟩ | ⟨h1, h2⟩)⟩)
    · exact ⟨i, hi, h, .inl rfl⟩
    · have := hv.pr hp
      refine ⟨p.2.toNat, by omega, h2, .inr ⟨p, hp, .inl ?_⟩⟩
      exact Prod.ext h1 (by simp; omega)
    · have := hv.pr hp
      refine ⟨p.1.toNat, by omega, h2, .inr ⟨p, hp, .inr ?_⟩⟩
      exact Prod.ext (by simp; omega) h1
  · rintro ⟨j, hj, h, (rfl | ⟨p, hp, (rfl | rfl)⟩)⟩
    · exact .inl h
    · exact .inr ⟨_, hp, .inl ⟨rfl, by simpa using h⟩⟩
    · exact .inr ⟨_, hp, .inr ⟨rfl, by simpa using h⟩⟩

theorem ref13_Hears_ok' (r : Rp) (hs : r.Small) (hv : r.Valid) (o : Int) (ho : 0 ≤ o ∧ o < 2 ^ 62) (i : Nat) (hi : i < r.n) :
    APure Pg fn_ref13_Hears [r.v, .int .i64 o, .int .i64 i] (.bool (r.hears o i)) := by
  have hn6 : r.n ≤ 6 := hv.d.n6
  rw [← Rp.hears_eq hv o hi]
  exact ref13_Hears_ok r hs o ho i (by omega) fun p hp => by have := hv.pr hp; omega
end Go.Cw
end

/- The reference's Dull. -/
section
set_option maxRecDepth 100000
set_option linter.unusedSimpArgs false
namespace Go.Cw
open Go Go.Proofs

theorem ref13_Dull_ok (r : Rp) (hs : r.Small) (q : Int) : APure Pg fn_ref13_Dull [r.v, .int .i64 q] (r.dullV q) := by
  have cR := ref13_Rap_ok r hs
  have hva : r.v = .agg [L r.d.limits, LP r.d.beside, LP r.d.blows, LR r.rs] := rfl
  have hnl : r.d.limits.length = r.n := rfl
  rw [hva] at cR
  refine ref13_Dull.pure (by simp) ?_
  simp
  intro s
  refine PCallK.intro (PInv.func cR) ?_
  by_cases hv : ¬ r.Valid
  · simp [hv]
    exact RetV.refl (by simp [Rp.dullV, hv])
  replace hv := Classical.not_not.1 hv
  have hn6 : r.n ≤ 6 := hv.d.n6
  have hpp := two_pow_pos r.n
  have h2p := two_pow_le (show r.n ≤ 6 by omega)
  have e6 : (2 : Int) ^ 6 = 64 := by decide
  simp [hv, hnl]
  refine PCallK.intro (PInv.func (ref13_power_ok r.n (by omega))) ?_
  simp
  refine ⟨by unfold Fits; omega, ?_⟩
  refine PCallK.intro (PInv.func (ref13_in_ok _ _ _)) ?_
  by_cases hq : ¬ (0 ≤ q ∧ q < 2 ^ r.n)
  · simp [show ¬ (0 ≤ q ∧ q ≤ 2 ^ r.n - 1) by omega]
    exact RetV.refl (by simp only [Rp.dullV, hv, hq, if_true, if_false])
  replace hq := Classical.not_not.1 hq
  simp [show 0 ≤ q ∧ q ≤ 2 ^ r.n - 1 by omega]
  refine Lp.intro (σ := Nat) (inv := fun k => k ≤ r.n) (vw := fun k => [(1, .int .i64 q), (2, .ptr 2 0 (s+1)), (6, .int .i64 (bits (r.hears q) k)), (7, .int .i64 k)])
    (hp := fun _ => [(2, .row [L r.d.limits, LP r.d.beside, LP r.d.blows, LR r.rs] (s+1))]) (ms := fun k => r.n - k) 0 (by simp) (by simp [bits]) (by simp) ?_
  intro k hk J hJ
  by_cases hkc : k < r.n
  · have hb := bits_lt (r.hears q) k
    have hp1 := two_pow_pos k
    have hp2 := two_pow_le (show k ≤ 6 by omega)
    have cH := ref13_Hears_ok' r hs hv q (by omega) k hkc
    rw [hva] at cH
    simp [hnl, hkc]
    refine PCallK.intro (PInv.func cH) ?_
    cases hh : r.hears q k
    · simp
      (repeat first | refine And.intro (by omega) ?_ | refine And.intro (Fits.of (by omega) (by omega)) ?_)
      exact hJ.next (k + 1) (by omega) (by omega) (by simp [bits, hh]) (by simp)
    · simp
      refine PCallK.intro (PInv.func (ref13_power_ok k (by omega))) ?_
      simp
      refine ⟨by unfold Fits; omega, by unfold Fits; omega, ?_⟩
      exact hJ.next (k + 1) (by omega) (by omega) (by simp [bits, hh]) (by simp)
  · obtain rfl : k = r.n := by omega
    simp [hnl]
    refine hJ.exit ?_
    simp
    exact RetV.refl (by simp [Rp.dullV, hv, hq, Rp.dullS])
end Go.Cw
end

/- The reference's opened: which sets open in some truth. -/
section
set_option maxRecDepth 100000
set_option linter.unusedSimpArgs false
namespace Go.Cw
open Go Go.Proofs

/-- Truth values below a number. -/
def bs (N : Nat) (f : Nat → Bool) : List AVal := (List.range N).map fun i => .bool (f i)
@[simp] theorem bs_length (N : Nat) (f : Nat → Bool) : (bs N f).length = N := by simp [bs]
theorem bs_zero (N : Nat) : List.replicate N (AVal.bool false) = bs N fun _ => false := by
  apply List.ext_getElem (by simp)
  intro i h1 h2; simp [bs]
theorem bs_at {N : Nat} {f : Nat → Bool} {i : Nat} (hi : i < N) : (bs N f)[i]? = some (.bool (f i)) := by simp [bs, hi]
theorem bs_get {N : Nat} {f : Nat → Bool} {i : Nat} (h : i < (bs N f).length) : (bs N f)[i] = .bool (f i) := by simp [bs]
theorem bs_set {N : Nat} {f : Nat → Bool} {i : Nat} (hi : i < N) (b : Bool) : (bs N f).set i (.bool b) = bs N (upd f i b) := by
  apply List.ext_getElem (by simp)
  intro j h1 h2
  simp [bs, List.getElem_set, upd]
  split <;> rename_i h
  · subst h; simp
  · rw [if_neg (fun e => h e.symm)]

namespace Rp
/-- The sets that open in some truth, in order. -/
noncomputable def opL (r : Rp) : List Nat := (List.range (2 ^ r.n)).filter fun s => r.d.truths.any fun t => decide (r.opn t = (s : Int))
end Rp

theorem ref13_opened_ok (r : Rp) (hs : r.Small) (hv : r.Valid) : APure Pg fn_ref13_opened [r.v] (L (r.opL.map fun (i : Nat) => (i : Int))) := by
  have hva : r.v = .agg [L r.d.limits, LP r.d.beside, LP r.d.blows, LR r.rs] := rfl
  have hnl : r.d.limits.length = r.n := rfl
  have hnn : r.d.n = r.n := rfl
  have hn6 : r.n ≤ 6 := hv.d.n6
  have hdv := hv.d
  have hlen := hdv.truths_len
  have hN64 : (2 : Nat) ^ r.n ≤ 2 ^ 6 := Nat.pow_le_pow_right (by omega) hn6
  have e6 : (2 : Nat) ^ 6 = 64 := by decide
  have hpi : (2 : Int) ^ r.n = ((2 ^ r.n : Nat) : Int) := by simp
  obtain ⟨N, hN⟩ : ∃ N : Nat, N = 2 ^ r.n := ⟨_, rfl⟩
  rw [← hN] at hN64 hpi
  have cT := ref05_Truths_ok r.d hs.d hdv
  rw [show r.d.v = .agg [L r.d.limits, LP r.d.beside, LP r.d.blows] from rfl] at cT
  refine ref13_opened.pure (by simp) ?_
  simp
  intro s
  rw [hnl]
  refine PCallK.intro (PInv.func (ref13_power_ok r.n (by omega))) ?_
  simp [hpi]
  intro s3
  refine ⟨⟨by omega, by omega⟩, ?_⟩
  refine PCallK.intro (PInv.func cT) ?_
  simp [bs_zero]
  obtain ⟨g, hg⟩ : ∃ g : Nat → Nat → Bool, g = fun k (i : Nat) => (r.d.truths.take k).any fun t => decide (r.opn t = ((i : Nat) : Int)) := ⟨_, rfl⟩
  refine Lp.intro (σ := Nat) (inv := fun k => k ≤ r.d.truths.length)
    (vw := fun k => [(1, .ptr 1 0 (s+1)), (3, .sl 17 0 (s3+1) N (.ex N)), (4, LLv r.d.truths), (5, .int .i64 k)])
    (hp := fun k => [(1, .row [L r.d.limits, LP r.d.beside, LP r.d.blows, LR r.rs] (s+1)), (17, .row (bs N (g k)) (s3+1))]) (ms := fun k => r.d.truths.length - k) 0 (by simp) (by simp) (by simp [hg]) ?_
  intro k hk J hJ
  by_cases hkc : k < r.d.truths.length
  · obtain ⟨t, ht⟩ : ∃ t, r.d.truths[k] = t := ⟨_, rfl⟩
    obtain ⟨ht1, ht2⟩ := hdv.truth (List.getElem_mem hkc)
    have hR := ref05_Rest_ok' r.d hs.d hdv (c := ofL r.d.truths[k]) (fun j hj => by have := ht2 j hj; omega)
    rw [← ht1, ofL_tab, ht1, ht] at hR
    rw [show r.d.v = .agg [L r.d.limits, LP r.d.beside, LP r.d.blows] from rfl] at hR
    obtain ⟨od, hod⟩ : ∃ od, od = tab r.d.n (r.d.odo (ofL t)) := ⟨_, rfl⟩
    rw [← hod] at hR
    obtain ⟨p, hp⟩ : ∃ p : Nat → Bool, p = fun k => decide (0 < r.d.odo (ofL t) k) := ⟨_, rfl⟩
    have hodl : od.length = r.n := by rw [hod]; simp [hnn]
    simp [hkc, ht]
    refine PCallK.intro (PInv.func hR) ?_
    simp
    refine Lp.intro (σ := Nat) (inv := fun j => j ≤ r.n)
      (vw := fun j => [(1, .ptr 1 0 (s+1)), (3, .sl 17 0 (s3+1) N (.ex N)), (4, LLv r.d.truths), (5, .int .i64 k), (7, L od), (8, .int .i64 (bits p j)), (9, .int .i64 j)])
      (hp := fun _ => [(1, .row [L r.d.limits, LP r.d.beside, LP r.d.blows, LR r.rs] (s+1)), (17, .row (bs N (g k)) (s3+1))]) (ms := fun j => r.n - j) 0 (by simp) (by simp [bits]) (by simp) ?_
    intro j hj J2 hJ2
    by_cases hjc : j < r.n
    · have hjl : j < od.length := by omega
      have hoj : od[j] = r.d.odo (ofL t) j := by subst hod; simp
      have hb := bits_lt p j
      have hp1 := two_pow_pos j
      have hp2 := two_pow_le (show j ≤ 6 by omega)
      have e6' : (2 : Int) ^ 6 = 64 := by decide
      by_cases hpos : 0 < r.d.odo (ofL t) j
      · simp [hodl, hjc, hjl, hoj, hpos]
        refine PCallK.intro (PInv.func (ref13_power_ok j (by omega))) ?_
        simp
        refine ⟨by unfold Fits; omega, by unfold Fits; omega, ?_⟩
        exact hJ2.next (j + 1) (by omega) (by omega) (by simp [bits, hp, hpos]) (by simp)
      · simp [hodl, hjc, hjl, hoj, hpos]
        (repeat first | refine And.intro (by omega) ?_ | refine And.intro (Fits.of (by omega) (by omega)) ?_)
        exact hJ2.next (j + 1) (by omega) (by omega) (by simp [bits, hp, hpos]) (by simp)
    obtain rfl : j = r.n := by omega
    simp [hodl]
    refine hJ2.exit ?_
    have hopn : bits p r.n = r.opn t := by rw [hp]; rfl
    have hopl := r.opn_lt t
    rw [hpi] at hopl
    obtain ⟨x, hx⟩ : ∃ x : Nat, r.opn t = x := ⟨(r.opn t).toNat, by omega⟩
    have hxN : x < N := by omega
    have hgk : g (k + 1) = upd (g k) x true := by
      rw [hg]
      funext i
      unfold upd
      simp only [← List.take_append_getElem hkc, List.any_append, ht, List.any_cons, List.any_nil, Bool.or_false, hx]
      by_cases hi : i = x
      · subst hi; simp
      · rw [if_neg hi]
        have : ¬ ((x : Int) = (i : Int)) := by omega
        simp [this]
    simp [hopn, hx, hxN]
    refine ⟨by omega, by unfold Fits; omega, ?_⟩
    refine hJ.next (k + 1) (by omega) (by omega) (by simp) ?_
    simp [hgk, setRange_one, hxN, bs_set]
  · obtain rfl : k = r.d.truths.length := by omega
    simp
    refine hJ.exit ?_
    simp
    obtain ⟨m, hm⟩ : ∃ m : Nat → List Int, m = fun k => ((List.range k).filter (g r.d.truths.length)).map fun (i : Nat) => (i : Int) := ⟨_, rfl⟩
    have hml : ∀ k, (m k).length ≤ k := fun k => by
      rw [hm]; have := List.length_filter_le (g r.d.truths.length) (List.range k); simp at this ⊢; omega
    have hm0 : m 0 = [] := by rw [hm]; rfl
    refine Lp.intro' (σ := Nat × Nat) (inv := fun x => x.1 ≤ N)
      (vw := fun x => [(3, .sl 17 0 (s3+1) N (.ex N)), (10, gS 1 68 (m x.1).length x.2), (11, .int .i64 x.1)])
      (hp := fun x => [(17, .row (bs N (g r.d.truths.length)) (s3+1)), (68, gO (m x.1).length (ints (m x.1)) x.2)]) (ms := fun x => N - x.1) (0, 0) (by simp) (Sl.wk 10 .es (by simpa using ALe.nils_es) (Sl.refl ⟨rfl, by simp [hm0], by simp [hm0]⟩)) ?_
    rintro ⟨k, st⟩ hk J hJ
    simp at hk
    by_cases hkc : k < N
    · have hmk := hml k
      have hms : m (k + 1) = m k ++ (if g r.d.truths.length k then [(k : Int)] else []) := by
        rw [hm]
        simp only [List.range_succ, List.filter_append, List.map_append]
        congr 1
        by_cases h : g r.d.truths.length k = true
        · rw [if_pos h, List.filter_cons_of_pos h]; rfl
        · rw [if_neg h, List.filter_cons_of_neg h]; rfl
      cases hgk : g r.d.truths.length k
      · rw [hgk] at hms
        simp [hkc, bs_get, hgk]
        (repeat first | refine And.intro (by omega) ?_ | refine And.intro (Fits.of (by omega) (by omega)) ?_)
        exact hJ.next (k + 1, st) (by simp; omega) (by simp; omega) (by simp [hms]) (by simp [hms])
      · rw [hgk] at hms
        simp [hkc, bs_get, hgk]
        intro s4 s5
        refine xApN_gS (cells := ints (m k)) (by simp) (by simp) (by omega) (by omega) ?_
        simp
        (repeat first | refine And.intro (by omega) ?_ | refine And.intro (Fits.of (by omega) (by omega)) ?_)
        exact hJ.next (k + 1, s5 + 1) (by simp; omega) (by simp; omega) (by simp [hms]) (by simp [hms])
    · obtain rfl : k = N := by omega
      simp
      refine hJ.exit ?_
      simp
      refine RetV.le (VLe.gS (cells := ints (m k)) (s := st) (by simp) (by simp)) (RetV.refl ?_)
      have : m k = r.opL.map fun (i : Nat) => (i : Int) := by
        rw [hm, hg]; simp only [List.take_length, hN]; rfl
      rw [← this]
      simp [L]
end Go.Cw
end

/- Which sets sound as was heard, in plain words. -/
section
set_option maxRecDepth 100000
set_option linter.unusedSimpArgs false
namespace Go.Cw
open Go Go.Proofs

namespace Rp
/-- Does a set sound as was heard by the raps of a set? -/
def fits (r : Rp) (q o : Int) : Bool := (List.range r.k).all fun j => !inS q j || ((r.rs[j]?.map fun x => r.hears o x.1.toNat == x.2).getD true)
theorem inS_dl (r : Rp) (x : Fin 64) {i : Nat} (hi : i < r.n) : inS (r.dl x) i = r.hears x.val i := inS_bits _ hi
theorem Valid.seam {r : Rp} (hv : r.Valid) {x : Int × Bool} (hx : x ∈ r.rs) : x.1 = (x.1.toNat : Int) ∧ x.1.toNat < r.n := by
  have hm := hv.sm x hx
  have hn : r.d.n = r.n := rfl
  unfold Drv.Seam at hm
  omega
theorem clo_fits {r : Rp} (hv : r.Valid) (q : Int) (x : Fin 64) : (r.clo q r.k).all (r.okO x) = r.fits q x.val := by
  suffices h : ∀ k, k ≤ r.k → (r.clo q k).all (r.okO x) = (List.range k).all fun j => !inS q j || ((r.rs[j]?.map fun y => r.hears x.val y.1.toNat == y.2).getD true) from h r.k (Nat.le_refl _)
  intro k hk
  induction k with
  | zero => rfl
  | succ k ih =>
    have hkl : k < r.rs.length := hk
    have hs := hv.seam (x := r.rs[k]) (by simp)
    simp only [clo, List.all_append, ih (by omega), List.range_succ, List.getElem?_eq_getElem hkl, List.all_cons, List.all_nil, Bool.and_true, Option.map_some, Option.getD_some]
    cases hq : inS q k
    · simp
    · simp [okO, r.inS_dl x hs.2]
theorem seenF_mem (r : Rp) (l : List (List Int)) (x : Fin 64) : x ∈ r.seenF l ↔ ∃ t ∈ l, r.opF t = x := by
  induction l using list_push_ind with
  | h0 => simp [seenF]
  | h1 l t ih =>
    rw [seenF_push, mem_insK, ih]
    simp only [List.mem_append, List.mem_singleton]
    constructor
    · rintro (⟨t', h1, h2⟩ | h)
      · exact ⟨t', .inl h1, h2⟩
      · exact ⟨t, .inr rfl, h.symm⟩
    · rintro ⟨t', h1 | rfl, h2⟩
      · exact .inl ⟨t', h1, h2⟩
      · exact .inr h2.symm
theorem mem_soundsF {r : Rp} (hv : r.Valid) (x : Fin 64) : x ∈ r.soundsF ↔ ∃ t ∈ r.d.truths, r.opn t = (x.val : Int) := by
  have hn6 : r.n ≤ 6 := hv.d.n6
  unfold soundsF
  rw [(sortF_perm _).mem_iff, seenF_mem]
  constructor
  · rintro ⟨t, h1, rfl⟩; exact ⟨t, h1, (r.opF_val hn6 t).symm⟩
  · rintro ⟨t, h1, h2⟩
    have := r.opF_val hn6 t
    exact ⟨t, h1, Fin.ext (by omega)⟩
theorem mem_opL (r : Rp) (s : Nat) : s ∈ r.opL ↔ s < 2 ^ r.n ∧ ∃ t ∈ r.d.truths, r.opn t = (s : Int) := by
  unfold opL
  simp only [List.mem_filter, List.mem_range, List.any_eq_true, decide_eq_true_eq]
theorem opL_lt (r : Rp) : r.opL.Pairwise (· < ·) := List.Pairwise.filter _ List.pairwise_lt_range
theorem soundsF_lt (r : Rp) : r.soundsF.Pairwise fun a b => a.val < b.val := by
  have h1 := sortF_sorted (r.seenF r.d.truths)
  have h2 : (sortF (r.seenF r.d.truths)).Nodup := (sortF_perm _).nodup_iff.2 (r.seenF_nodup _)
  unfold List.Nodup at h2
  refine List.Pairwise.imp₂ (fun a b h1 h2 => ?_) h1 h2
  have : a.val ≠ b.val := fun e => h2 (Fin.ext e)
  omega
theorem val_lt {r : Rp} (hv : r.Valid) {x : Fin 64} (hx : x ∈ r.soundsF) : (x.val : Int) < 2 ^ r.n := by
  obtain ⟨t, _, h⟩ := (mem_soundsF hv x).1 hx
  have := r.opn_lt t
  omega
theorem sounds_eq {r : Rp} (hv : r.Valid) : r.soundsF.map (fun x => x.val) = r.opL := by
  have hp : (r.soundsF.map (fun x => x.val)).Pairwise (· < ·) := List.pairwise_map.2 r.soundsF_lt
  have hm : ∀ s, s ∈ r.soundsF.map (fun x => x.val) ↔ s ∈ r.opL := fun s => by
    rw [mem_opL, List.mem_map]
    have hn6 : r.n ≤ 6 := hv.d.n6
    have h64 : (2 : Nat) ^ r.n ≤ 2 ^ 6 := Nat.pow_le_pow_right (by omega) hn6
    constructor
    · rintro ⟨x, hx, rfl⟩
      have := val_lt hv hx
      exact ⟨by exact_mod_cast this, (mem_soundsF hv x).1 hx⟩
    · rintro ⟨h1, h2⟩
      exact ⟨⟨s, by omega⟩, (mem_soundsF hv _).2 h2, rfl⟩
  refine List.Perm.eq_of_pairwise (le := (· ≤ ·)) (fun a b _ _ h1 h2 => Nat.le_antisymm h1 h2) (hp.imp fun h => Nat.le_of_lt h) (r.opL_lt.imp fun h => Nat.le_of_lt h) ?_
  refine (List.perm_ext_iff_of_nodup (hp.imp fun h => Nat.ne_of_lt h) (r.opL_lt.imp fun h => Nat.ne_of_lt h)).2 hm
/-- The sets that can be open, by the raps of a set. -/
noncomputable def refL (r : Rp) (q : Int) : List Int := (r.opL.map fun (i : Nat) => (i : Int)).filter (r.fits q)
theorem heard_eq {r : Rp} (hv : r.Valid) (q : Int) : (r.heardF q r.soundsF).map (fun x => (x.val : Int)) = r.refL q := by
  unfold refL heardF
  rw [← sounds_eq hv, List.map_map, List.filter_map]
  congr 1
  refine List.filter_congr fun x _ => ?_
  simp [clo_fits hv]
theorem sets_eq {r : Rp} (hv : r.Valid) : r.setsL = r.refL (2 ^ r.k - 1) := heard_eq hv _
theorem refL_len {r : Rp} (q : Int) : (r.refL q).length ≤ 2 ^ r.n := by
  unfold refL opL
  refine Nat.le_trans (List.length_filter_le _ _) ?_
  rw [List.length_map]
  refine Nat.le_trans (List.length_filter_le _ _) ?_
  simp
theorem refL_mem {r : Rp} {q x : Int} : x ∈ r.refL q ↔ (0 ≤ x ∧ x < 2 ^ r.n) ∧ (∃ t ∈ r.d.truths, r.opn t = x) ∧ r.fits q x = true := by
  unfold refL
  simp only [List.mem_filter, List.mem_map]
  constructor
  · rintro ⟨⟨i, hi, rfl⟩, h2⟩
    rw [mem_opL] at hi
    exact ⟨⟨by omega, by exact_mod_cast hi.1⟩, hi.2, h2⟩
  · rintro ⟨h1, h2, h3⟩
    refine ⟨⟨x.toNat, ?_, by omega⟩, h3⟩
    rw [mem_opL]
    refine ⟨?_, by obtain ⟨t, a, b⟩ := h2; exact ⟨t, a, by omega⟩⟩
    have : ((x.toNat : Nat) : Int) < ((2 ^ r.n : Nat) : Int) := by simp; omega
    exact_mod_cast this
theorem refL_lt (r : Rp) (q : Int) : (r.refL q).Pairwise (· < ·) := by
  unfold refL
  refine List.Pairwise.filter _ (List.pairwise_map.2 (r.opL_lt.imp fun h => by omega))
end Rp
end Go.Cw
end

/- The first of the least, as the reference looks for it; plain words on what is told. -/
section
set_option maxRecDepth 100000
set_option linter.unusedSimpArgs false
namespace Go.Cw
open Go Go.Proofs

theorem sumN_lt {n : Nat} {c d : Nat → Int} (h : ∀ i, i < n → c i ≤ d i) {j : Nat} (hj : j < n) (hjd : c j < d j) : sumN n c < sumN n d := by
  induction n with
  | zero => omega
  | succ n ih =>
    simp only [sumN]
    have h1 := h n (by omega)
    by_cases hjn : j = n
    · subst hjn
      have : sumN j c ≤ sumN j d := by
        have hmono : ∀ m, m ≤ j → sumN m c ≤ sumN m d := fun m => by
          induction m with
          | zero => exact fun _ => Int.le_refl _
          | succ m ihm => intro hm; simp only [sumN]; have := ihm (by omega); have := h m (by omega); omega
        exact hmono j (Nat.le_refl _)
      omega
    · have := ih (fun i hi => h i (by omega)) (by omega)
      omega
theorem inS_high {s : Int} (h0 : 0 ≤ s) {n i : Nat} (h1 : s < 2 ^ n) (hi : n ≤ i) : inS s i = false := by
  unfold inS
  have hp : (2 : Int) ^ n ≤ 2 ^ i := by
    have := Nat.pow_le_pow_right (n := 2) (by omega) hi
    exact_mod_cast this
  rw [Int.ediv_eq_zero_of_lt h0 (by omega)]; rfl
theorem sizeS_n {s : Int} {n : Nat} (hn : n ≤ 60) (h : 0 ≤ s ∧ s < 2 ^ n) : sizeS s = sumN n fun i => if inS s i then 1 else 0 :=
  sumN_ext hn fun i hi => by rw [inS_high h.1 h.2 hi]; rfl
theorem inS_all {n i : Nat} (hi : i < n) : inS (2 ^ n - 1) i = true := by rw [← bits_all1, inS_bits _ hi]
theorem sizeS_lt {s : Int} {n : Nat} (hn : n ≤ 60) (h : 0 ≤ s ∧ s < 2 ^ n) (hne : s ≠ 2 ^ n - 1) : sizeS s < sizeS (2 ^ n - 1) := by
  have hp := two_pow_pos n
  rw [sizeS_n hn h, sizeS_n hn ⟨by omega, by omega⟩]
  obtain ⟨i, hi, hf⟩ : ∃ i, i < n ∧ inS s i = false := by
    refine Classical.byContradiction fun hc => hne ?_
    rw [← bits_inS h, ← bits_all1]
    refine bits_congr fun i hi => ?_
    cases hb : inS s i
    · exact absurd ⟨i, hi, hb⟩ hc
    · rfl
  refine sumN_lt (fun j hj => ?_) hi ?_
  · simp only [inS_all hj]
    split <;> simp
  · simp only [inS_all hi, hf]
    simp

/-- What was found, or another one. -/
def refB (m : Int) (B : Option (Int × Int)) : Int := (B.map Prod.fst).getD m
theorem tab_nat (k : Nat) : tab (k + 1) (fun i => (i : Int)) = tab k (fun i => (i : Int)) ++ [(k : Int)] := tab_succ _ _
theorem bestC_sz {g : Int → Int × Bool} (hg : ∀ y, (g y).1 = sizeS y) (k : Nat) : ∀ b, bestC g (tab k fun i => (i : Int)) = some b → b.2 = sizeS b.1 ∧ 0 ≤ b.1 ∧ b.1 < k ∧ (g b.1).2 = true := by
  induction k with
  | zero => intro b h; simp [tab, bestC] at h
  | succ k ih =>
    intro b h
    rw [tab_nat, bestC_push] at h
    obtain ⟨B, hB⟩ : ∃ B, bestC g (tab k fun i => (i : Int)) = B := ⟨_, rfl⟩
    rw [hB] at h ih
    have keep : B = some b → b.2 = sizeS b.1 ∧ 0 ≤ b.1 ∧ b.1 < ((k + 1 : Nat) : Int) ∧ (g b.1).2 = true := fun e => by
      obtain ⟨h1, h2, h3, h4⟩ := ih b e
      exact ⟨h1, h2, by omega, h4⟩
    have new : (g k).2 = true → some ((k : Int), (g k).1) = some b → b.2 = sizeS b.1 ∧ 0 ≤ b.1 ∧ b.1 < ((k + 1 : Nat) : Int) ∧ (g b.1).2 = true := fun h1 e => by
      cases e
      exact ⟨hg _, by simp, by simp; omega, h1⟩
    unfold betC at h
    by_cases h2 : (g k).2 = true
    · rw [if_pos h2] at h
      cases B with
      | none => exact new h2 h
      | some c =>
        simp only at h
        split at h
        · exact new h2 h
        · exact keep h
    · rw [if_neg h2] at h
      exact keep h
theorem refB_step {g : Int → Int × Bool} (hg : ∀ y, (g y).1 = sizeS y) {n k : Nat} (hn : n ≤ 60) (hk : k < 2 ^ n) :
    refB (2 ^ n - 1) (bestC g (tab (k + 1) fun i => (i : Int))) = if sizeS k < sizeS (refB (2 ^ n - 1) (bestC g (tab k fun i => (i : Int)))) ∧ (g k).2 = true then (k : Int) else refB (2 ^ n - 1) (bestC g (tab k fun i => (i : Int))) := by
  have hkp : (k : Int) < 2 ^ n := by exact_mod_cast hk
  have hi := bestC_sz hg k
  rw [tab_nat, bestC_push]
  obtain ⟨B, hB⟩ : ∃ B, bestC g (tab k fun i => (i : Int)) = B := ⟨_, rfl⟩
  rw [hB] at hi ⊢
  unfold betC
  by_cases h2 : (g k).2 = true
  · rw [if_pos h2]
    cases B with
    | none =>
      simp only [h2, and_true]
      show (k : Int) = if sizeS k < sizeS (2 ^ n - 1) then (k : Int) else 2 ^ n - 1
      by_cases he : (k : Int) = 2 ^ n - 1
      · rw [if_neg (by rw [he]; omega)]; exact he
      · rw [if_pos (sizeS_lt hn ⟨by omega, hkp⟩ he)]
    | some c =>
      obtain ⟨h3, _⟩ := hi c rfl
      simp only [h2, and_true, hg, h3]
      show refB (2 ^ n - 1) (if sizeS k < sizeS c.1 then some ((k : Int), sizeS k) else some c) = if sizeS k < sizeS c.1 then (k : Int) else c.1
      split <;> rfl
  · rw [if_neg h2, if_neg fun h => h2 h.2]
theorem bestC_some {g : Int → Int × Bool} {l : List Int} {x : Int} (hx : x ∈ l) (h : (g x).2 = true) : (bestC g l).isSome = true := by
  induction l using list_push_ind with
  | h0 => simp at hx
  | h1 l y ih =>
    rw [bestC_push]
    unfold betC
    rcases List.mem_append.1 hx with h1 | h1
    · have := ih h1
      obtain ⟨c, hc⟩ := Option.isSome_iff_exists.1 this
      rw [hc]
      simp only
      split
      · split <;> rfl
      · rfl
    · simp only [List.mem_singleton] at h1
      subst h1
      rw [if_pos h]
      cases bestC g l with
      | none => rfl
      | some c => simp only; split <;> rfl

namespace Rp
theorem hears_self {r : Rp} {o : Int} {i : Nat} (hi : i < r.n) (h : inS o i = true) : r.hears o i = true := by
  unfold hears
  exact List.any_eq_true.2 ⟨i, List.mem_range.2 hi, by simp [h, near, nearL]⟩
theorem dull_and {r : Rp} (hn : r.n ≤ 60) (x : Fin 64) {q : Int} (hq : 0 ≤ q ∧ q < 2 ^ r.n) : decide (bitI .and .u64 (r.dl x) q = 0) = !((List.range r.n).any fun s => inS q s && r.hears x.val s) := by
  have h1 : bitI .and .u64 (r.dl x) q = bits (fun i => r.hears x.val i && inS q i) r.n := by
    conv => lhs; rw [← bits_inS hq]
    exact bitsU_and _ _ hn
  rw [h1, Bool.eq_iff_iff]
  simp only [decide_eq_true_eq, Bool.not_eq_true', List.any_eq_false, List.mem_range, bits_zero]
  constructor
  · intro h i hi; have := h i hi; rw [Bool.and_comm]; simpa using this
  · intro h i hi; have := h i hi; rw [Bool.and_comm]; simpa using this
/-- Does no set of some but the empty one sound sharp at all seams of a set? -/
def showsP (r : Rp) (l : List Int) (q : Int) : Bool := l.all fun x => decide (x = 0) || (List.range r.n).any fun s => inS q s && r.hears x s
theorem few_shows {r : Rp} (hn : r.n ≤ 60) (l : List (Fin 64)) {q : Int} (hq : 0 ≤ q ∧ q < 2 ^ r.n) : (fewG r.dl l q).2 = r.showsP (l.map fun x => (x.val : Int)) q := by
  have e : hidP r.dl q = fun x : Fin 64 => !((fun x : Int => decide (x = 0) || (List.range r.n).any fun s => inS q s && r.hears x s) ∘ fun x : Fin 64 => (x.val : Int)) x := funext fun x => by
    simp only [hidP, dull_and hn x hq, Function.comp_apply, Bool.not_or]
  unfold showsP
  show (!l.any (hidP r.dl q)) = _
  rw [e, List.all_map, List.all_eq_not_any_not]
theorem shows_all {r : Rp} {q : Int} : r.showsP (r.refL q) (2 ^ r.n - 1) = true := by
  unfold showsP
  rw [List.all_eq_true]
  intro x hx
  obtain ⟨h1, _⟩ := refL_mem.1 hx
  by_cases h0 : x = 0
  · simp [h0]
  · obtain ⟨i, hi, hb⟩ : ∃ i, i < r.n ∧ inS x i = true := by
      refine Classical.byContradiction fun hc => h0 ?_
      rw [← bits_inS h1]
      refine bits_zero.2 fun i hi => ?_
      cases hb : inS x i
      · rfl
      · exact absurd ⟨i, hi, hb⟩ hc
    simp only [Bool.or_eq_true]
    exact .inr (List.any_eq_true.2 ⟨i, List.mem_range.2 hi, by simp [inS_all hi, hears_self hi hb]⟩)
theorem cnt_eq (r : Rp) (l : List (Fin 64)) {s : Nat} (hs : s < r.n) : cntD r.dl l s = ((l.map fun x => (x.val : Int)).filter fun x => r.hears x s).length := by
  unfold cntD
  rw [List.filter_map, List.length_map]
  congr 1
  refine List.filter_congr fun x _ => ?_
  exact r.inS_dl x hs
theorem rest_sub {r : Rp} {q : Int} (hq : 0 ≤ q ∧ q < 2 ^ r.k) : r.restS q = 2 ^ r.k - 1 - q := by
  have h : ∀ n, bits (fun i => !inS q i) n + bits (inS q) n = 2 ^ n - 1 := fun n => by
    induction n with
    | zero => rfl
    | succ n ih =>
      simp only [bits, Int.pow_succ]
      by_cases h : inS q n = true <;> simp [h] <;> omega
  have := h r.k
  rw [bits_inS hq] at this
  unfold restS
  omega
end Rp
end Go.Cw
end

/- The reference: what of some sets was heard; Sets. -/
section
set_option maxRecDepth 100000
set_option linter.unusedSimpArgs false
namespace Go.Cw
open Go Go.Proofs

theorem ref13_heard_ok (r : Rp) (hs : r.Small) (hv : r.Valid) (l : List Int) (hl : ∀ x ∈ l, 0 ≤ x ∧ x < 2 ^ r.n) (hll : l.length ≤ 1000) (q : Int) (hq : 0 ≤ q ∧ q < 2 ^ 62) :
    APure Pg fn_ref13_heard [r.v, L l, .int .i64 q] (L (l.filter (r.fits q))) := by
  have hva : r.v = .agg [L r.d.limits, LP r.d.beside, LP r.d.blows, LR r.rs] := rfl
  have hkl : r.rs.length = r.k := rfl
  have hn6 : r.n ≤ 6 := hv.d.n6
  have hk10 := hv.k10
  have h2p := two_pow_le (show r.n ≤ 6 by omega)
  have e6 : (2 : Int) ^ 6 = 64 := by decide
  refine ref13_heard.pure (by simp) ?_
  simp
  intro s
  obtain ⟨m, hm⟩ : ∃ m : Nat → List Int, m = fun k => (l.take k).filter (r.fits q) := ⟨_, rfl⟩
  have hml : ∀ k, (m k).length ≤ k := fun k => by
    rw [hm]; have := List.length_filter_le (r.fits q) (l.take k); simp at this ⊢; omega
  have hm0 : m 0 = [] := by rw [hm]; rfl
  refine Lp.intro' (σ := Nat × Nat) (inv := fun x => x.1 ≤ l.length)
    (vw := fun x => [(1, L l), (2, .int .i64 q), (3, .ptr 3 0 (s+1)), (7, gS 1 55 (m x.1).length x.2), (8, .int .i64 x.1)])
    (hp := fun x => [(3, .row [L r.d.limits, LP r.d.beside, LP r.d.blows, LR r.rs] (s+1)), (55, gO (m x.1).length (ints (m x.1)) x.2)]) (ms := fun x => l.length - x.1) (0, 0) (by simp) (Sl.wk 7 .es (by simpa using ALe.nils_es) (Sl.refl ⟨rfl, by simp [hm0], by simp [hm0]⟩)) ?_
  rintro ⟨k, st⟩ hk J hJ
  simp at hk
  by_cases hkc : k < l.length
  · obtain ⟨x, hx⟩ : ∃ x, l[k] = x := ⟨_, rfl⟩
    have hxb := hl x (by rw [← hx]; simp)
    obtain ⟨f, hf⟩ : ∃ f : Nat → Bool, f = fun j => (List.range j).all fun j => !inS q j || ((r.rs[j]?.map fun y => r.hears x y.1.toNat == y.2).getD true) := ⟨_, rfl⟩
    simp [hkc]
    refine Lp.intro (σ := Nat) (inv := fun j => j ≤ r.k)
      (vw := fun j => [(1, L l), (2, .int .i64 q), (3, .ptr 3 0 (s+1)), (7, gS 1 55 (m k).length st), (8, .int .i64 k), (9, .bool (f j)), (10, .int .i64 j)])
      (hp := fun _ => [(3, .row [L r.d.limits, LP r.d.beside, LP r.d.blows, LR r.rs] (s+1)), (55, gO (m k).length (ints (m k)) st)]) (ms := fun j => r.k - j) 0 (by simp) (by simp [hf]) (by simp) ?_
    intro j hj J2 hJ2
    by_cases hjc : j < r.k
    · have hjl : j < r.rs.length := hjc
      obtain ⟨y, hy⟩ : ∃ y, r.rs[j] = y := ⟨_, rfl⟩
      have hgy : r.rs[j]? = some y := by rw [List.getElem?_eq_getElem hjl, hy]
      have hys := hv.seam (x := y) (by rw [← hy]; simp)
      have hfs : f (j + 1) = (f j && (!inS q j || (r.hears x y.1.toNat == y.2))) := by
        rw [hf]
        simp only [List.range_succ, List.all_append, List.all_cons, List.all_nil, Bool.and_true, List.getElem?_eq_getElem hjl, hy, Option.map_some, Option.getD_some]
      have cHas := ref13_Has_ok q hq j (by omega)
      have cH := ref13_Hears_ok' r hs hv x (by omega) y.1.toNat hys.2
      rw [← hys.1, hva] at cH
      simp [hkl, hjc]
      refine PCallK.intro (PInv.func cHas) ?_
      cases hqj : inS q j
      · simp
        (repeat first | refine And.intro (by omega) ?_ | refine And.intro (Fits.of (by omega) (by omega)) ?_)
        exact hJ2.next (j + 1) (by omega) (by omega) (by simp [hfs, hqj]) (by simp)
      · simp [hkc, hx, hjl, hy]
        refine PCallK.intro (PInv.func cH) ?_
        cases hb : r.hears x y.1.toNat <;> cases hy2 : y.2
        all_goals simp [hgy, hy2]
        all_goals (repeat first | refine And.intro (by omega) ?_ | refine And.intro (Fits.of (by omega) (by omega)) ?_)
        all_goals exact hJ2.next (j + 1) (by omega) (by omega) (by simp [hfs, hqj, hb, hy2]) (by simp)
    obtain rfl : j = r.k := by omega
    have hfk : f r.k = r.fits q x := by rw [hf]; rfl
    have hmk := hml k
    have hms : m (k + 1) = m k ++ (if r.fits q x then [x] else []) := by
      rw [hm]
      simp only [← List.take_append_getElem hkc, List.filter_append, hx]
      congr 1
      cases h : r.fits q x
      · rw [List.filter_cons_of_neg (by simp [h])]; rfl
      · rw [List.filter_cons_of_pos h]; rfl
    simp [hkl]
    refine hJ2.exit ?_
    cases hfx : r.fits q x
    · rw [hfx] at hms
      simp [hfk, hfx]
      (repeat first | refine And.intro (by omega) ?_ | refine And.intro (Fits.of (by omega) (by omega)) ?_)
      exact hJ.next (k + 1, st) (by simp; omega) (by simp; omega) (by simp [hms]) (by simp [hms])
    · rw [hfx] at hms
      simp [hfk, hfx, hkc, hx]
      intro s4 s5
      refine xApN_gS (cells := ints (m k)) (by simp) (by simp) (by omega) (by omega) ?_
      simp
      (repeat first | refine And.intro (by omega) ?_ | refine And.intro (Fits.of (by omega) (by omega)) ?_)
      exact hJ.next (k + 1, s5 + 1) (by simp; omega) (by simp; omega) (by simp [hms]) (by simp [hms])
  · obtain rfl : k = l.length := by omega
    simp
    refine hJ.exit ?_
    simp
    refine RetV.le (VLe.gS (cells := ints (m l.length)) (s := st) (by simp) (by simp)) (RetV.refl ?_)
    have : m l.length = l.filter (r.fits q) := by rw [hm]; simp only [List.take_length]
    rw [this]
    simp [L]

theorem ref13_Sets_ok (r : Rp) (hs : r.Small) : APure Pg fn_ref13_Sets [r.v] r.setsV := by
  have cR := ref13_Rap_ok r hs
  have hva : r.v = .agg [L r.d.limits, LP r.d.beside, LP r.d.blows, LR r.rs] := rfl
  rw [hva] at cR
  refine ref13_Sets.pure (by simp) ?_
  simp
  intro s
  refine PCallK.intro (PInv.func cR) ?_
  by_cases hv : ¬ r.Valid
  · simp [hv]
    exact RetV.ale (v' := .tup [L [], .int .i64 1]) (ALe.tup ⟨ALe.nils_vl, ALe.refl _, trivial⟩) (RetV.refl (by simp [Rp.setsV, hv]))
  replace hv := Classical.not_not.1 hv
  have hn6 : r.n ≤ 6 := hv.d.n6
  have hk10 := hv.k10
  have cO := ref13_opened_ok r hs hv
  have cE := ref13_every_ok r (by omega)
  have hp := two_pow_pos r.k
  have h2k := two_pow_le hk10
  have e10 : (2 : Int) ^ 10 = 1024 := by decide
  have hlen : (r.opL.map fun (i : Nat) => (i : Int)).length ≤ 1000 := by
    have : r.opL.length ≤ 2 ^ r.n := by
      unfold Rp.opL; refine Nat.le_trans (List.length_filter_le _ _) ?_; simp
    have h6 : (2 : Nat) ^ r.n ≤ 2 ^ 6 := Nat.pow_le_pow_right (by omega) hn6
    simp; omega
  have cH := ref13_heard_ok r hs hv (r.opL.map fun (i : Nat) => (i : Int)) (fun x hx => by
    obtain ⟨i, hi, rfl⟩ := List.mem_map.1 hx
    have := (r.mem_opL i).1 hi
    exact ⟨by omega, by exact_mod_cast this.1⟩) hlen (2 ^ r.k - 1) (by omega)
  rw [show (r.opL.map fun (i : Nat) => (i : Int)).filter (r.fits (2 ^ r.k - 1)) = r.setsL from (Rp.sets_eq hv).symm] at cH
  rw [hva] at cO cE cH
  have hcs : r.canF = [] ↔ r.setsL = [] := by unfold Rp.setsL; simp
  simp [hv]
  refine PCallK.intro (PInv.func cO) ?_
  simp
  refine PCallK.intro (PInv.func cE) ?_
  simp
  refine PCallK.intro (PInv.func cH) ?_
  by_cases hc : r.setsL = []
  · simp [hc]
    exact RetV.ale (v' := .tup [L [], .int .i64 10]) (ALe.tup ⟨ALe.nils_vl, ALe.refl _, trivial⟩) (RetV.refl (by simp [Rp.setsV, hv, hcs.2 hc]))
  · have hlp := List.length_pos_iff.2 hc
    simp [show ¬ ((r.setsL.length : Int) = 0) by omega, hc]
    exact RetV.refl (by simp [Rp.setsV, hv, mt hcs.1 hc])
end Go.Cw
end

/- The reference: Open, Sound; does a set show that the hull is sound. -/
section
set_option maxRecDepth 100000
set_option linter.unusedSimpArgs false
namespace Go.Cw
open Go Go.Proofs

namespace Rp
/-- In how many of some sets is a seam? -/
def cntS (l : List Int) (i : Nat) : Nat := (l.filter fun x => inS x i).length
theorem cntS_push (l : List Int) (x : Int) (i : Nat) : cntS (l ++ [x]) i = cntS l i + (if inS x i then 1 else 0) := by
  unfold cntS
  rw [List.filter_append, List.length_append]
  congr 1
  cases h : inS x i
  · rw [List.filter_cons_of_neg (by simp [h])]; rfl
  · rw [List.filter_cons_of_pos (by simp [h])]; rfl
theorem cntS_le (l : List Int) (i : Nat) : cntS l i ≤ l.length := List.length_filter_le _ _
theorem cntS_any (l : List (Fin 64)) (i : Nat) : decide (0 < cntS (l.map fun x => (x.val : Int)) i) = anyS l i := by
  unfold cntS anyS
  rw [List.filter_map, List.length_map, Bool.eq_iff_iff, decide_eq_true_eq, List.length_pos_iff, List.any_eq_true]
  constructor
  · intro h
    obtain ⟨x, hx⟩ := List.exists_mem_of_ne_nil _ h
    rw [List.mem_filter] at hx
    exact ⟨x, hx.1, hx.2⟩
  · rintro ⟨x, h1, h2⟩
    exact List.ne_nil_of_mem (List.mem_filter.2 ⟨h1, h2⟩)
theorem cntS_all (l : List (Fin 64)) (i : Nat) : decide (cntS (l.map fun x => (x.val : Int)) i = l.length) = allS l i := by
  unfold cntS allS
  rw [List.filter_map, List.length_map, Bool.eq_iff_iff, decide_eq_true_eq, List.length_filter_eq_length_iff, List.all_eq_true]
  rfl
theorem canF_mem {r : Rp} {x : Fin 64} (h : x ∈ r.canF) : x ∈ r.soundsF := by
  unfold canF heardF at h
  exact (List.mem_filter.1 h).1
theorem anyS_high {r : Rp} (hv : r.Valid) {i : Nat} (hi : r.n ≤ i) : anyS r.canF i = false := by
  unfold anyS
  rw [List.any_eq_false]
  intro x hx
  rw [inS_high (by omega) (val_lt hv (canF_mem hx)) hi]; simp
theorem allS_high {r : Rp} (hv : r.Valid) (hc : r.canF ≠ []) {i : Nat} (hi : r.n ≤ i) : allS r.canF i = false := by
  obtain ⟨x, hx⟩ := List.exists_mem_of_ne_nil _ hc
  unfold allS
  rw [List.all_eq_false]
  refine ⟨x, hx, ?_⟩
  rw [inS_high (by omega) (val_lt hv (canF_mem hx)) hi]; simp
theorem setsL_mem {r : Rp} (hv : r.Valid) {x : Int} (h : x ∈ r.setsL) : 0 ≤ x ∧ x < 2 ^ r.n := by
  rw [sets_eq hv] at h
  exact (refL_mem.1 h).1
theorem setsL_nil (r : Rp) : r.canF = [] ↔ r.setsL = [] := by unfold setsL; simp
theorem setsL_length (r : Rp) : r.setsL.length = r.canF.length := by unfold setsL; simp
theorem setsL_len {r : Rp} (hv : r.Valid) : r.setsL.length ≤ 64 := by
  rw [sets_eq hv]
  have := r.refL_len (2 ^ r.k - 1)
  have h6 : (2 : Nat) ^ r.n ≤ 2 ^ 6 := Nat.pow_le_pow_right (by omega) hv.d.n6
  omega
end Rp

theorem ref13_Open_ok (r : Rp) (hs : r.Small) : APure Pg fn_ref13_Open [r.v] r.openV := by
  have cS := ref13_Sets_ok r hs
  have hva : r.v = .agg [L r.d.limits, LP r.d.beside, LP r.d.blows, LR r.rs] := rfl
  have hnl : r.d.limits.length = r.n := rfl
  rw [hva] at cS
  refine ref13_Open.pure (by simp) ?_
  simp
  intro s
  refine PCallK.intro (PInv.func cS) ?_
  by_cases hv : ¬ r.Valid
  · simp [Rp.setsV, hv]
    exact RetV.refl (by simp [Rp.openV, hv])
  replace hv := Classical.not_not.1 hv
  by_cases hc : r.canF = []
  · simp [Rp.setsV, hv, hc]
    exact RetV.refl (by simp [Rp.openV, hv, hc])
  have hn6 : r.n ≤ 6 := hv.d.n6
  have h2p := two_pow_le (show r.n ≤ 6 by omega)
  have e6 : (2 : Int) ^ 6 = 64 := by decide
  obtain ⟨l, hl⟩ : ∃ l, l = r.setsL := ⟨_, rfl⟩
  have hlm : ∀ x ∈ l, 0 ≤ x ∧ x < 2 ^ r.n := fun x hx => Rp.setsL_mem hv (by rw [← hl]; exact hx)
  have hll : l.length ≤ 64 := by rw [hl]; exact Rp.setsL_len hv
  obtain ⟨p, hp⟩ : ∃ p : Nat → Bool, p = fun i => decide (0 < Rp.cntS l i) := ⟨_, rfl⟩
  obtain ⟨a, ha⟩ : ∃ a : Nat → Bool, a = fun i => decide (Rp.cntS l i = l.length) := ⟨_, rfl⟩
  simp [Rp.setsV, hv, hc, ← hl]
  refine Lp.intro (σ := Nat) (inv := fun k => k ≤ r.n)
    (vw := fun k => [(1, .ptr 1 0 (s+1)), (5, L l), (7, .int .i64 (bits p k)), (8, .int .i64 (bits a k)), (9, .int .i64 k)])
    (hp := fun _ => [(1, .row [L r.d.limits, LP r.d.beside, LP r.d.blows, LR r.rs] (s+1))]) (ms := fun k => r.n - k) 0 (by simp) (by simp [bits]) (by simp) ?_
  intro k hk J hJ
  by_cases hkc : k < r.n
  · have hb1 := bits_lt p k
    have hb2 := bits_lt a k
    have hp1 := two_pow_pos k
    have hp2 := two_pow_le (show k ≤ 6 by omega)
    simp [hnl, hkc]
    refine Lp.intro (σ := Nat) (inv := fun j => j ≤ l.length)
      (vw := fun j => [(1, .ptr 1 0 (s+1)), (5, L l), (7, .int .i64 (bits p k)), (8, .int .i64 (bits a k)), (9, .int .i64 k), (10, .int .i64 (Rp.cntS (l.take j) k)), (11, .int .i64 j)])
      (hp := fun _ => [(1, .row [L r.d.limits, LP r.d.beside, LP r.d.blows, LR r.rs] (s+1))]) (ms := fun j => l.length - j) 0 (by simp) (by simp [Rp.cntS]) (by simp) ?_
    intro j hj J2 hJ2
    by_cases hjc : j < l.length
    · obtain ⟨x, hx⟩ : ∃ x, l[j] = x := ⟨_, rfl⟩
      have hxb := hlm x (by rw [← hx]; simp)
      have hcl := Rp.cntS_le (l.take j) k
      have htk : Rp.cntS (l.take (j + 1)) k = Rp.cntS (l.take j) k + (if inS x k then 1 else 0) := by
        rw [← List.take_append_getElem hjc, hx, Rp.cntS_push]
      simp at hcl
      simp [hjc, hx]
      refine PCallK.intro (PInv.func (ref13_Has_ok x (by omega) k (by omega))) ?_
      cases hxk : inS x k
      · simp
        (repeat first | refine And.intro (by omega) ?_ | refine And.intro (Fits.of (by omega) (by omega)) ?_)
        exact hJ2.next (j + 1) (by omega) (by omega) (by simp [htk, hxk]) (by simp)
      · simp
        (repeat first | refine And.intro (by omega) ?_ | refine And.intro (Fits.of (by omega) (by omega)) ?_)
        exact hJ2.next (j + 1) (by omega) (by omega) (by simp [htk, hxk]) (by simp)
    obtain rfl : j = l.length := by omega
    have hcl := Rp.cntS_le l k
    simp
    refine hJ2.exit ?_
    have fin : ∀ (u w : Int), u = bits p (k + 1) → w = bits a (k + 1) → J .normal (tmV [(1, .ptr 1 0 (s+1)), (5, L l), (7, .int .i64 u), (8, .int .i64 w), (9, .int .i64 ((k + 1 : Nat) : Int))]) [] (hpV [(1, .row [L r.d.limits, LP r.d.beside, LP r.d.blows, LR r.rs] (s+1))]) := fun u w hu hw =>
      hJ.next (k + 1) (by omega) (by omega) (by simp [hu, hw]) (by simp)
    by_cases h0 : 0 < Rp.cntS l k
    · have hp1' : bits p (k + 1) = bits p k + 2 ^ k := by simp [bits, hp, h0]
      by_cases h1 : Rp.cntS l k = l.length
      · have ha1 : bits a (k + 1) = bits a k + 2 ^ k := by simp [bits, ha, h1]
        have h0' : 0 < l.length := by omega
        simp [h0, h1, h0']
        refine PCallK.intro (PInv.func (ref13_power_ok k (by omega))) ?_
        simp
        refine ⟨by unfold Fits; omega, ?_⟩
        refine PCallK.intro (PInv.func (ref13_power_ok k (by omega))) ?_
        simp
        refine ⟨by unfold Fits; omega, by unfold Fits; omega, ?_⟩
        exact hJ.next (k + 1) (by omega) (by omega) (by simp [hp1', ha1]) (by simp)
      · have ha1 : bits a (k + 1) = bits a k := by simp [bits, ha, h1]
        have h1' : ¬ ((Rp.cntS l k : Int) = l.length) := by omega
        simp [h0, h1, h1']
        refine PCallK.intro (PInv.func (ref13_power_ok k (by omega))) ?_
        simp
        refine ⟨by unfold Fits; omega, ?_⟩
        simp [h1]
        (repeat first | refine And.intro (by omega) ?_ | refine And.intro (Fits.of (by omega) (by omega)) ?_)
        exact hJ.next (k + 1) (by omega) (by omega) (by simp [hp1', ha1]) (by simp)
    · have hp1' : bits p (k + 1) = bits p k := by simp [bits, hp, h0]
      by_cases h1 : Rp.cntS l k = l.length
      · exfalso
        have : l = [] := List.eq_nil_of_length_eq_zero (by omega)
        rw [hl] at this
        exact hc ((Rp.setsL_nil r).2 this)
      · have ha1 : bits a (k + 1) = bits a k := by simp [bits, ha, h1]
        have h1' : ¬ ((Rp.cntS l k : Int) = l.length) := by omega
        simp [h0, h1, h1']
        (repeat first | refine And.intro (by omega) ?_ | refine And.intro (Fits.of (by omega) (by omega)) ?_)
        exact hJ.next (k + 1) (by omega) (by omega) (by simp [hp1', ha1]) (by simp)
  · obtain rfl : k = r.n := by omega
    have e1 : bits p r.n = bits (anyS r.canF) 6 := by
      rw [bits_more (n := r.n) (m := 6) hn6 fun i h1 h2 => Rp.anyS_high hv h1]
      refine bits_congr fun i hi => ?_
      rw [hp, hl]; exact Rp.cntS_any _ _
    have e2 : bits a r.n = bits (allS r.canF) 6 := by
      rw [bits_more (n := r.n) (m := 6) hn6 fun i h1 h2 => Rp.allS_high hv hc h1]
      refine bits_congr fun i hi => ?_
      have := Rp.cntS_all r.canF i
      rw [ha, hl]
      rw [← this, Rp.setsL_length]; rfl
    simp [hnl]
    refine hJ.exit ?_
    simp
    exact RetV.refl (by simp [Rp.openV, hv, hc, e1, e2])

theorem ref13_Sound_ok (r : Rp) (hs : r.Small) : APure Pg fn_ref13_Sound [r.v] r.soundV := by
  have cS := ref13_Sets_ok r hs
  have hva : r.v = .agg [L r.d.limits, LP r.d.beside, LP r.d.blows, LR r.rs] := rfl
  rw [hva] at cS
  refine ref13_Sound.pure (by simp) ?_
  simp
  intro s
  refine PCallK.intro (PInv.func cS) ?_
  by_cases hv : ¬ r.Valid
  · simp [Rp.setsV, hv]
    exact RetV.refl (by simp [Rp.soundV, hv])
  replace hv := Classical.not_not.1 hv
  by_cases hc : r.canF = []
  · simp [Rp.setsV, hv, hc]
    exact RetV.refl (by simp [Rp.soundV, hv, hc])
  obtain ⟨x, l, hl⟩ : ∃ x l, r.canF = x :: l := by
    cases h : r.canF with
    | nil => exact absurd h hc
    | cons x l => exact ⟨x, l, rfl⟩
  have hsl : r.setsL = (x.val : Int) :: l.map fun x => (x.val : Int) := by unfold Rp.setsL; rw [hl]; rfl
  by_cases h0 : x.val = 0
  · by_cases hln : l = []
    · simp [Rp.setsV, hv, hc, hsl, h0, hln]
      exact RetV.refl (by simp [Rp.soundV, hv, hl, Rp.soundN, h0, hln])
    · have hlp := List.length_pos_iff.2 hln
      simp [Rp.setsV, hv, hc, hsl, h0, hln, show ¬ ((l.length : Int) + 1 = 1) by omega]
      exact RetV.refl (by simp [Rp.soundV, hv, hl, Rp.soundN, h0, hln])
  · simp [Rp.setsV, hv, hc, hsl, h0]
    exact RetV.refl (by simp [Rp.soundV, hv, hl, Rp.soundN, h0])

theorem ref13_shows_ok (r : Rp) (hs : r.Small) (hv : r.Valid) (l : List Int) (hl : ∀ x ∈ l, 0 ≤ x ∧ x < 2 ^ r.n) (hll : l.length ≤ 1000) (q : Int) (hq : 0 ≤ q ∧ q < 2 ^ 62) :
    APure Pg fn_ref13_shows [r.v, L l, .int .i64 q] (.bool (r.showsP l q)) := by
  have hva : r.v = .agg [L r.d.limits, LP r.d.beside, LP r.d.blows, LR r.rs] := rfl
  have hnl : r.d.limits.length = r.n := rfl
  have hn6 : r.n ≤ 6 := hv.d.n6
  have h2p := two_pow_le (show r.n ≤ 6 by omega)
  have e6 : (2 : Int) ^ 6 = 64 := by decide
  refine ref13_shows.pure (by simp) ?_
  simp
  intro s
  refine Lp.intro (σ := Nat) (inv := fun k => k ≤ l.length ∧ r.showsP (l.take k) q = true)
    (vw := fun k => [(1, L l), (2, .int .i64 q), (3, .ptr 3 0 (s+1)), (7, .int .i64 k)])
    (hp := fun _ => [(3, .row [L r.d.limits, LP r.d.beside, LP r.d.blows, LR r.rs] (s+1))]) (ms := fun k => l.length - k) 0 (by simp [Rp.showsP]) (by simp) (by simp) ?_
  rintro k ⟨hk, inv⟩ J hJ
  by_cases hkc : k < l.length
  · obtain ⟨x, hx⟩ : ∃ x, l[k] = x := ⟨_, rfl⟩
    have hxb := hl x (by rw [← hx]; simp)
    obtain ⟨f, hf⟩ : ∃ f : Nat → Bool, f = fun j => decide (x = 0) || (List.range j).any fun s => inS q s && r.hears x s := ⟨_, rfl⟩
    have hf0 : f 0 = decide (x = 0) := by rw [hf]; simp
    simp [hkc, hx]
    refine Lp.intro (σ := Nat) (inv := fun j => j ≤ r.n)
      (vw := fun j => [(1, L l), (2, .int .i64 q), (3, .ptr 3 0 (s+1)), (7, .int .i64 k), (8, .bool (f j)), (9, .int .i64 j)])
      (hp := fun _ => [(3, .row [L r.d.limits, LP r.d.beside, LP r.d.blows, LR r.rs] (s+1))]) (ms := fun j => r.n - j) 0 (by simp) (by simp [hf0]) (by simp) ?_
    intro j hj J2 hJ2
    by_cases hjc : j < r.n
    · have hfs : f (j + 1) = (f j || (inS q j && r.hears x j)) := by
        rw [hf]
        simp only [List.range_succ, List.any_append, List.any_cons, List.any_nil, Bool.or_false, Bool.or_assoc]
      have cHas := ref13_Has_ok q hq j (by omega)
      have cH := ref13_Hears_ok' r hs hv x (by omega) j hjc
      rw [hva] at cH
      cases hfj : f j
      · simp [hnl, hjc]
        refine PCallK.intro (PInv.func cHas) ?_
        cases hqj : inS q j
        · simp
          (repeat first | refine And.intro (by omega) ?_ | refine And.intro (Fits.of (by omega) (by omega)) ?_)
          exact hJ2.next (j + 1) (by omega) (by omega) (by simp [hfs, hfj, hqj]) (by simp)
        · simp [hkc, hx]
          refine PCallK.intro (PInv.func cH) ?_
          simp
          (repeat first | refine And.intro (by omega) ?_ | refine And.intro (Fits.of (by omega) (by omega)) ?_)
          exact hJ2.next (j + 1) (by omega) (by omega) (by simp [hfs, hfj, hqj]) (by simp)
      · simp [hnl, hjc]
        (repeat first | refine And.intro (by omega) ?_ | refine And.intro (Fits.of (by omega) (by omega)) ?_)
        exact hJ2.next (j + 1) (by omega) (by omega) (by simp [hfs, hfj]) (by simp)
    obtain rfl : j = r.n := by omega
    have hst : r.showsP (l.take (k + 1)) q = f r.n := by
      rw [← List.take_append_getElem hkc, hx]
      unfold Rp.showsP at inv ⊢
      rw [List.all_append, inv, hf]
      simp
    simp [hnl]
    refine hJ2.exit ?_
    cases hfn : f r.n
    · have : r.showsP l q = false := by
        cases h : r.showsP l q
        · rfl
        · rw [hfn] at hst
          unfold Rp.showsP at h hst
          rw [List.all_eq_true] at h
          rw [List.all_eq_false] at hst
          obtain ⟨y, hy, hy2⟩ := hst
          exact absurd (h y (List.mem_of_mem_take hy)) hy2
      simp
      refine hJ.ret ?_
      simp
      exact RetV.refl (by simp [this])
    · simp
      (repeat first | refine And.intro (by omega) ?_ | refine And.intro (Fits.of (by omega) (by omega)) ?_)
      exact hJ.next (k + 1) ⟨by omega, by rw [hst, hfn]⟩ (by omega) (by simp) (by simp)
  · obtain rfl : k = l.length := by omega
    rw [List.take_length] at inv
    simp
    refine hJ.exit ?_
    simp
    exact RetV.refl (by simp [inv])
end Go.Cw
end

/- The reference: Fewest and Next. -/
section
set_option maxRecDepth 100000
set_option linter.unusedSimpArgs false
namespace Go.Cw
open Go Go.Proofs

theorem ref13_Fewest_ok (r : Rp) (hs : r.Small) : APure Pg fn_ref13_Fewest [r.v] r.fewV := by
  have cS := ref13_Sets_ok r hs
  have hva : r.v = .agg [L r.d.limits, LP r.d.beside, LP r.d.blows, LR r.rs] := rfl
  have hnl : r.d.limits.length = r.n := rfl
  rw [hva] at cS
  refine ref13_Fewest.pure (by simp) ?_
  simp
  intro s
  refine PCallK.intro (PInv.func cS) ?_
  by_cases hv : ¬ r.Valid
  · simp [Rp.setsV, hv]
    exact RetV.refl (by simp [Rp.fewV, hv])
  replace hv := Classical.not_not.1 hv
  by_cases hc : r.canF = []
  · simp [Rp.setsV, hv, hc]
    exact RetV.refl (by simp [Rp.fewV, hv, hc])
  have hn6 : r.n ≤ 6 := hv.d.n6
  have h2p := two_pow_le (show r.n ≤ 6 by omega)
  have hpp := two_pow_pos r.n
  have e6 : (2 : Int) ^ 6 = 64 := by decide
  obtain ⟨l, hl⟩ : ∃ l, l = r.setsL := ⟨_, rfl⟩
  have hlm : ∀ x ∈ l, 0 ≤ x ∧ x < 2 ^ r.n := fun x hx => Rp.setsL_mem hv (by rw [← hl]; exact hx)
  have hll : l.length ≤ 64 := by rw [hl]; exact Rp.setsL_len hv
  obtain ⟨N, hN⟩ : ∃ N : Nat, N = 2 ^ r.n := ⟨_, rfl⟩
  have hNi : (N : Int) = 2 ^ r.n := by rw [hN]; simp
  obtain ⟨g, hg⟩ : ∃ g, g = Rp.fewG r.dl r.canF := ⟨_, rfl⟩
  have hg1 : ∀ y, (g y).1 = sizeS y := fun y => by rw [hg]; rfl
  have hg2 : ∀ y, 0 ≤ y ∧ y < 2 ^ r.n → (g y).2 = r.showsP l y := fun y hy => by
    rw [hg, hl]; exact Rp.few_shows (by omega) _ hy
  obtain ⟨b, hb⟩ : ∃ b : Nat → Int, b = fun k => refB (2 ^ r.n - 1) (bestC g (tab k fun i => (i : Int))) := ⟨_, rfl⟩
  have hb0 : b 0 = 2 ^ r.n - 1 := by rw [hb]; simp [tab, bestC, refB]
  have hbs : ∀ k, k < N → b (k + 1) = if sizeS k < sizeS (b k) ∧ r.showsP l k = true then (k : Int) else b k := fun k hk => by
    have := refB_step hg1 (n := r.n) (k := k) (by omega) (by omega)
    rw [hg2 k (by omega)] at this
    rw [hb]; exact this
  have hbb : ∀ k, k ≤ N → 0 ≤ b k ∧ b k < 2 ^ r.n := fun k hk => by
    induction k with
    | zero => rw [hb0]; omega
    | succ k ih =>
      rw [hbs k (by omega)]
      split
      · omega
      · exact ih (by omega)
  simp [Rp.setsV, hv, hc, ← hl, hnl]
  refine PCallK.intro (PInv.func (ref13_power_ok r.n (by omega))) ?_
  simp
  refine ⟨by unfold Fits; omega, ?_⟩
  refine Lp.intro (σ := Nat) (inv := fun k => k ≤ N)
    (vw := fun k => [(1, .ptr 1 0 (s+1)), (5, L l), (7, .int .i64 (b k)), (8, .int .i64 k)])
    (hp := fun _ => [(1, .row [L r.d.limits, LP r.d.beside, LP r.d.blows, LR r.rs] (s+1))]) (ms := fun k => N - k) 0 (by simp) (by simp [hb0]) (by simp) ?_
  intro k hk J hJ
  by_cases hkc : k < N
  · have hki : (k : Int) < 2 ^ r.n := by omega
    have hbk := hbb k (by omega)
    have cSh := ref13_shows_ok r hs hv l hlm (by omega) k (by omega)
    rw [hva] at cSh
    have hst := hbs k hkc
    simp [hnl]
    refine PCallK.intro (PInv.func (ref13_power_ok r.n (by omega))) ?_
    simp [hki]
    refine PCallK.intro (PInv.func (ref13_Size_ok k (by omega))) ?_
    simp
    refine PCallK.intro (PInv.func (ref13_Size_ok (b k) (by omega))) ?_
    by_cases h1 : sizeS k < sizeS (b k)
    · simp [h1]
      refine PCallK.intro (PInv.func cSh) ?_
      cases h2 : r.showsP l k
      · rw [if_neg (by simp [h2])] at hst
        simp
        (repeat first | refine And.intro (by omega) ?_ | refine And.intro (Fits.of (by omega) (by omega)) ?_)
        exact hJ.next (k + 1) (by omega) (by omega) (by simp [hst]) (by simp)
      · rw [if_pos ⟨h1, h2⟩] at hst
        simp
        (repeat first | refine And.intro (by omega) ?_ | refine And.intro (Fits.of (by omega) (by omega)) ?_)
        exact hJ.next (k + 1) (by omega) (by omega) (by simp [hst]) (by simp)
    · rw [if_neg (by simp [h1])] at hst
      simp [h1]
      (repeat first | refine And.intro (by omega) ?_ | refine And.intro (Fits.of (by omega) (by omega)) ?_)
      exact hJ.next (k + 1) (by omega) (by omega) (by simp [hst]) (by simp)
  · obtain rfl : k = N := by omega
    have hbk := hbb k (by omega)
    simp [hnl]
    refine PCallK.intro (PInv.func (ref13_power_ok r.n (by omega))) ?_
    simp [hNi]
    refine hJ.exit ?_
    simp
    refine PCallK.intro (PInv.func (ref13_Size_ok (b k) (by omega))) ?_
    simp
    have hsome : (bestC g (tab k fun i => (i : Int))).isSome = true := by
      refine bestC_some (x := 2 ^ r.n - 1) ?_ ?_
      · have : (2 : Int) ^ r.n - 1 = ((k - 1 : Nat) : Int) := by omega
        rw [this]
        unfold tab
        exact List.mem_map.2 ⟨k - 1, List.mem_range.2 (by omega), rfl⟩
      · rw [hg2 _ (by omega), hl, Rp.sets_eq hv]
        exact Rp.shows_all
    obtain ⟨c, hcc⟩ := Option.isSome_iff_exists.1 hsome
    have hB : r.fewB = some c := by unfold Rp.fewB; rw [← hg, ← hN]; exact hcc
    have hbc : b k = c.1 := by rw [hb]; simp only [hcc]; rfl
    have hcz := (bestC_sz hg1 k c hcc).1
    exact RetV.refl (by simp [Rp.fewV, hv, hc, hB, hbc, hcz])

namespace Rp
/-- What the reference has found. -/
def refN (m : Int) (B : Option (Int × Int)) : Int × Int := B.getD (0, m)
theorem refN_lt (dl : Fin 64 → Int) (l : List (Fin 64)) (k : Nat) : ∀ b, bestC (nextG dl l) (tab k fun i => (i : Int)) = some b → b.2 < l.length ∧ 0 ≤ b.1 ∧ b.1 < k := by
  induction k with
  | zero => intro b h; simp [tab, bestC] at h
  | succ k ih =>
    intro b h
    rw [tab_nat, bestC_push] at h
    obtain ⟨B, hB⟩ : ∃ B, bestC (nextG dl l) (tab k fun i => (i : Int)) = B := ⟨_, rfl⟩
    rw [hB] at h ih
    have keep : B = some b → b.2 < l.length ∧ 0 ≤ b.1 ∧ b.1 < ((k + 1 : Nat) : Int) := fun e => by
      obtain ⟨h1, h2, h3⟩ := ih b e
      exact ⟨h1, h2, by omega⟩
    have new : (nextG dl l k).2 = true → some ((k : Int), (nextG dl l k).1) = some b → b.2 < l.length ∧ 0 ≤ b.1 ∧ b.1 < ((k + 1 : Nat) : Int) := fun h1 e => by
      cases e
      refine ⟨?_, by simp, by simp; omega⟩
      unfold nextG at h1 ⊢
      simp only [decide_eq_true_eq] at h1 ⊢
      omega
    unfold betC at h
    by_cases h2 : (nextG dl l k).2 = true
    · rw [if_pos h2] at h
      cases B with
      | none => exact new h2 h
      | some c =>
        simp only at h
        split at h
        · exact new h2 h
        · exact keep h
    · rw [if_neg h2] at h
      exact keep h
theorem refN_step (dl : Fin 64 → Int) (l : List (Fin 64)) (k : Nat) :
    refN l.length (bestC (nextG dl l) (tab (k + 1) fun i => (i : Int))) = if max (cntD dl l k : Int) (l.length - cntD dl l k) < (refN l.length (bestC (nextG dl l) (tab k fun i => (i : Int)))).2 then ((k : Int), max (cntD dl l k : Int) (l.length - cntD dl l k)) else refN l.length (bestC (nextG dl l) (tab k fun i => (i : Int))) := by
  have hi := refN_lt dl l k
  have hcl : cntD dl l k ≤ l.length := List.length_filter_le _ _
  rw [tab_nat, bestC_push]
  obtain ⟨B, hB⟩ : ∃ B, bestC (nextG dl l) (tab k fun i => (i : Int)) = B := ⟨_, rfl⟩
  rw [hB] at hi ⊢
  have hg1 : (nextG dl l k).1 = max (cntD dl l k : Int) (l.length - cntD dl l k) := rfl
  have hg2 : (nextG dl l k).2 = decide (1 ≤ (cntD dl l k : Int) ∧ (cntD dl l k : Int) ≤ l.length - 1) := rfl
  unfold betC
  by_cases h2 : 1 ≤ (cntD dl l k : Int) ∧ (cntD dl l k : Int) ≤ l.length - 1
  · rw [if_pos (by rw [hg2]; simpa using h2), hg1]
    cases B with
    | none =>
      show ((k : Int), max (cntD dl l k : Int) (l.length - cntD dl l k)) = if max (cntD dl l k : Int) (l.length - cntD dl l k) < (l.length : Int) then _ else _
      rw [if_pos (by omega)]
    | some c =>
      show refN l.length (if max (cntD dl l k : Int) (l.length - cntD dl l k) < c.2 then some ((k : Int), max (cntD dl l k : Int) (l.length - cntD dl l k)) else some c) = if max (cntD dl l k : Int) (l.length - cntD dl l k) < c.2 then _ else c
      split <;> rfl
  · rw [if_neg (by rw [hg2]; simpa using h2)]
    rw [if_neg]
    cases B with
    | none => show ¬ max (cntD dl l k : Int) (l.length - cntD dl l k) < (l.length : Int); omega
    | some c =>
      have := (hi c rfl).1
      show ¬ max (cntD dl l k : Int) (l.length - cntD dl l k) < c.2
      omega
end Rp

theorem ref13_Next_ok (r : Rp) (hs : r.Small) : APure Pg fn_ref13_Next [r.v] r.nextV := by
  have cS := ref13_Sets_ok r hs
  have hva : r.v = .agg [L r.d.limits, LP r.d.beside, LP r.d.blows, LR r.rs] := rfl
  have hnl : r.d.limits.length = r.n := rfl
  rw [hva] at cS
  refine ref13_Next.pure (by simp) ?_
  simp
  intro s
  refine PCallK.intro (PInv.func cS) ?_
  by_cases hv : ¬ r.Valid
  · simp [Rp.setsV, hv]
    exact RetV.refl (by simp [Rp.nextV, hv])
  replace hv := Classical.not_not.1 hv
  by_cases hc : r.canF = []
  · simp [Rp.setsV, hv, hc]
    exact RetV.refl (by simp [Rp.nextV, hv, hc])
  have hn6 : r.n ≤ 6 := hv.d.n6
  have h2p := two_pow_le (show r.n ≤ 6 by omega)
  have e6 : (2 : Int) ^ 6 = 64 := by decide
  obtain ⟨l, hl⟩ : ∃ l, l = r.setsL := ⟨_, rfl⟩
  have hlm : ∀ x ∈ l, 0 ≤ x ∧ x < 2 ^ r.n := fun x hx => Rp.setsL_mem hv (by rw [← hl]; exact hx)
  have hll : l.length ≤ 64 := by rw [hl]; exact Rp.setsL_len hv
  have hlc : l.length = r.canF.length := by rw [hl]; exact r.setsL_length
  have hlp : 0 < l.length := by rw [hlc]; exact List.length_pos_iff.2 hc
  have hlne : l ≠ [] := List.length_pos_iff.1 hlp
  by_cases h1 : l.length = 1
  · have hc1 : r.canF.length = 1 := by omega
    simp [Rp.setsV, hv, hc, ← hl, h1]
    exact RetV.refl (by simp [Rp.nextV, hv, hc, hc1])
  have hc1 : 1 < r.canF.length := by omega
  obtain ⟨b, hb⟩ : ∃ b : Nat → Int × Int, b = fun k => Rp.refN l.length (bestC (Rp.nextG r.dl r.canF) (tab k fun i => (i : Int))) := ⟨_, rfl⟩
  have hb0 : b 0 = (0, (l.length : Int)) := by rw [hb]; simp [tab, bestC, Rp.refN]
  obtain ⟨c, hcd⟩ : ∃ c : Nat → Nat, c = fun k => Rp.cntD r.dl r.canF k := ⟨_, rfl⟩
  have hbs : ∀ k, b (k + 1) = if max (c k : Int) (l.length - c k) < (b k).2 then ((k : Int), max (c k : Int) (l.length - c k)) else b k := fun k => by
    rw [hb, hcd, hlc]; exact Rp.refN_step r.dl r.canF k
  simp [Rp.setsV, hv, hc, ← hl, show ¬ ((l.length : Int) = 1) by omega]
  refine Lp.intro (σ := Nat) (inv := fun k => k ≤ r.n)
    (vw := fun k => [(1, .ptr 1 0 (s+1)), (5, L l), (7, .int .i64 (b k).1), (8, .int .i64 (b k).2), (9, .int .i64 k)])
    (hp := fun _ => [(1, .row [L r.d.limits, LP r.d.beside, LP r.d.blows, LR r.rs] (s+1))]) (ms := fun k => r.n - k) 0 (by simp) (by simp [hb0]) (by simp) ?_
  intro k hk J hJ
  by_cases hkc : k < r.n
  · obtain ⟨m, hm⟩ : ∃ m : Nat → Nat, m = fun j => ((l.take j).filter fun x => r.hears x k).length := ⟨_, rfl⟩
    have hml : ∀ j, m j ≤ j := fun j => by rw [hm]; have := List.length_filter_le (fun x => r.hears x k) (l.take j); simp at this ⊢; omega
    have hmc : m l.length = c k := by
      rw [hm, hcd]; simp only [List.take_length]; rw [hl]; exact (r.cnt_eq r.canF hkc).symm
    have hms : ∀ j x, j < l.length → l[j]? = some x → m (j + 1) = m j + (if r.hears x k then 1 else 0) := fun j x hj hx => by
      rw [hm]
      simp only [List.take_add_one, hx, Option.toList_some, List.filter_append, List.length_append]
      congr 1
      cases h : r.hears x k
      · rw [List.filter_cons_of_neg (by simp [h])]; rfl
      · rw [List.filter_cons_of_pos (by simp [h])]; rfl
    simp [hnl, hkc]
    refine Lp.intro (σ := Nat) (inv := fun j => j ≤ l.length)
      (vw := fun j => [(1, .ptr 1 0 (s+1)), (5, L l), (7, .int .i64 (b k).1), (8, .int .i64 (b k).2), (9, .int .i64 k), (10, .int .i64 (m j)), (11, .int .i64 j)])
      (hp := fun _ => [(1, .row [L r.d.limits, LP r.d.beside, LP r.d.blows, LR r.rs] (s+1))]) (ms := fun j => l.length - j) 0 (by simp) (by simp [hm]) (by simp) ?_
    intro j hj J2 hJ2
    by_cases hjc : j < l.length
    · obtain ⟨x, hx⟩ : ∃ x, l[j] = x := ⟨_, rfl⟩
      have hxb := hlm x (by rw [← hx]; simp)
      have hmj := hms j x hjc (by rw [List.getElem?_eq_getElem hjc, hx])
      have hmle := hml j
      have cH := ref13_Hears_ok' r hs hv x (by omega) k hkc
      rw [hva] at cH
      simp [hjc, hx]
      refine PCallK.intro (PInv.func cH) ?_
      cases hh : r.hears x k
      · simp
        (repeat first | refine And.intro (by omega) ?_ | refine And.intro (Fits.of (by omega) (by omega)) ?_)
        exact hJ2.next (j + 1) (by omega) (by omega) (by simp [hmj, hh]) (by simp)
      · simp
        (repeat first | refine And.intro (by omega) ?_ | refine And.intro (Fits.of (by omega) (by omega)) ?_)
        exact hJ2.next (j + 1) (by omega) (by omega) (by simp [hmj, hh]) (by simp)
    obtain rfl : j = l.length := by omega
    have hmle := hml l.length
    have hst := hbs k
    rw [hmc] at hmle
    simp
    refine hJ2.exit ?_
    by_cases hlt : max (c k : Int) (l.length - c k) < (b k).2
    · rw [if_pos hlt] at hst
      simp [hmc, hlt]
      (repeat first | refine And.intro (by omega) ?_ | refine And.intro (Fits.of (by omega) (by omega)) ?_)
      exact hJ.next (k + 1) (by omega) (by omega) (by simp [hst]) (by simp)
    · rw [if_neg hlt] at hst
      simp [hmc, hlt]
      (repeat first | refine And.intro (by omega) ?_ | refine And.intro (Fits.of (by omega) (by omega)) ?_)
      exact hJ.next (k + 1) (by omega) (by omega) (by simp [hst]) (by simp)
  · obtain rfl : k = r.n := by omega
    simp [hnl]
    refine hJ.exit ?_
    have hBd : r.nextB = bestC (Rp.nextG r.dl r.canF) (tab r.n fun i => (i : Int)) := rfl
    cases hB : r.nextB with
    | none =>
      have hbn : b r.n = (0, (l.length : Int)) := by rw [hb]; simp only; rw [← hBd, hB]; rfl
      simp [hbn]
      exact RetV.refl (by simp [Rp.nextV, hv, hc, hc1, hB])
    | some x =>
      have hbn : b r.n = x := by rw [hb]; simp only; rw [← hBd, hB]; rfl
      have hlt := (Rp.refN_lt r.dl r.canF r.n x (by rw [← hBd, hB])).1
      simp [hbn, show ¬ (x.2 = (l.length : Int)) by omega]
      exact RetV.refl (by simp [Rp.nextV, hv, hc, hc1, hB])
end Go.Cw
end

/- The reference: Wrong, Ints; the laws' own small functions. -/
section
set_option maxRecDepth 100000
set_option linter.unusedSimpArgs false
namespace Go.Cw
open Go Go.Proofs

namespace Rp
theorem opL_all {r : Rp} : ∀ x ∈ (r.opL.map fun (i : Nat) => (i : Int)), 0 ≤ x ∧ x < 2 ^ r.n := fun x hx => by
  obtain ⟨i, hi, rfl⟩ := List.mem_map.1 hx
  have := (r.mem_opL i).1 hi
  exact ⟨by omega, by exact_mod_cast this.1⟩
theorem opL_len {r : Rp} (hv : r.Valid) : (r.opL.map fun (i : Nat) => (i : Int)).length ≤ 1000 := by
  have hn6 : r.n ≤ 6 := hv.d.n6
  have : r.opL.length ≤ 2 ^ r.n := by
    unfold opL; refine Nat.le_trans (List.length_filter_le _ _) ?_; simp
  have h6 : (2 : Nat) ^ r.n ≤ 2 ^ 6 := Nat.pow_le_pow_right (by omega) hn6
  simp; omega
theorem opL_ne {r : Rp} (hv : r.Valid) : r.opL ≠ [] := by
  obtain ⟨t, ht⟩ := List.exists_mem_of_ne_nil _ hv.d.truths_ne
  have h := r.opn_lt t
  refine List.ne_nil_of_mem (a := (r.opn t).toNat) ((r.mem_opL _).2 ⟨?_, t, ht, by omega⟩)
  have : (((r.opn t).toNat : Nat) : Int) < ((2 ^ r.n : Nat) : Int) := by simp; omega
  exact_mod_cast this
theorem inS_zero (i : Nat) : inS 0 i = false := by simp [inS]
theorem fits_zero (r : Rp) (o : Int) : r.fits 0 o = true := by
  unfold fits
  rw [List.all_eq_true]
  intro j _
  simp [inS_zero]
theorem wr_ok {r : Rp} (hv : r.Valid) {q : Int} (hq : 0 ≤ q ∧ q < 2 ^ r.k) : (r.wrG q).2 = decide (r.refL (2 ^ r.k - 1 - q) ≠ []) := by
  have h := heard_eq hv (2 ^ r.k - 1 - q)
  unfold wrG
  simp only [rest_sub hq]
  rw [Bool.eq_iff_iff, decide_eq_true_eq, decide_eq_true_eq, ← h]
  simp [List.length_pos_iff]
end Rp

theorem ref13_Wrong_ok (r : Rp) (hs : r.Small) : APure Pg fn_ref13_Wrong [r.v] r.wrV := by
  have cR := ref13_Rap_ok r hs
  have hva : r.v = .agg [L r.d.limits, LP r.d.beside, LP r.d.blows, LR r.rs] := rfl
  rw [hva] at cR
  refine ref13_Wrong.pure (by simp) ?_
  simp
  intro s
  refine PCallK.intro (PInv.func cR) ?_
  by_cases hv : ¬ r.Valid
  · simp [hv]
    exact RetV.refl (by simp [Rp.wrV, hv])
  replace hv := Classical.not_not.1 hv
  have hk10 := hv.k10
  have hp := two_pow_pos r.k
  have h2k := two_pow_le hk10
  have e10 : (2 : Int) ^ 10 = 1024 := by decide
  have cO := ref13_opened_ok r hs hv
  have cE := ref13_every_ok r (by omega)
  have cH : ∀ q, 0 ≤ q ∧ q < 2 ^ r.k → APure Pg fn_ref13_heard [r.v, L (r.opL.map fun (i : Nat) => (i : Int)), .int .i64 q] (L (r.refL q)) := fun q hq =>
    ref13_heard_ok r hs hv _ Rp.opL_all (Rp.opL_len hv) q (by omega)
  rw [hva] at cO cE cH
  obtain ⟨l, hl⟩ : ∃ l, l = r.opL.map fun (i : Nat) => (i : Int) := ⟨_, rfl⟩
  rw [← hl] at cO cH
  obtain ⟨g, hg⟩ : ∃ g, g = r.wrG := ⟨_, rfl⟩
  have hg1 : ∀ y, (g y).1 = sizeS y := fun y => by rw [hg]; rfl
  have hg2 : ∀ y, 0 ≤ y ∧ y < 2 ^ r.k → (g y).2 = decide (r.refL (2 ^ r.k - 1 - y) ≠ []) := fun y hy => by rw [hg]; exact Rp.wr_ok hv hy
  obtain ⟨N, hN⟩ : ∃ N : Nat, N = 2 ^ r.k := ⟨_, rfl⟩
  have hNi : (N : Int) = 2 ^ r.k := by rw [hN]; simp
  simp [hv]
  refine PCallK.intro (PInv.func cO) ?_
  simp
  refine PCallK.intro (PInv.func cE) ?_
  simp
  refine PCallK.intro (PInv.func (cH (2 ^ r.k - 1) (by omega))) ?_
  by_cases h0 : r.refL (2 ^ r.k - 1) ≠ []
  · have hlp := List.length_pos_iff.2 h0
    have hz : (g 0).2 = true := by rw [hg2 0 (by omega)]; simp [h0]
    have hB : ∃ c, r.wrB = some c ∧ c.1 = 0 := by
      have hall : ∀ k, 1 ≤ k → k ≤ N → ∃ c, bestC g (tab k fun i => (i : Int)) = some c ∧ c.1 = 0 := fun k h1 hk => by
        induction k with
        | zero => omega
        | succ k ih =>
          rw [tab_nat, bestC_push]
          by_cases hk0 : k = 0
          · subst hk0
            refine ⟨(0, (g 0).1), ?_, rfl⟩
            simp [tab, bestC, betC, hz]
          · obtain ⟨c, hc, hc0⟩ := ih (by omega) (by omega)
            have hcz := (bestC_sz hg1 k c hc).1
            refine ⟨c, ?_, hc0⟩
            rw [hc]
            unfold betC
            simp only [hg1]
            have hz0 : sizeS 0 = 0 := by
              rw [sizeS_n (n := 0) (by omega) ⟨by omega, by decide⟩]; rfl
            have hge : 0 ≤ sizeS k := sumN_nonneg fun j _ => by split <;> omega
            rw [hcz, hc0, hz0, if_neg (show ¬ sizeS k < 0 by omega)]
            simp
      have := hall N (by omega) (Nat.le_refl _)
      unfold Rp.wrB
      rw [← hg, ← hN]; exact this
    obtain ⟨c, hB, hc0⟩ := hB
    simp [hlp]
    exact RetV.refl (by simp [Rp.wrV, hv, hB, hc0])
  replace h0 : r.refL (2 ^ r.k - 1) = [] := Classical.not_not.1 h0
  obtain ⟨b, hb⟩ : ∃ b : Nat → Int, b = fun k => refB (2 ^ r.k - 1) (bestC g (tab k fun i => (i : Int))) := ⟨_, rfl⟩
  have hb0 : b 0 = 2 ^ r.k - 1 := by rw [hb]; simp [tab, bestC, refB]
  have hbs : ∀ k, k < N → b (k + 1) = if sizeS k < sizeS (b k) ∧ r.refL (2 ^ r.k - 1 - k) ≠ [] then (k : Int) else b k := fun k hk => by
    have := refB_step hg1 (n := r.k) (k := k) (by omega) (by omega)
    rw [hg2 k (by omega)] at this
    simp only [decide_eq_true_eq] at this
    rw [hb]; exact this
  have hbb : ∀ k, k ≤ N → 0 ≤ b k ∧ b k < 2 ^ r.k := fun k hk => by
    induction k with
    | zero => rw [hb0]; omega
    | succ k ih =>
      rw [hbs k (by omega)]
      split
      · omega
      · exact ih (by omega)
  simp [h0]
  refine Lp.intro (σ := Nat) (inv := fun k => k ≤ N)
    (vw := fun k => [(1, .ptr 1 0 (s+1)), (4, L l), (5, .int .i64 (b k)), (6, .int .i64 k)])
    (hp := fun _ => [(1, .row [L r.d.limits, LP r.d.beside, LP r.d.blows, LR r.rs] (s+1))]) (ms := fun k => N - k) 0 (by simp) (by simp [hb0]) (by simp) ?_
  intro k hk J hJ
  by_cases hkc : k < N
  · have hki : (k : Int) < 2 ^ r.k := by omega
    have hki' : (k : Int) ≤ 2 ^ r.k - 1 := by omega
    have hbk := hbb k (by omega)
    have hst := hbs k hkc
    simp
    refine PCallK.intro (PInv.func cE) ?_
    simp [hki']
    refine PCallK.intro (PInv.func (ref13_Size_ok k (by omega))) ?_
    simp
    refine PCallK.intro (PInv.func (ref13_Size_ok (b k) (by omega))) ?_
    by_cases h1 : sizeS k < sizeS (b k)
    · simp [h1]
      refine PCallK.intro (PInv.func cE) ?_
      simp
      refine ⟨by unfold Fits; omega, ?_⟩
      refine PCallK.intro (PInv.func (cH (2 ^ r.k - 1 - k) (by omega))) ?_
      by_cases h2 : r.refL (2 ^ r.k - 1 - k) = []
      · rw [if_neg (by simp [h2])] at hst
        simp [h2]
        (repeat first | refine And.intro (by omega) ?_ | refine And.intro (Fits.of (by omega) (by omega)) ?_)
        exact hJ.next (k + 1) (by omega) (by omega) (by simp [hst]) (by simp)
      · rw [if_pos ⟨h1, h2⟩] at hst
        have hlp := List.length_pos_iff.2 h2
        simp [hlp]
        (repeat first | refine And.intro (by omega) ?_ | refine And.intro (Fits.of (by omega) (by omega)) ?_)
        exact hJ.next (k + 1) (by omega) (by omega) (by simp [hst]) (by simp)
    · rw [if_neg (by simp [h1])] at hst
      simp [h1]
      (repeat first | refine And.intro (by omega) ?_ | refine And.intro (Fits.of (by omega) (by omega)) ?_)
      exact hJ.next (k + 1) (by omega) (by omega) (by simp [hst]) (by simp)
  · obtain rfl : k = N := by omega
    have hbk := hbb k (by omega)
    simp
    refine PCallK.intro (PInv.func cE) ?_
    simp [show ¬ ((k : Int) ≤ 2 ^ r.k - 1) by omega]
    refine hJ.exit ?_
    simp
    have hsome : (bestC g (tab k fun i => (i : Int))).isSome = true := by
      refine bestC_some (x := 2 ^ r.k - 1) ?_ ?_
      · have : (2 : Int) ^ r.k - 1 = ((k - 1 : Nat) : Int) := by omega
        rw [this]
        unfold tab
        exact List.mem_map.2 ⟨k - 1, List.mem_range.2 (by omega), rfl⟩
      · rw [hg2 _ (by omega), decide_eq_true_eq]
        obtain ⟨i, hi⟩ := List.exists_mem_of_ne_nil _ (Rp.opL_ne hv)
        refine List.ne_nil_of_mem (a := (i : Int)) ?_
        unfold Rp.refL
        rw [show (2 : Int) ^ r.k - 1 - (2 ^ r.k - 1) = 0 by omega]
        exact List.mem_filter.2 ⟨List.mem_map.2 ⟨i, hi, rfl⟩, r.fits_zero _⟩
    obtain ⟨c, hcc⟩ := Option.isSome_iff_exists.1 hsome
    have hB : r.wrB = some c := by unfold Rp.wrB; rw [← hg, ← hN]; exact hcc
    have hbc : b k = c.1 := by rw [hb]; simp only [hcc]; rfl
    have hcz := bestC_sz hg1 k c hcc
    have hc0 : ¬ c.1 = 0 := fun e => by
      have h3 := hcz.2.2.2
      rw [hg2 _ (by omega), e] at h3
      simp [h0] at h3
    exact RetV.refl (by simp [Rp.wrV, hv, hB, hbc, hc0])

theorem ref13_Ints_ok (a b : List Int) (ha : a.length ≤ 100000) (hb : b.length ≤ 100000) : APure Pg fn_ref13_Ints [L a, L b] (.bool (decide (a = b))) := by
  refine ref13_Ints.pure (by simp) ?_
  simp
  refine FCall.pure (PInv.func (ref05_Ints_ok a b ha hb)) ?_
  simp
  exact RetV.refl rfl
theorem law13_ints_ok (a b : List Int) (ha : a.length ≤ 100000) (hb : b.length ≤ 100000) : APure Pg fn_law13_ints [L a, L b] (.bool (decide (a = b))) := by
  refine law13_ints.pure (by simp) ?_
  simp
  refine FCall.pure (PInv.func (ref13_Ints_ok a b ha hb)) ?_
  simp
  exact RetV.refl rfl
theorem law13_find_ok (a : Int) (b : Bool) : APure Pg fn_law13_find [.int .i64 a, .bool b] (.agg [.int .i64 a, .bool b]) := by
  refine law13_find.pure (by simp) ?_
  simp
  intro s
  exact RetV.refl rfl
theorem law13_span_ok (a b : Int) : APure Pg fn_law13_span [.int .i64 a, .int .i64 b] (SP2 (a, b)) := by
  refine law13_span.pure (by simp) ?_
  simp
  intro s
  exact RetV.refl (by simp [SP2])
/-- Is there far too much of something? -/
def Rp.longB (r : Rp) : Bool := decide ¬ (r.d.limits.length ≤ 40 ∧ r.d.beside.length ≤ 40 ∧ r.d.blows.length ≤ 40 ∧ r.rs.length ≤ 40)
theorem Rp.longB_iff {r : Rp} : r.longB = false ↔ r.Small := by
  unfold Rp.longB
  simp only [decide_eq_false_iff_not, Classical.not_not]
  exact ⟨fun ⟨a, b, c, d⟩ => ⟨⟨a, b, c⟩, d⟩, fun h => ⟨h.d.l, h.d.p, h.d.b, h.k⟩⟩
theorem law13_long_ok (r : Rp) : APure Pg fn_law13_long [r.v] (.bool r.longB) := by
  refine law13_long.pure (by simp) ?_
  simp
  intro s
  refine RetV.refl ?_
  unfold Rp.longB
  congr 2
  rw [Bool.eq_iff_iff]
  simp
  omega
end Go.Cw
end

/- What the document fixes of its example is met. -/
section
set_option maxRecDepth 100000
set_option linter.unusedSimpArgs false
namespace Go.Cw
open Go Go.Proofs

namespace Drv
def runLs (d : Drv) (order : List Nat) : Nat → List Int → Option (List Nat × List Int)
  | 0, _ => none
  | f + 1, l => match d.firstCan order (ofL l) with
    | none => some ([], l)
    | some i => match runLs d order f (tab d.n (d.fire i (ofL l))) with
      | some (all, l') => some (i :: all, l')
      | none => none

theorem fire_tab {d : Drv} (hv : d.Valid) {i : Nat} (hi : i < d.n) {l : List Int} (hl : l.length = d.n) : ofL (tab d.n (d.fire i (ofL l))) = d.fire i (ofL l) := by
  funext j
  by_cases hj : j < d.n
  · simp [ofL, hj]
  · rw [ofL_none _ (by simp; omega)]
    unfold fire
    rw [ofL_none l (by omega), cnt_none hv i (by omega), if_neg (by omega)]
    rfl

theorem runLs_ok {d : Drv} (hv : d.Valid) {order : List Nat} (ho : ∀ i ∈ order, i < d.n) : ∀ {f : Nat} {l l' : List Int} {all : List Nat}, l.length = d.n → d.runLs order f l = some (all, l') → d.Runs order (ofL l) all (ofL l') ∧ l'.length = d.n
  | 0, _, _, _, _, h => by simp [runLs] at h
  | f + 1, l, l', all, hl, h => by
    simp only [runLs] at h
    split at h
    · rename_i hf
      simp only [Option.some.injEq, Prod.mk.injEq] at h
      obtain ⟨rfl, rfl⟩ := h
      exact ⟨.stop hf, hl⟩
    · rename_i i hf
      split at h
      · rename_i all' l'' hr
        simp only [Option.some.injEq, Prod.mk.injEq] at h
        obtain ⟨rfl, rfl⟩ := h
        obtain ⟨h1, h2⟩ := runLs_ok hv ho (by simp) hr
        rw [fire_tab hv (ho i (firstCan_some hf).1) hl] at h1
        exact ⟨.step hf h1, h2⟩
      · cases h

theorem run_of {d : Drv} (hv : d.Valid) {f : Nat} {l l' : List Int} {all : List Nat} (hl : l.length = d.n) (h : d.runLs (List.range d.n) f l = some (all, l')) : d.left (ofL l) = ofL l' ∧ d.odo (ofL l) = times all := by
  have r := (runLs_ok hv (by simp) hl h).1
  unfold left odo
  rw [r.eq]
  exact ⟨rfl, rfl⟩
end Drv

/-- The drive of the document's example, and a rap of it. -/
def smd : Drv := ⟨[3, 3, 3, 3], [(0, 1), (1, 2), (2, 3)], [(2, 3), (0, 0), (0, 0), (1, 3)]⟩
def smr (rs : List (Int × Bool)) : Rp := ⟨smd, rs⟩
theorem smd_valid : smd.Valid := by
  refine ⟨by decide, by decide, by decide, fun i p hp => ?_, fun i l s hl hs => ?_⟩
  · match i with
    | 0 =>
      simp [smd] at hp
      subst hp
      refine ⟨by decide, by decide, by decide, fun k hk => absurd hk (by omega)⟩
    | 1 =>
      simp [smd] at hp
      subst hp
      refine ⟨by decide, by decide, by decide, fun k hk => ?_⟩
      obtain rfl : k = 0 := by omega
      decide
    | 2 =>
      simp [smd] at hp
      subst hp
      refine ⟨by decide, by decide, by decide, fun k hk => ?_⟩
      rcases (show k = 0 ∨ k = 1 by omega) with rfl | rfl <;> decide
    | i + 3 => simp [smd] at hp
  · match i with
    | 0 => simp [smd] at hl hs; subst hl hs; decide
    | 1 => simp [smd] at hl hs; subst hl hs; decide
    | 2 => simp [smd] at hl hs; subst hl hs; decide
    | 3 => simp [smd] at hl hs; subst hl hs; decide
    | i + 4 => simp [smd] at hl
theorem smr_small (rs : List (Int × Bool)) (h : rs.length ≤ 10) : (smr rs).Small := ⟨⟨by simp [smr, smd], by simp [smr, smd], by simp [smr, smd]⟩, by simp [smr]; omega⟩
theorem smr_valid (rs : List (Int × Bool)) (h : rs.length ≤ 10 ∧ ∀ x ∈ rs, 0 ≤ x.1 ∧ x.1 < 4) : (smr rs).Valid := ⟨smd_valid, h.1, fun x hx => h.2 x hx⟩
theorem smd_truths : smd.truths = [[2, 0, 0, 1], [2, 0, 0, 2], [2, 0, 0, 3], [3, 0, 0, 1], [3, 0, 0, 2], [3, 0, 0, 3]] := by decide
theorem smr_opn (rs : List (Int × Bool)) {l l' : List Int} {all : List Nat} (hl : l.length = 4) (h : smd.runLs [0, 1, 2, 3] 60 l = some (all, l')) : (smr rs).opn l = bits (fun k => decide (0 < times all k)) 4 := by
  have e := (Drv.run_of smd_valid (f := 60) hl h).2
  unfold Rp.opn
  show bits (fun k => decide (0 < smd.odo (ofL l) k)) 4 = _
  rw [e]
theorem smr_opL (rs : List (Int × Bool)) : (smr rs).opL = [0, 1, 8, 9] := by
  have e1 : (smr rs).opn [2, 0, 0, 1] = 0 := smr_opn rs (all := []) (l' := [2, 0, 0, 1]) rfl (by decide)
  have e2 : (smr rs).opn [2, 0, 0, 2] = 0 := smr_opn rs (all := []) (l' := [2, 0, 0, 2]) rfl (by decide)
  have e3 : (smr rs).opn [2, 0, 0, 3] = 8 := smr_opn rs (all := [3]) (l' := [2, 0, 1, 0]) rfl (by decide)
  have e4 : (smr rs).opn [3, 0, 0, 1] = 1 := smr_opn rs (all := [0]) (l' := [0, 1, 0, 1]) rfl (by decide)
  have e5 : (smr rs).opn [3, 0, 0, 2] = 1 := smr_opn rs (all := [0]) (l' := [0, 1, 0, 2]) rfl (by decide)
  have e6 : (smr rs).opn [3, 0, 0, 3] = 9 := smr_opn rs (all := [0, 3]) (l' := [0, 1, 1, 0]) rfl (by decide)
  unfold Rp.opL
  have : (fun s : Nat => (smr rs).d.truths.any fun t => decide ((smr rs).opn t = (s : Int))) = fun s : Nat => decide ((0 : Int) = s) || decide ((8 : Int) = s) || decide ((1 : Int) = s) || decide ((9 : Int) = s) := by
    funext s
    show (smd.truths.any fun t => decide ((smr rs).opn t = (s : Int))) = _
    rw [smd_truths]
    simp only [List.any_cons, List.any_nil, e1, e2, e3, e4, e5, e6, Bool.or_false]
    cases decide ((0 : Int) = s) <;> cases decide ((8 : Int) = s) <;> cases decide ((1 : Int) = s) <;> cases decide ((9 : Int) = s) <;> rfl
  rw [this]
  show (List.range (2 ^ smd.n)).filter _ = _
  decide
theorem smr_sounds (rs : List (Int × Bool)) (h : rs.length ≤ 10 ∧ ∀ x ∈ rs, 0 ≤ x.1 ∧ x.1 < 4) : (smr rs).soundsF = [0, 1, 8, 9] := by
  have e := Rp.sounds_eq (smr_valid rs h)
  rw [smr_opL] at e
  have e2 : ([0, 1, 8, 9] : List (Fin 64)).map (fun x => x.val) = [0, 1, 8, 9] := rfl
  rw [← e2] at e
  exact (List.map_inj_right (fun x y h => Fin.ext h)).1 e
theorem smr_can (rs : List (Int × Bool)) (h : rs.length ≤ 10 ∧ ∀ x ∈ rs, 0 ≤ x.1 ∧ x.1 < 4) (l : List (Fin 64)) (hl : (smr rs).heardF (2 ^ (smr rs).k - 1) [0, 1, 8, 9] = l) : (smr rs).canF = l := by
  unfold Rp.canF
  rw [smr_sounds rs h, hl]
theorem smr_dull (q w : Int) (hq : 0 ≤ q ∧ q < 16) (hw : (smr []).dullS q = w) : (smr []).dullV q = .tup [.int .i64 w, .int .i64 0] := by
  unfold Rp.dullV
  rw [if_pos (smr_valid [] (by decide)), if_pos (show 0 ≤ q ∧ q < 2 ^ (smr []).n from hq), hw]
section
variable (rs : List (Int × Bool)) (h : rs.length ≤ 10 ∧ ∀ x ∈ rs, 0 ≤ x.1 ∧ x.1 < 4) {l : List (Fin 64)} (hl : (smr rs).heardF (2 ^ (smr rs).k - 1) [0, 1, 8, 9] = l)
include h hl
theorem smr_sets (hne : l ≠ []) (m : List Int) (hm : l.map (fun x => (x.val : Int)) = m) : (smr rs).setsV = .tup [L m, .int .i64 0] := by
  unfold Rp.setsV Rp.setsL
  rw [smr_can rs h l hl, if_pos (smr_valid rs h), if_neg hne, hm]
theorem smr_open (hne : l ≠ []) (a b : Int) (ha : bits (anyS l) 6 = a) (hb : bits (allS l) 6 = b) : (smr rs).openV = .tup [.int .i64 a, .int .i64 b, .int .i64 0] := by
  unfold Rp.openV
  rw [smr_can rs h l hl, if_pos (smr_valid rs h), if_neg hne, ha, hb]
theorem smr_sound (hne : l ≠ []) (a : Int) (ha : Rp.soundN l = a) : (smr rs).soundV = .tup [.int .i64 a, .int .i64 0] := by
  unfold Rp.soundV
  rw [smr_can rs h l hl, if_pos (smr_valid rs h), if_neg hne, ha]
theorem smr_few (hne : l ≠ []) (b : Int × Int) (hb : bestC (Rp.fewG (smr rs).dl l) (tab (2 ^ (smr rs).n) fun i => (i : Int)) = some b) : (smr rs).fewV = .tup [.int .i64 b.2, .int .i64 b.1, .int .i64 0] := by
  unfold Rp.fewV Rp.fewB
  rw [smr_can rs h l hl, if_pos (smr_valid rs h), if_neg hne, hb]
theorem smr_next (hne : l ≠ []) (h1 : ¬ l.length ≤ 1) (b : Int × Int) (hb : bestC (Rp.nextG (smr rs).dl l) (tab (smr rs).n fun i => (i : Int)) = some b) : (smr rs).nextV = .tup [.int .i64 b.1, .int .i64 b.2, .int .i64 0] := by
  unfold Rp.nextV Rp.nextB
  rw [smr_can rs h l hl, if_pos (smr_valid rs h), if_neg hne, if_neg h1, hb]
theorem smr_next1 (hne : l ≠ []) (h1 : l.length ≤ 1) : (smr rs).nextV = .tup [.int .i64 0, .int .i64 0, .int .i64 11] := by
  unfold Rp.nextV
  rw [smr_can rs h l hl, if_pos (smr_valid rs h), if_neg hne, if_pos h1]
theorem smr_clash (he : l = []) : (smr rs).setsV = .tup [L [], .int .i64 10] := by
  unfold Rp.setsV
  rw [smr_can rs h l hl, if_pos (smr_valid rs h), if_pos he]
omit hl in
theorem smr_wrong (b : Int × Int) (hb : bestC (fun q => (sizeS q, decide (0 < (((smr rs).heardF ((smr rs).restS q) [0, 1, 8, 9]).length : Int)))) (tab (2 ^ (smr rs).k) fun i => (i : Int)) = some b) : (smr rs).wrV = if b.1 = 0 then .tup [.int .i64 0, .int .i64 4] else .tup [.int .i64 b.1, .int .i64 0] := by
  unfold Rp.wrV Rp.wrB Rp.wrG
  rw [smr_sounds rs h, if_pos (smr_valid rs h), hb]
end

theorem law13_sample_ok (rs : List (Int × Bool)) : APure Pg fn_law13_sample [LR rs] (smr rs).v := by
  refine law13_sample.pure (by simp) ?_
  simp
  intro s1 s2 s3
  refine PCallK.intro (PInv.func (law13_span_ok _ _)) ?_
  simp [SP2]
  refine PCallK.intro (PInv.func (law13_span_ok _ _)) ?_
  simp [SP2]
  refine PCallK.intro (PInv.func (law13_span_ok _ _)) ?_
  simp [SP2]
  refine PCallK.intro (PInv.func (law13_span_ok _ _)) ?_
  simp [SP2]
  intro s4
  refine RetV.frz 3 rfl (RetV.frz 7 rfl (RetV.frz 12 rfl (RetV.refl ?_)))
  simp [smr, smd, L, LP, prs]
theorem law13_sample_nil : PInv Pg (.func (.func fn_law13_sample) [] []) [.nils] (smr []).v := fun h =>
  AInvoke.ale (args' := [LR []]) (ALe.refl _) ⟨ALe.nils_vl, trivial⟩ (PInv.func (first := []) (cap := []) (args := [LR []]) (law13_sample_ok []) h)

theorem law13_alive_ok : APure Pg fn_law13_alive [] (.bool true) := by
  refine law13_alive.pure (by simp) ?_
  simp
  refine FCall.pure law13_sample_nil ?_
  simp
  refine PCallK.intro (PInv.func (rap_Dull_ok (smr []) (smr_small _ (by decide)) 9)) ?_
  rw [smr_dull 9 15 (by decide) (by decide +kernel)]
  simp
  refine FCall.pure law13_sample_nil ?_
  simp
  refine PCallK.intro (PInv.func (rap_Sets_ok (smr []) (smr_small _ (by decide)))) ?_
  rw [smr_sets [] (by decide) (l := [0, 1, 8, 9]) (by decide +kernel) (by decide) [0, 1, 8, 9] (by decide)]
  simp
  refine FCall.pure law13_sample_nil ?_
  simp
  refine PCallK.intro (PInv.func (rap_Open_ok (smr []) (smr_small _ (by decide)))) ?_
  rw [smr_open [] (by decide) (l := [0, 1, 8, 9]) (by decide +kernel) (by decide) 9 0 (by decide +kernel) (by decide +kernel)]
  simp
  refine PCallK.intro (PInv.func (law13_find_ok _ _)) ?_
  simp
  refine PCallK.intro (PInv.func (law13_find_ok _ _)) ?_
  simp
  intro s37
  refine FCall.frz1 37 rfl (v := (smr [(0, false), (3, false)]).v) ?_ trivial ?_
  · have := PInv.func (first := []) (cap := []) (args := [LR [(0, false), (3, false)]]) (law13_sample_ok [(0, false), (3, false)])
    simpa [LR, rfs, fl, rfC] using this
  simp
  refine PCallK.intro (PInv.func (rap_Sound_ok (smr [(0, false), (3, false)]) (smr_small _ (by decide)))) ?_
  rw [smr_sound [(0, false), (3, false)] (by decide) (l := [0]) (by decide +kernel) (by decide) 2 (by decide +kernel)]
  simp
  refine FCall.pure law13_sample_nil ?_
  simp
  refine PCallK.intro (PInv.func (rap_Fewest_ok (smr []) (smr_small _ (by decide)))) ?_
  rw [smr_few [] (by decide) (l := [0, 1, 8, 9]) (by decide +kernel) (by decide) (5, 2) (by decide +kernel)]
  simp
  refine FCall.pure law13_sample_nil ?_
  simp
  refine PCallK.intro (PInv.func (rap_Next_ok (smr []) (smr_small _ (by decide)))) ?_
  rw [smr_next [] (by decide) (l := [0, 1, 8, 9]) (by decide +kernel) (by decide) (by decide) (0, 2) (by decide +kernel)]
  simp
  refine PCallK.intro (PInv.func (law13_find_ok _ _)) ?_
  simp
  refine PCallK.intro (PInv.func (law13_find_ok _ _)) ?_
  simp
  intro s57
  refine FCall.frz1 57 rfl (v := (smr [(0, true), (1, false)]).v) ?_ trivial ?_
  · have := PInv.func (first := []) (cap := []) (args := [LR [(0, true), (1, false)]]) (law13_sample_ok [(0, true), (1, false)])
    simpa [LR, rfs, fl, rfC] using this
  simp
  refine PCallK.intro (PInv.func (rap_Wrong_ok (smr [(0, true), (1, false)]) (smr_small _ (by decide)))) ?_
  rw [smr_wrong [(0, true), (1, false)] (by decide) (1, 1) (by decide +kernel)]
  simp
  intro s70
  refine FCall.frz1 70 rfl (v := .bool true) ?_ (by simp) ?_
  · have := PInv.func (first := []) (cap := []) (args := [L [0, 1, 8, 9], L [0, 1, 8, 9]]) (law13_ints_ok [0, 1, 8, 9] [0, 1, 8, 9] (by simp) (by simp))
    simpa [L] using this
  simp
  exact RetV.refl rfl
end Go.Cw
end

/- The laws Tells, Wrongs and Dull; which seams opened, and which sound dull, by the laws' own words. -/
section
set_option maxRecDepth 100000
set_option linter.unusedSimpArgs false
namespace Go.Cw
open Go Go.Proofs

/-- One of the numbers that are told of a set. -/
theorem inS_and1 {s : Int} (hs : 0 ≤ s ∧ s < 2 ^ 62) (i : Nat) : bitI .and .i64 (s / 2 ^ i) 1 = if inS s i then 1 else 0 := by
  have h0 := two_pow_pos i
  have h2 : 0 ≤ s / 2 ^ i := Int.ediv_nonneg hs.1 (by omega)
  have h3 : s / 2 ^ i ≤ s := Int.ediv_le_self _ hs.1
  rw [bitI_and1 h2 (by omega)]
  unfold inS
  simp only [decide_eq_true_eq]
  split <;> omega




namespace Rp
variable (r : Rp)
theorem dullV_form (q : Int) : ∃ a e, r.dullV q = .tup [.int .i64 a, .int .i64 e] := by
  unfold dullV; split
  · split <;> exact ⟨_, _, rfl⟩
  · exact ⟨_, _, rfl⟩
theorem setsV_form (hs : r.Small) : ∃ l e, r.setsV = .tup [L l, .int .i64 e] ∧ l.length ≤ 100000 := by
  unfold setsV; split
  · rename_i hv
    split
    · exact ⟨_, _, rfl, by simp⟩
    · exact ⟨_, _, rfl, by have := setsL_len hv; omega⟩
  · exact ⟨_, _, rfl, by simp⟩
theorem openV_form : ∃ a b e, r.openV = .tup [.int .i64 a, .int .i64 b, .int .i64 e] := by
  unfold openV; split
  · split <;> exact ⟨_, _, _, rfl⟩
  · exact ⟨_, _, _, rfl⟩
theorem soundV_form : ∃ a e, r.soundV = .tup [.int .i64 a, .int .i64 e] := by
  unfold soundV; split
  · split <;> exact ⟨_, _, rfl⟩
  · exact ⟨_, _, rfl⟩
theorem fewV_form : ∃ a b e, r.fewV = .tup [.int .i64 a, .int .i64 b, .int .i64 e] := by
  unfold fewV; split
  · split
    · exact ⟨_, _, _, rfl⟩
    · split <;> exact ⟨_, _, _, rfl⟩
  · exact ⟨_, _, _, rfl⟩
theorem nextV_form : ∃ a b e, r.nextV = .tup [.int .i64 a, .int .i64 b, .int .i64 e] := by
  unfold nextV; split
  · split
    · exact ⟨_, _, _, rfl⟩
    · split
      · exact ⟨_, _, _, rfl⟩
      · split <;> exact ⟨_, _, _, rfl⟩
  · exact ⟨_, _, _, rfl⟩
end Rp


end Go.Cw
end

/- How a rap is read as an argument. -/
section
set_option maxRecDepth 100000
namespace Go.Cw
open Go Go.Proofs

section
variable {w : World} {μ : Mu}

theorem opens_int : Opens Pg w μ 3 fun av => ∃ n, (Lit.int .i64 n).wf = true ∧ av = [.int .i64 n] := Opens.int Tryz.underlying3 (by kernel_rfl)
theorem opens_bool : Opens Pg w μ 4 fun av => ∃ b, av = [.bool b] := Opens.bool Tryz.underlying4 (by kernel_rfl)
theorem opens_ints : Opens Pg w μ 22 fun av => ∃ l : List Int, av = [L l] := Opens.ints Tryz.underlying22 (by kernel_rfl) Tryz.underlying3 (by kernel_rfl)
theorem opens_pairs : Opens Pg w μ 23 fun av => ∃ l : List (Int × Int), av = [LP l] :=
  Opens.prs Tryz.underlying23 (by kernel_rfl) (by kernel_rfl) (Opens.two Tryz.underlying61 (by kernel_rfl) Tryz.underlying3 (by kernel_rfl))
theorem opens_span : Opens Pg w μ 46 fun av => ∃ p : Int × Int, av = [.int .i64 p.1, .int .i64 p.2] := by
  refine (Opens.struct (Vs := [_, _]) Tryz.underlying46 (by kernel_rfl) ⟨rfl, opens_int, by kernel_rfl, opens_int, trivial⟩).mono ?_
  rintro av ⟨ass, h, rfl⟩
  obtain ⟨a, b, rfl, ⟨n, _, rfl⟩, ⟨m, _, rfl⟩⟩ := h.two
  exact ⟨(n, m), rfl⟩
theorem opens_spans : Opens Pg w μ 24 fun av => ∃ l : List (Int × Int), av = [LP l] := Opens.prs Tryz.underlying24 (by kernel_rfl) (by kernel_rfl) opens_span
theorem opens_drive : Opens Pg w μ 26 fun av => ∃ d : Drv, av = d.cells := by
  refine (Opens.struct (Vs := [_, _, _]) Tryz.underlying26 (by kernel_rfl) ⟨rfl, opens_ints, by kernel_rfl, opens_pairs, by kernel_rfl, opens_spans, trivial⟩).mono ?_
  rintro av ⟨ass, h, rfl⟩
  obtain ⟨a, b, c, rfl, ⟨l, rfl⟩, ⟨p, rfl⟩, ⟨q, rfl⟩⟩ := h.three
  exact ⟨⟨l, p, q⟩, rfl⟩
theorem opens_find : Opens Pg w μ 51 fun av => ∃ a : Int × Bool, av = rfC a := by
  refine (Opens.struct (Vs := [_, _]) Tryz.underlying51 (by kernel_rfl) ⟨rfl, opens_int, by kernel_rfl, opens_bool, trivial⟩).mono ?_
  rintro av ⟨ass, h, rfl⟩
  obtain ⟨a, b, rfl, ⟨n, _, rfl⟩, ⟨m, rfl⟩⟩ := h.two
  exact ⟨(n, m), rfl⟩
theorem c51 : 0 < Pg.cellsOf 51 := by rw [show Pg.cellsOf 51 = 2 by kernel_rfl]; omega
theorem opens_rap : Opens Pg w μ 29 fun av => ∃ r : Rp, av = r.cells := by
  refine (Opens.struct (Vs := [_, _]) Tryz.underlying29 (by kernel_rfl) ⟨rfl, opens_drive, by kernel_rfl, Opens.fl Tryz.underlying27 (by kernel_rfl) c51 opens_find, trivial⟩).mono ?_
  rintro av ⟨ass, h, rfl⟩
  obtain ⟨a, b, rfl, ⟨n, rfl⟩, ⟨m, rfl⟩⟩ := h.two
  exact ⟨⟨n, m⟩, rfl⟩
theorem opens_u16s : Opens Pg w μ 42 fun av => ∃ l : List Int, U16ok l ∧ av = [U16 l] :=
  (Opens.intsK (k := .u16) Tryz.underlying42 (by kernel_rfl) Tryz.underlying59 (by kernel_rfl)).mono fun av ⟨l, h1, h2, h3⟩ =>
    ⟨l, ⟨Nat.le_trans h1 (by decide +kernel), fun x hx => bounds_u16 (h2 x hx)⟩, h3⟩
theorem opens_u8 : Opens Pg w μ 5 fun av => ∃ n : Int, (0 ≤ n ∧ n ≤ 255) ∧ av = [.int .u8 n] :=
  (Opens.int Tryz.underlying5 (by kernel_rfl)).mono fun av ⟨n, h1, h2⟩ => ⟨n, bounds_u8 h1, h2⟩
theorem opens_u16 : Opens Pg w μ 59 fun av => ∃ n : Int, (0 ≤ n ∧ n ≤ 65535) ∧ av = [.int .u16 n] :=
  (Opens.int Tryz.underlying59 (by kernel_rfl)).mono fun av ⟨n, h1, h2⟩ => ⟨n, bounds_u16 h1, h2⟩
end

theorem kids : Kids Pg (· < Pg.types.size) := kids_rows (by kernel_rfl) (by kernel_rfl)
theorem slices_full : ∀ t e, t < Pg.types.size → Pg.underlying t = some (.slice e) → 0 < Pg.cellsOf e := slices_full_of Pg (by kernel_rfl)
theorem ownKnobNone : ownKnob Pg.godebug = none := by kernel_rfl

end Go.Cw
end

/- Plain words on what raps tell, for the laws. -/
section
set_option maxRecDepth 100000
set_option linter.unusedSimpArgs false
namespace Go.Cw
open Go Go.Proofs

theorem bitsI_andNot (p q : Nat → Bool) {n : Nat} (hn : n ≤ 60) : bitI .andNot .i64 (bits p n) (bits q n) = bits (fun i => p i && !q i) n := by
  have ha := natB_lt62 p hn
  have hb := natB_lt62 q hn
  have hc := natB_lt62 (fun i => p i && !q i) hn
  rw [bits_natB, bits_natB, bits_natB]
  have key : (BitVec.ofNat 64 (natB p n) &&& ~~~(BitVec.ofNat 64 (natB q n))).toNat = natB (fun i => p i && !q i) n := by
    apply Nat.eq_of_testBit_eq
    intro i
    rw [← BitVec.getLsbD, BitVec.getLsbD_and, BitVec.getLsbD_not, BitVec.getLsbD_ofNat, BitVec.getLsbD_ofNat, natB_bit, natB_bit, natB_bit]
    by_cases hi : i < n
    · have : i < 64 := by omega
      simp [hi, this]
    · simp [hi]
  show IntKind.i64.wrap (Int.ofNat (BitVec.ofInt 64 (natB p n : Nat) &&& ~~~(BitVec.ofInt 64 (natB q n : Nat))).toNat) = _
  rw [BitVec.ofInt_natCast, BitVec.ofInt_natCast, key]
  have hh : ((natB (fun i => p i && !q i) n : Nat) : Int) < 2 ^ 62 := by exact_mod_cast hc
  simp [IntKind.wrap, IntKind.signed, IntKind.bits]
  omega
theorem and_all {m : Int} (hm : 0 ≤ m ∧ m < 2 ^ 60) {n : Nat} (hn : n ≤ 60) : ∃ o, bitI .and .i64 m (2 ^ n - 1) = o ∧ 0 ≤ o ∧ o < 2 ^ n := by
  refine ⟨_, rfl, ?_⟩
  have h1 : m = bits (inS m) 60 := (bits_inS hm).symm
  have h2 : (2 : Int) ^ n - 1 = bits (fun i => decide (i < n)) 60 := by
    rw [bits_more (n := n) hn fun i h1 h2 => by simpa using h1, bits_congr (q := fun _ => true) fun i hi => by simpa using hi, bits_all1]
  rw [h2, h1, bitsI_and _ _ (by omega), bits_more (n := n) hn fun i h1 h2 => by simp; omega]
  exact bits_lt _ _

theorem bestC_min (g : Int → Int × Bool) (k : Nat) : ∀ b, bestC g (tab k fun i => (i : Int)) = some b → b.2 = (g b.1).1 ∧ 0 ≤ b.1 ∧ b.1 < k ∧ (g b.1).2 = true ∧ ∀ y : Nat, y < k → (g y).2 = true → b.2 < (g y).1 ∨ (b.2 = (g y).1 ∧ b.1 ≤ y) := by
  induction k with
  | zero => intro b h; simp [tab, bestC] at h
  | succ k ih =>
    intro b h
    rw [tab_nat, bestC_push] at h
    have hn : bestC g (tab k fun i => (i : Int)) = none → ∀ y : Nat, y < k → (g y).2 = false := fun e y hy => by
      cases h2 : (g y).2
      · rfl
      · have := bestC_some (g := g) (l := tab k fun i => (i : Int)) (x := (y : Int)) (List.mem_map.2 ⟨y, List.mem_range.2 hy, rfl⟩) h2
        rw [e] at this; cases this
    obtain ⟨B, hB⟩ : ∃ B, bestC g (tab k fun i => (i : Int)) = B := ⟨_, rfl⟩
    rw [hB] at h ih hn
    unfold betC at h
    by_cases h2 : (g k).2 = true
    · rw [if_pos h2] at h
      cases B with
      | none =>
        cases h
        refine ⟨rfl, by simp, by simp; omega, h2, fun y hy hy2 => ?_⟩
        by_cases hyk : y = k
        · subst hyk; exact .inr ⟨rfl, Int.le_refl _⟩
        · have := hn rfl y (by omega)
          rw [this] at hy2; cases hy2
      | some c =>
        obtain ⟨a1, a2, a3, a4, a5⟩ := ih c rfl
        simp only at h
        split at h
        · rename_i hlt
          cases h
          refine ⟨rfl, by simp, by simp; omega, h2, fun y hy hy2 => ?_⟩
          by_cases hyk : y = k
          · subst hyk; exact .inr ⟨rfl, Int.le_refl _⟩
          · have := a5 y (by omega) hy2
            simp only
            omega
        · rename_i hlt
          cases h
          refine ⟨a1, a2, by omega, a4, fun y hy hy2 => ?_⟩
          by_cases hyk : y = k
          · subst hyk
            by_cases he : b.2 = (g y).1
            · exact .inr ⟨he, by omega⟩
            · exact .inl (by omega)
          · exact a5 y (by omega) hy2
    · rw [if_neg h2] at h
      subst h
      obtain ⟨a1, a2, a3, a4, a5⟩ := ih b rfl
      refine ⟨a1, a2, by omega, a4, fun y hy hy2 => ?_⟩
      by_cases hyk : y = k
      · subst hyk; exact absurd hy2 h2
      · exact a5 y (by omega) hy2
theorem bestC_none {g : Int → Int × Bool} {k : Nat} (h : bestC g (tab k fun i => (i : Int)) = none) {y : Nat} (hy : y < k) : (g y).2 = false := by
  cases h2 : (g y).2
  · rfl
  · have := bestC_some (g := g) (l := tab k fun i => (i : Int)) (x := (y : Int)) (List.mem_map.2 ⟨y, List.mem_range.2 hy, rfl⟩) h2
    rw [h] at this; cases this

namespace Rp
/-- Does a set sound as was heard by all raps? -/
def fitA (r : Rp) (o : Int) : Bool := r.rs.all fun x => r.hears o x.1.toNat == x.2
theorem fits_every (r : Rp) (o : Int) : r.fits (2 ^ r.k - 1) o = r.fitA o := by
  unfold fits fitA
  rw [Bool.eq_iff_iff, List.all_eq_true, List.all_eq_true]
  constructor
  · intro h x hx
    obtain ⟨j, hj, rfl⟩ := List.getElem_of_mem hx
    have := h j (List.mem_range.2 hj)
    rw [inS_all (show j < r.k from hj), List.getElem?_eq_getElem hj] at this
    simpa using this
  · intro h j hj
    have hj' : j < r.rs.length := List.mem_range.1 hj
    rw [List.getElem?_eq_getElem hj']
    have := h r.rs[j] (List.getElem_mem hj')
    simp only [Option.map_some, Option.getD_some, this, Bool.or_true]
theorem mem_sets {r : Rp} (hv : r.Valid) {x : Int} : x ∈ r.setsL ↔ (0 ≤ x ∧ x < 2 ^ r.n) ∧ (∃ t ∈ r.d.truths, r.opn t = x) ∧ r.fitA x = true := by
  rw [sets_eq hv, refL_mem, fits_every]
theorem sets_lt {r : Rp} (hv : r.Valid) : r.setsL.Pairwise (· < ·) := by rw [sets_eq hv]; exact r.refL_lt _
/-- Other raps of the same drive. -/
def of (r : Rp) (l : List (Int × Bool)) : Rp := ⟨r.d, l⟩
theorem Valid.of {r : Rp} (hv : r.Valid) {l : List (Int × Bool)} (h : l.length ≤ 10) (hs : ∀ x ∈ l, r.d.Seam x.1) : (r.of l).Valid := ⟨hv.d, h, hs⟩
theorem Small.of {r : Rp} (hs : r.Small) {l : List (Int × Bool)} (h : l.length ≤ 40) : (r.of l).Small := ⟨hs.d, h⟩
theorem fitA_of (r : Rp) (l : List (Int × Bool)) (o : Int) : (r.of l).fitA o = l.all fun x => r.hears o x.1.toNat == x.2 := rfl

theorem hears_iff {r : Rp} {o : Int} {i : Nat} : r.hears o i = true ↔ ∃ j, j < r.n ∧ inS o j = true ∧ r.near i j = true := by
  unfold hears
  simp only [List.any_eq_true, List.mem_range, Bool.and_eq_true]
theorem hears_or {r : Rp} (hn : r.n ≤ 60) {x y : Int} (hx : 0 ≤ x ∧ x < 2 ^ r.n) (hy : 0 ≤ y ∧ y < 2 ^ r.n) (i : Nat) : r.hears (bitI .or .i64 x y) i = (r.hears x i || r.hears y i) := by
  rw [Bool.eq_iff_iff, Bool.or_eq_true, hears_iff, hears_iff, hears_iff]
  have h : ∀ j, j < r.n → inS (bitI .or .i64 x y) j = (inS x j || inS y j) := fun j hj => by
    conv => lhs; rw [← bits_inS hx, ← bits_inS hy]
    rw [bitsI_or _ _ hn, inS_bits _ hj]
  constructor
  · rintro ⟨j, hj, h1, h2⟩
    rw [h j hj, Bool.or_eq_true] at h1
    rcases h1 with h1 | h1
    · exact .inl ⟨j, hj, h1, h2⟩
    · exact .inr ⟨j, hj, h1, h2⟩
  · rintro (⟨j, hj, h1, h2⟩ | ⟨j, hj, h1, h2⟩)
    · exact ⟨j, hj, by rw [h j hj, h1]; rfl, h2⟩
    · exact ⟨j, hj, by rw [h j hj, h1]; simp, h2⟩
theorem dull_or {r : Rp} (hn : r.n ≤ 60) {x y : Int} (hx : 0 ≤ x ∧ x < 2 ^ r.n) (hy : 0 ≤ y ∧ y < 2 ^ r.n) : r.dullS (bitI .or .i64 x y) = bitI .or .i64 (r.dullS x) (r.dullS y) := by
  unfold dullS
  rw [bitsI_or _ _ hn]
  exact bits_congr fun i _ => hears_or hn hx hy i
theorem or_lt {n : Nat} (hn : n ≤ 60) {x y : Int} (hx : 0 ≤ x ∧ x < 2 ^ n) (hy : 0 ≤ y ∧ y < 2 ^ n) : 0 ≤ bitI .or .i64 x y ∧ bitI .or .i64 x y < 2 ^ n := by
  rw [← bits_inS hx, ← bits_inS hy, bitsI_or _ _ hn]
  exact bits_lt _ _
theorem dull_self {r : Rp} (hn : r.n ≤ 60) {x : Int} (hx : 0 ≤ x ∧ x < 2 ^ r.n) : bitI .andNot .i64 x (r.dullS x) = 0 := by
  conv => lhs; rw [← bits_inS hx]
  unfold dullS
  rw [bitsI_andNot _ _ hn, bits_zero]
  intro i hi
  cases h : inS x i
  · rfl
  · rw [bits_inS hx, hears_self hi h]; rfl
theorem andNot_all {n : Nat} (hn : n ≤ 60) {x : Int} (hx : 0 ≤ x ∧ x < 2 ^ n) : bitI .andNot .i64 x (2 ^ n - 1) = 0 := by
  rw [← bits_inS hx, ← bits_all1, bitsI_andNot _ _ hn, bits_zero]
  intro i _; simp
theorem dullV_at {r : Rp} (hv : r.Valid) {q : Int} (hq : 0 ≤ q ∧ q < 2 ^ r.n) : r.dullV q = .tup [.int .i64 (r.dullS q), .int .i64 0] := by simp [dullV, hv, hq]
theorem dullV_out {r : Rp} (hv : r.Valid) {q : Int} (hq : ¬ (0 ≤ q ∧ q < 2 ^ r.n)) : r.dullV q = .tup [.int .i64 0, .int .i64 2] := by
  unfold dullV; rw [if_pos hv, if_neg hq]
end Rp


end Go.Cw
end

/- Numbers that are drawn; rows of raps that grow. -/
section
set_option maxRecDepth 100000
set_option linter.unusedSimpArgs false
namespace Go.Cw
open Go Go.Proofs






theorem Sl.toV {n : Nat} {K : KT} {tm : TM} {df : DF} {h : Heap} (l : List (Nat × AVal)) (k : List (Nat × AObj)) (en : Sl n (fun tm' df' h' => df' = df ∧ Vw l tm' ∧ Hw k h') tm df h) (hK : K (tmV l) df (hpV k)) : Sl n K tm df h := by
  obtain ⟨tm₁, df₁, h₁, a, rfl, hv, hh⟩ := en
  exact ⟨_, _, _, a.trans (SLe.view hv hh), hK⟩
@[simp] theorem frzL_rfs (r s : Nat) (cells : List AVal) (l : List (Int × Bool)) : frzL r s cells (rfs l) = rfs l := by
  induction l with
  | nil => rfl
  | cons a l ih =>
    show frzL r s cells (rfC a ++ rfs l) = rfC a ++ rfs l
    simp [rfC, ih]
theorem rfs_push (l : List (Int × Bool)) (a : Int × Bool) : rfs l ++ [.int .i64 a.1, .bool a.2] = rfs (l ++ [a]) := by simp [rfs, fl, rfC]

/-- A grown row of raps in a rap becomes a value. -/
theorem Sl.raps {n : Nat} {K : KT} {tm : TM} {df : DF} {h : Heap} {a b c : AVal} (x R : Nat) {sx st : Nat} {l : List (Int × Bool)} (hx : h x = .row [a, b, c, gS 2 R l.length st] sx) (hR : h R = gO l.length (rfs l) st)
    (k1 : l = [] → Sl n K tm df (upd h x (.row [a, b, c, LR l] sx))) (k2 : 0 < l.length → Sl n K (frzT R st (rfs l) tm) df (frzH R st (rfs l) (upd h R .dead))) : Sl n K tm df h := by
  cases l with
  | nil =>
    refine Sl.rowLe (cells := [a, b, c, gS 2 R 0 st]) (s := sx) x [a, b, c, LR []] (by simpa using hx) ⟨ALe.refl _, ALe.refl _, ALe.refl _, ?_, trivial⟩ (k1 rfl)
    exact ALe.es_vl
  | cons y l => exact Sl.gSH R (m := (y :: l).length) (cells := rfs (y :: l)) (s := st) (by simp) hR (k2 (by simp))

namespace Rp
theorem Valid.truth_settle {r : Rp} (hv : r.Valid) {t : List Int} (ht : t ∈ r.d.truths) : r.d.settleV t = .tup [L (tab r.n (r.d.left (ofL t))), L (tab r.n (r.d.odo (ofL t))), .int .i64 0] := by
  obtain ⟨h1, h2⟩ := hv.d.truth ht
  have hb : r.d.Blows t := by
    refine ⟨h1, fun x hx => ?_⟩
    obtain ⟨i, hi, rfl⟩ := List.getElem_of_mem hx
    have := (h2 i (by omega)).2
    rw [ofL_at t hi]
    omega
  have hvd := hv.d
  simp only [Drv.settleV, hvd, hb, if_true]
  rfl
theorem opn_times {r : Rp} (t : List Int) : bits (fun k => decide (0 < ofL (tab r.n (r.d.odo (ofL t))) k)) (tab r.n (r.d.odo (ofL t))).length = r.opn t := by
  rw [tab_length]
  unfold opn
  refine bits_congr fun i hi => ?_
  simp [ofL, hi]
end Rp
end Go.Cw
end

/- The law True. -/
section
set_option maxRecDepth 100000
set_option linter.unusedSimpArgs false
namespace Go.Cw
open Go Go.Proofs

namespace Rp
theorem mem_canF {r : Rp} {o : Int} (ho : o ∈ r.setsL) : ∃ x ∈ r.canF, (x.val : Int) = o := List.mem_map.1 ho
theorem canF_lt (r : Rp) : r.canF.Pairwise fun a b => a.val < b.val := by
  unfold canF heardF
  exact List.Pairwise.filter _ r.soundsF_lt
theorem lt64 {r : Rp} (hv : r.Valid) {o : Int} (ho : 0 ≤ o ∧ o < 2 ^ r.n) : 0 ≤ o ∧ o < 2 ^ 6 := by
  have := two_pow_le (show r.n ≤ 6 from hv.d.n6)
  omega
theorem can_sub {r : Rp} (hv : r.Valid) {o : Int} (ho : o ∈ r.setsL) : bitI .andNot .i64 o (bits (anyS r.canF) 6) = 0 := by
  have h6 := lt64 hv (setsL_mem hv ho)
  obtain ⟨x, hx, hxo⟩ := mem_canF ho
  conv => lhs; rw [← bits_inS h6]
  rw [bitsI_andNot _ _ (by omega), bits_zero]
  intro i hi
  cases h : inS o i
  · rfl
  · have : anyS r.canF i = true := List.any_eq_true.2 ⟨x, hx, by rw [hxo]; exact h⟩
    rw [this]; rfl
theorem sure_sub {r : Rp} (hv : r.Valid) {o : Int} (ho : o ∈ r.setsL) : bitI .andNot .i64 (bits (allS r.canF) 6) o = 0 := by
  have h6 := lt64 hv (setsL_mem hv ho)
  obtain ⟨x, hx, hxo⟩ := mem_canF ho
  conv => lhs; rw [← bits_inS h6]
  rw [bitsI_andNot _ _ (by omega), bits_zero]
  intro i hi
  cases h : allS r.canF i
  · rfl
  · have := List.all_eq_true.1 h x hx
    rw [hxo] at this
    rw [this]; rfl
theorem sound_is {r : Rp} {o : Int} (ho : o ∈ r.setsL) : (soundN r.canF = 2 → o = 0) ∧ (soundN r.canF = 0 → o ≠ 0) := by
  obtain ⟨x, hx, rfl⟩ := mem_canF ho
  have hlt := r.canF_lt
  cases hc : r.canF with
  | nil => rw [hc] at hx; simp at hx
  | cons y l =>
    rw [hc] at hx hlt
    have hge : y.val ≤ x.val := by
      rcases List.mem_cons.1 hx with rfl | h
      · exact Nat.le_refl _
      · exact Nat.le_of_lt (List.rel_of_pairwise_cons hlt h)
    simp only [soundN]
    constructor
    · intro h
      by_cases h0 : y.val = 0
      · rw [if_pos h0] at h
        by_cases hl : l = []
        · subst hl
          simp only [List.mem_singleton] at hx
          subst hx; omega
        · rw [if_neg hl] at h; omega
      · rw [if_neg h0] at h; omega
    · intro h
      by_cases h0 : y.val = 0
      · rw [if_pos h0] at h
        split at h <;> omega
      · omega
theorem few_some {r : Rp} (hv : r.Valid) (hc : r.canF ≠ []) : ∃ b, r.fewB = some b ∧ r.fewV = .tup [.int .i64 b.2, .int .i64 b.1, .int .i64 0] ∧ b.2 = sizeS b.1 ∧ (0 ≤ b.1 ∧ b.1 < 2 ^ r.n) ∧ r.showsP r.setsL b.1 = true ∧
    ∀ q, 0 ≤ q ∧ q < 2 ^ r.n → r.showsP r.setsL q = true → b.2 < sizeS q ∨ (b.2 = sizeS q ∧ b.1 ≤ q) := by
  have hn6 : r.n ≤ 6 := hv.d.n6
  have hp := two_pow_pos r.n
  obtain ⟨N, hN⟩ : ∃ N : Nat, N = 2 ^ r.n := ⟨_, rfl⟩
  have hNi : (N : Int) = 2 ^ r.n := by rw [hN]; simp
  have hsh : ∀ q, 0 ≤ q ∧ q < 2 ^ r.n → (fewG r.dl r.canF q).2 = r.showsP r.setsL q := fun q hq => few_shows (by omega) _ hq
  have hsome : r.fewB.isSome = true := by
    unfold fewB
    rw [← hN]
    refine bestC_some (x := 2 ^ r.n - 1) ?_ ?_
    · have : (2 : Int) ^ r.n - 1 = ((N - 1 : Nat) : Int) := by omega
      rw [this]
      exact List.mem_map.2 ⟨N - 1, List.mem_range.2 (by omega), rfl⟩
    · rw [hsh _ (by omega), sets_eq hv]
      exact shows_all
  obtain ⟨b, hb⟩ := Option.isSome_iff_exists.1 hsome
  have hb' := hb
  unfold fewB at hb'
  rw [← hN] at hb'
  obtain ⟨h1, h2, h3, h4, h5⟩ := bestC_min _ N b hb'
  have hbr : 0 ≤ b.1 ∧ b.1 < 2 ^ r.n := by omega
  refine ⟨b, hb, by simp [fewV, hv, hc, hb], h1, hbr, by rw [← hsh _ hbr]; exact h4, fun q hq hs => ?_⟩
  obtain ⟨k, rfl⟩ : ∃ k : Nat, q = k := ⟨q.toNat, by omega⟩
  have := h5 k (by omega) (by rw [hsh _ hq]; exact hs)
  exact this
theorem sizeS_zero : sizeS 0 = 0 := by rw [sizeS_n (n := 0) (by omega) ⟨by omega, by decide⟩]; rfl
theorem sizeS_nonneg (q : Int) : 0 ≤ sizeS q := sumN_nonneg fun j _ => by split <;> omega
theorem wr_none {r : Rp} (hv : r.Valid) (hc : r.setsL ≠ []) : r.wrV = .tup [.int .i64 0, .int .i64 4] := by
  have hp := two_pow_pos r.k
  obtain ⟨N, hN⟩ : ∃ N : Nat, N = 2 ^ r.k := ⟨_, rfl⟩
  have hNi : (N : Int) = 2 ^ r.k := by rw [hN]; simp
  have h0 : (r.wrG 0).2 = true := by
    rw [wr_ok hv ⟨by omega, by omega⟩, decide_eq_true_eq, Int.sub_zero, ← sets_eq hv]; exact hc
  have hsome : r.wrB.isSome = true := by
    unfold wrB
    rw [← hN]
    exact bestC_some (x := 0) (List.mem_map.2 ⟨0, List.mem_range.2 (by omega), rfl⟩) h0
  obtain ⟨b, hb⟩ := Option.isSome_iff_exists.1 hsome
  have hb' := hb
  unfold wrB at hb'
  rw [← hN] at hb'
  obtain ⟨h1, h2, h3, h4, h5⟩ := bestC_min _ N b hb'
  have h6 := h5 0 (by omega) h0
  have e1 : (r.wrG b.1).1 = sizeS b.1 := rfl
  have e2 : (r.wrG ((0 : Nat) : Int)).1 = sizeS 0 := rfl
  rw [e2, sizeS_zero] at h6
  have := sizeS_nonneg b.1
  have hb0 : b.1 = 0 := by rw [h1, e1] at h6; simp at h6; omega
  simp [wrV, hv, hb, hb0]
theorem openV_ok {r : Rp} (hv : r.Valid) (hc : r.canF ≠ []) : r.openV = .tup [.int .i64 (bits (anyS r.canF) 6), .int .i64 (bits (allS r.canF) 6), .int .i64 0] := by simp [openV, hv, hc]
theorem soundV_ok {r : Rp} (hv : r.Valid) (hc : r.canF ≠ []) : r.soundV = .tup [.int .i64 (soundN r.canF), .int .i64 0] := by simp [soundV, hv, hc]
theorem setsV_ok {r : Rp} (hv : r.Valid) (hc : r.canF ≠ []) : r.setsV = .tup [L r.setsL, .int .i64 0] := by simp [setsV, hv, hc]
theorem soundN_01 (l : List (Fin 64)) : soundN l = 0 ∨ soundN l = 1 ∨ soundN l = 2 := by
  cases l with
  | nil => exact .inl rfl
  | cons x l => simp only [soundN]; split <;> (try split) <;> simp
end Rp


end Go.Cw
end

/- The law Sets. -/
section
set_option maxRecDepth 100000
set_option linter.unusedSimpArgs false
namespace Go.Cw
open Go Go.Proofs



namespace Rp
theorem times_in {d : Drv} (hv : d.Valid) {l : List Int} (h : l ∈ d.truths) (i : Nat) : d.odo d.lo i ≤ d.odo (ofL l) i ∧ d.odo (ofL l) i ≤ d.odo d.hi i := by
  have ht := (hv.truth h).2
  exact ⟨Drv.odo_mono hv hv.lo_in (hv.truth_in h) (fun j hj => (ht j hj).1.1) i, Drv.odo_mono hv (hv.truth_in h) hv.hi_in (fun j hj => (ht j hj).1.2) i⟩
theorem opens_in {r : Rp} (hv : r.Valid) {t : List Int} (ht : t ∈ r.d.truths) : bitI .andNot .i64 (r.opn t) (bits r.d.canP r.n) = 0 ∧ bitI .andNot .i64 (bits r.d.sureP r.n) (r.opn t) = 0 := by
  have hn : r.n ≤ 60 := by have := hv.d.n6; have : r.d.n = r.n := rfl; omega
  have hin := fun i => times_in hv.d ht i
  unfold opn
  rw [bitsI_andNot _ _ hn, bitsI_andNot _ _ hn, bits_zero, bits_zero]
  constructor
  · intro i hi
    have := hin i
    simp only [Drv.canP, Drv.times_span hv.d]
    by_cases h : 0 < r.d.odo (ofL t) i
    · have : 0 < r.d.odo r.d.hi i := by omega
      simp [h, this]
    · simp [h]
  · intro i hi
    have := hin i
    simp only [Drv.sureP, Drv.times_span hv.d]
    by_cases h : 0 < r.d.odo r.d.lo i
    · have : 0 < r.d.odo (ofL t) i := by omega
      simp [h, this]
    · simp [h]
/-- What all functions tell. -/
theorem told {r : Rp} (hv : r.Valid) : ∃ e can sure sn, r.setsV = .tup [L r.setsL, .int .i64 e] ∧ r.openV = .tup [.int .i64 can, .int .i64 sure, .int .i64 e] ∧ r.soundV = .tup [.int .i64 sn, .int .i64 e] ∧
    ((e = 0 ∧ r.canF ≠ [] ∧ can = bits (anyS r.canF) 6 ∧ sure = bits (allS r.canF) 6 ∧ sn = soundN r.canF) ∨ (e = 10 ∧ r.canF = [] ∧ r.setsL = [] ∧ can = 0 ∧ sure = 0 ∧ sn = 0)) := by
  by_cases hc : r.canF = []
  · have hl := r.setsL_nil.1 hc
    exact ⟨10, 0, 0, 0, by simp [setsV, hv, hc, hl], by simp [openV, hv, hc], by simp [soundV, hv, hc], .inr ⟨rfl, hc, hl, rfl, rfl, rfl⟩⟩
  · exact ⟨0, _, _, _, setsV_ok hv hc, openV_ok hv hc, soundV_ok hv hc, .inl ⟨rfl, hc, rfl, rfl, rfl⟩⟩
theorem opensV_at {d : Drv} (hv : d.Valid) : d.opensV = .tup [.int .i64 (bits d.canP d.n), .int .i64 (bits d.sureP d.n), .int .i64 0] := by simp [Drv.opensV, hv]
def someB (l : List Int) : Int := bits (fun i => l.any fun x => inS x i) 6
def allB (n : Nat) (l : List Int) : Int := bits (fun i => decide (i < n) && l.all fun x => inS x i) 6
theorem someB_push (l : List Int) {x : Int} (hx : 0 ≤ x ∧ x < 2 ^ 6) : bitI .or .i64 (someB l) x = someB (l ++ [x]) := by
  unfold someB
  conv => lhs; rw [← bits_inS hx]
  rw [bitsI_or _ _ (by omega)]
  exact bits_congr fun i _ => by simp [bits_inS hx]
theorem allB_push (n : Nat) (l : List Int) {x : Int} (hx : 0 ≤ x ∧ x < 2 ^ 6) : bitI .and .i64 (allB n l) x = allB n (l ++ [x]) := by
  unfold allB
  conv => lhs; rw [← bits_inS hx]
  rw [bitsI_and _ _ (by omega)]
  exact bits_congr fun i _ => by simp [bits_inS hx, Bool.and_assoc]
theorem someB_all (r : Rp) : someB r.setsL = bits (anyS r.canF) 6 := by
  unfold someB anyS setsL
  exact bits_congr fun i _ => by rw [List.any_map]; rfl
theorem allB_all {r : Rp} (hv : r.Valid) (hc : r.canF ≠ []) : allB r.n r.setsL = bits (allS r.canF) 6 := by
  unfold allB
  refine bits_congr fun i _ => ?_
  have h : (r.setsL.all fun x => inS x i) = allS r.canF i := by unfold allS setsL; rw [List.all_map]; rfl
  rw [h]
  by_cases hi : i < r.n
  · simp [hi]
  · rw [allS_high hv hc (by omega)]; simp
theorem allB_nil {n : Nat} (hn : n ≤ 6) : allB n [] = 2 ^ n - 1 := by
  unfold allB
  rw [bits_more (n := n) hn fun i h1 h2 => by simp; omega, bits_congr (q := fun _ => true) fun i hi => by simp [hi], bits_all1]
theorem want_is {r : Rp} {x : Int} {m : List Int} (hl : r.setsL = x :: m) : soundN r.canF = if x = 0 then (if m = [] then 2 else 1) else 0 := by
  unfold setsL at hl
  cases hc : r.canF with
  | nil => rw [hc] at hl; simp at hl
  | cons y l =>
    rw [hc] at hl
    simp only [List.map_cons, List.cons.injEq] at hl
    obtain ⟨rfl, rfl⟩ := hl
    simp only [soundN]
    by_cases h0 : y.val = 0
    · have h0' : (y.val : Int) = 0 := by omega
      rw [if_pos h0, if_pos h0']
      by_cases hm : l = []
      · subst hm; rfl
      · rw [if_neg hm, if_neg (by simpa using hm)]
    · have h0' : ¬ (y.val : Int) = 0 := by omega
      rw [if_neg h0, if_neg h0']
end Rp


end Go.Cw
end

/- Copies of raps that grow; the law Fewest. -/
section
set_option maxRecDepth 100000
set_option linter.unusedSimpArgs false
namespace Go.Cw
open Go Go.Proofs

@[simp] theorem renL_rfs (r nm : Nat) (l : List (Int × Bool)) : renL r nm (rfs l) = rfs l := by
  induction l with
  | nil => rfl
  | cons a l ih =>
    show renL r nm (rfC a ++ rfs l) = rfC a ++ rfs l
    simp [rfC, ih]
/-- A copy of raps, in a rap, becomes a row that can grow. -/
theorem Sl.cpRaps {n : Nat} {K : KT} {tm : TM} {df : DF} {h : Heap} {a b c : AVal} (x R1 R2 : Nat) {sx r0 s0 s1 : Nat} {l : List (Int × Bool)} (hx : h x = .row [a, b, c, cpV 2 r0 s0 R1 s1 l.length] sx) (hR : h R1 = cpO l.length (rfs l) s1)
    (k1 : l = [] → Sl n K tm df (upd h x (.row [a, b, c, .es] sx))) (k2 : 0 < l.length → Sl n K (renT R1 R2 tm) df (renH R1 R2 (upd (upd h R1 .dead) R2 (.row (rfs l) s1)))) : Sl n K tm df h := by
  cases l with
  | nil =>
    refine Sl.rowLe (cells := [a, b, c, .sl r0 0 s0 0 (.ex 0)]) (s := sx) x [a, b, c, .es] (by simpa [cpV] using hx) ⟨ALe.refl _, ALe.refl _, ALe.refl _, ?_, trivial⟩ (k1 rfl)
    exact ALe.sl_es _ _ _
  | cons y l =>
    refine Sl.moveH R1 R2 ?_
    rw [hR]
    exact k2 (by simp)

namespace Rp
/-- Sharp raps on the first seams of a set. -/
def sharp (q : Int) (k : Nat) : List (Int × Bool) := ((List.range k).filter fun i => inS q i).map fun (i : Nat) => ((i : Int), false)
theorem sharp_succ (q : Int) (k : Nat) : sharp q (k + 1) = sharp q k ++ (if inS q k then [((k : Int), false)] else []) := by
  unfold sharp
  rw [List.range_succ, List.filter_append, List.map_append]
  congr 1
  by_cases h : inS q k = true
  · rw [if_pos h, List.filter_cons_of_pos h]; rfl
  · rw [if_neg h, List.filter_cons_of_neg h]; rfl
theorem sharp_len (q : Int) (k : Nat) : (sharp q k).length ≤ k := by
  unfold sharp
  rw [List.length_map]
  have := List.length_filter_le (fun i => inS q i) (List.range k)
  simpa using this
theorem mem_sharp {q : Int} {k : Nat} {x : Int × Bool} : x ∈ sharp q k ↔ ∃ i : Nat, i < k ∧ inS q i = true ∧ x = ((i : Int), false) := by
  unfold sharp
  simp only [List.mem_map, List.mem_filter, List.mem_range]
  constructor
  · rintro ⟨i, ⟨h1, h2⟩, rfl⟩; exact ⟨i, h1, h2, rfl⟩
  · rintro ⟨i, h1, h2, rfl⟩; exact ⟨i, ⟨h1, h2⟩, rfl⟩
/-- With sharp raps, too. -/
def shr (r : Rp) (q : Int) : Rp := r.of (r.rs ++ sharp q r.n)
theorem shr_valid {r : Rp} (hv : r.Valid) (h4 : r.k ≤ 4) (q : Int) : (r.shr q).Valid := by
  have hn6 : r.n ≤ 6 := hv.d.n6
  have hl := sharp_len q r.n
  refine hv.of ?_ fun x hx => ?_
  · have : r.rs.length = r.k := rfl
    rw [List.length_append]; omega
  · rcases List.mem_append.1 hx with h | h
    · exact hv.sm x h
    · obtain ⟨i, hi, _, rfl⟩ := mem_sharp.1 h
      have : r.d.n = r.n := rfl
      unfold Drv.Seam; simp; omega
theorem mem_shr {r : Rp} (hv : r.Valid) (h4 : r.k ≤ 4) (q o : Int) : o ∈ (r.shr q).setsL ↔ o ∈ r.setsL ∧ ∀ i, i < r.n → inS q i = true → r.hears o i = false := by
  rw [mem_sets (shr_valid hv h4 q), mem_sets hv]
  have e1 : (r.shr q).n = r.n := rfl
  have e2 : ∀ t, (r.shr q).opn t = r.opn t := fun t => rfl
  have e3 : (r.shr q).d = r.d := rfl
  have e4 : (r.shr q).fitA o = (r.fitA o && (sharp q r.n).all fun x => r.hears o x.1.toNat == x.2) := by
    unfold shr
    rw [fitA_of, List.all_append]; rfl
  rw [e1, e3, e4, Bool.and_eq_true, List.all_eq_true]
  constructor
  · rintro ⟨h1, h2, h3, h5⟩
    refine ⟨⟨h1, h2, h3⟩, fun i hi hq => ?_⟩
    have := h5 _ (mem_sharp.2 ⟨i, hi, hq, rfl⟩)
    simpa using this
  · rintro ⟨⟨h1, h2, h3⟩, h5⟩
    refine ⟨h1, h2, h3, fun x hx => ?_⟩
    obtain ⟨i, hi, hq, rfl⟩ := mem_sharp.1 hx
    simp [h5 i hi hq]
theorem shr_shows {r : Rp} (hv : r.Valid) (h4 : r.k ≤ 4) (q : Int) : r.showsP r.setsL q = decide ((r.shr q).canF = [] ∨ soundN (r.shr q).canF = 2) := by
  have hsv := shr_valid hv h4 q
  have key : r.showsP r.setsL q = true ↔ ∀ o ∈ (r.shr q).setsL, o = 0 := by
    unfold showsP
    rw [List.all_eq_true]
    constructor
    · intro h o ho
      obtain ⟨h1, h2⟩ := (mem_shr hv h4 q o).1 ho
      have := h o h1
      by_cases h0 : o = 0
      · exact h0
      · simp only [h0, decide_false, Bool.false_or, List.any_eq_true, List.mem_range, Bool.and_eq_true] at this
        obtain ⟨i, hi, a, b⟩ := this
        rw [h2 i hi a] at b; cases b
    · intro h o ho
      by_cases h0 : o = 0
      · simp [h0]
      · simp only [h0, decide_false, Bool.false_or, List.any_eq_true, List.mem_range, Bool.and_eq_true]
        refine Classical.byContradiction fun hc => h0 (h o ((mem_shr hv h4 q o).2 ⟨ho, fun i hi a => ?_⟩))
        cases hh : r.hears o i
        · rfl
        · exact absurd ⟨i, hi, a, hh⟩ hc
  rw [Bool.eq_iff_iff, key, decide_eq_true_eq]
  have hlt := (r.shr q).canF_lt
  unfold setsL
  cases hcf : (r.shr q).canF with
  | nil => simp
  | cons y m =>
    rw [hcf] at hlt
    simp only [List.mem_map, soundN]
    constructor
    · intro h
      have hy0 : y.val = 0 := by
        have := h (y.val : Int) ⟨y, by simp, rfl⟩
        omega
      have hm : m = [] := by
        cases m with
        | nil => rfl
        | cons z m =>
          have h1 := h (z.val : Int) ⟨z, by simp, rfl⟩
          have h2 := List.rel_of_pairwise_cons hlt (show z ∈ z :: m by simp)
          omega
      right; rw [if_pos hy0, if_pos hm]
    · rintro (h | h)
      · cases h
      · by_cases hy0 : y.val = 0
        · rw [if_pos hy0] at h
          by_cases hm : m = []
          · subst hm
            rintro o ⟨x, hx, rfl⟩
            simp only [List.mem_singleton] at hx
            subst hx; omega
          · rw [if_neg hm] at h; omega
        · rw [if_neg hy0] at h; omega
end Rp

theorem law13_RapFewest_1_ok (r : Rp) (hs : r.Small) (hv : r.Valid) (h4 : r.k ≤ 4) (q : Int) (hq : 0 ≤ q ∧ q < 2 ^ r.n) (s : Nat) (K : AEnd → Heap → Prop)
    (hK : K (.ret (.bool (r.showsP r.setsL q))) (hpV [(2, .row r.cells s)])) : ACalls Pg fn_law13_RapFewest_1 [.int .i64 q, .ptr 2 0 s] (hpV [(2, .row r.cells s)]) K := by
  have hn6 : r.n ≤ 6 := hv.d.n6
  have h2p := two_pow_le hn6
  have e6 : (2 : Int) ^ 6 = 64 := by decide
  have hkl : r.rs.length = r.k := rfl
  have hnl : r.d.limits.length = r.n := rfl
  have hva : r.v = .agg [L r.d.limits, LP r.d.beside, LP r.d.blows, LR r.rs] := rfl
  refine law13_RapFewest_1.enter 300 (by simp) ?_
  simp [Rp.cells]
  intro s4 s9 s12
  refine xAp_cp (by simp) (by simp) (by omega) ?_
  simp [hnl, hkl]
  obtain ⟨m, hm⟩ : ∃ m : Nat → List (Int × Bool), m = fun k => r.rs ++ Rp.sharp q k := ⟨_, rfl⟩
  have hml : ∀ k, (m k).length = r.k + (Rp.sharp q k).length := fun k => by rw [hm]; simp [hkl]
  have hm0 : m 0 = r.rs := by rw [hm]; simp [Rp.sharp]
  refine Lp.intro' (σ := Nat × Nat) (inv := fun x => x.1 ≤ r.n) (vw := fun x => [(0, .int .i64 q), (4, .ptr 304 0 (s4+1)), (17, .int .i64 r.n), (18, .int .i64 x.1)])
    (hp := fun x => [(2, .row r.cells s), (304, .row [L r.d.limits, LP r.d.beside, LP r.d.blows, gS 2 331 (m x.1).length x.2] (s4+1)), (331, gO (m x.1).length (rfs (m x.1)) x.2)]) (ms := fun x => r.n - x.1) (0, s12 + 1) (by simp)
    (Sl.cpRaps (a := L r.d.limits) (b := LP r.d.beside) (c := LP r.d.blows) 304 312 331 (l := r.rs) (sx := s4 + 1) (r0 := 309) (s0 := s9 + 1) (s1 := s12 + 1) (by simp [hkl]) (by simp [hkl]) (fun h0 => Sl.refl ⟨rfl, by simp, by simp [Rp.cells, hm0, h0]⟩) (fun h0 => Sl.refl ⟨rfl, by simp, by simp [Rp.cells, hm0, gS, gO, cpV, hkl, show ¬ r.k = 0 by omega, ren]⟩)) ?_
  rintro ⟨k, st⟩ hk J hJ
  simp only at hk
  by_cases hkc : k < r.n
  · have hbi := inS_and1 (s := q) (by omega) k
    have hsl := Rp.sharp_len q k
    have hmk := hml k
    have hms : m (k + 1) = m k ++ (if inS q k then [((k : Int), false)] else []) := by rw [hm]; simp only [Rp.sharp_succ, List.append_assoc]
    cases hqk : inS q k
    · rw [hqk] at hms hbi
      simp at hms
      simp [hkc, hbi]
      refine ⟨by omega, ?_⟩
      (repeat first | refine And.intro (by omega) ?_ | refine And.intro (Fits.of (by omega) (by omega)) ?_)
      exact hJ.next (k + 1, st) (by simp; omega) (by simp; omega) (by simp) (by simp [hms, Rp.cells])
    · rw [hqk] at hms hbi
      simp at hms
      have hml1 : (m (k + 1)).length = (m k).length + 1 := by rw [hms]; simp
      simp [hkc, hbi]
      refine ⟨by omega, ?_⟩
      refine PCallK.intro (PInv.func (law13_find_ok _ _)) ?_
      simp
      intro s30 s31
      refine xApN_gS (cells := rfs (m k)) (by simp) (by simp) (by omega) (by omega) ?_
      simp
      (repeat first | refine And.intro (by omega) ?_ | refine And.intro (Fits.of (by omega) (by omega)) ?_)
      exact hJ.next (k + 1, s31 + 1) (by simp; omega) (by simp; omega) (by simp) (by simp [hml1, hms, Rp.cells, ← rfs_push])
  obtain rfl : k = r.n := by omega
  obtain ⟨R, hR⟩ : ∃ R, R = r.shr q := ⟨_, rfl⟩
  have hRv : R.Valid := by rw [hR]; exact Rp.shr_valid hv h4 q
  have hRs : R.Small := by
    rw [hR]
    have := Rp.sharp_len q r.n
    exact hs.of (by rw [List.length_append]; omega)
  have hRva : R.v = .agg [L r.d.limits, LP r.d.beside, LP r.d.blows, LR (m r.n)] := by rw [hR, hm]; rfl
  have hsh := Rp.shr_shows hv h4 q
  rw [← hR] at hsh
  have c1 := rap_Sound_ok R hRs
  rw [hRva] at c1
  simp
  refine hJ.exitS (Sl.toV [(4, .ptr 304 0 (s4+1))]
      [(2, .row r.cells s), (304, .row [L r.d.limits, LP r.d.beside, LP r.d.blows, LR (m r.n)] (s4+1))] (Sl.raps (a := L r.d.limits) (b := LP r.d.beside) (c := LP r.d.blows) 304 331 (l := m r.n) (sx := s4 + 1) (st := st) (by simp) (by simp) (fun h0 => ?_) (fun h0 => ?_)) ?_)
  · exact Sl.refl ⟨rfl, by simp, by simp [Rp.cells]⟩
  · exact Sl.refl ⟨rfl, by simp, by simp [gS_pos h0, LR, Rp.cells]⟩
  simp
  refine PCallK.intro (PInv.func c1) ?_
  by_cases hc : R.canF = []
  · have : r.showsP r.setsL q = true := by rw [hsh]; simp [hc]
    rw [this] at hK
    simp [Rp.soundV, hRv, hc]
    exact RetV.view [(2, .row r.cells s)] (by simp [Rp.cells]) hK
  · have : r.showsP r.setsL q = decide (Rp.soundN R.canF = 2) := by rw [hsh]; simp [hc]
    rw [this] at hK
    rw [Rp.soundV_ok hRv hc]
    by_cases h2 : Rp.soundN R.canF = 2
    · simp [h2] at hK ⊢
      exact RetV.view [(2, .row r.cells s)] (by simp [Rp.cells]) hK
    · simp [h2] at hK ⊢
      exact RetV.view [(2, .row r.cells s)] (by simp [Rp.cells]) hK
theorem FCall.shows {F n₀ : Nat} {inr : Bool} {keep : List Nat} {fa fl : List It} {t : Option Nat} {K : KT} {Q : Post} {tm : TM} {df : DF} {h : Heap} {r : Rp} (hs : r.Small) (hv : r.Valid) (h4 : r.k ≤ 4) {q : Int} (hq : 0 ≤ q ∧ q < 2 ^ r.n) {s : Nat} (hr : h 2 = .row r.cells s) (f : FaOk F fa tm h)
    (next : FlOk fl (putD tm t (.bool (r.showsP r.setsL q))) (upd h 2 (.row r.cells s)) ∧ K (putD tm t (.bool (r.showsP r.setsL q))) df (upd h 2 (.row r.cells s))) :
    FCall ⟨Pg, F, n₀, inr, keep⟩ (.func (.func fn_law13_RapFewest_1) [] [.ptr 2 0 s]) [.int .i64 q] fa fl t K Q tm df h := by
  refine FCall.cps [(2, .row r.cells s)] (fun _ : Unit => .bool (r.showsP r.setsL q)) (fun _ => [(2, .row r.cells s)]) (fun _ => True) (fun K' hK' => AInvoke.func ?_) (by simpa using hr) (fun _ => rfl) f (fun _ _ => by simpa using next)
  exact law13_RapFewest_1_ok r hs hv h4 q hq s K' (hK' () trivial)

/-- A set without one of its seams is smaller. -/
theorem less_one {n : Nat} (hn : n ≤ 60) {q : Int} (hq : 0 ≤ q ∧ q < 2 ^ n) {i : Nat} (hi : i < n) (hqi : inS q i = true) : ∃ p, bitI .andNot .i64 q (2 ^ i) = p ∧ (0 ≤ p ∧ p < 2 ^ n) ∧ sizeS p < sizeS q := by
  have e1 : bitI .andNot .i64 q (2 ^ i) = bits (fun j => inS q j && !decide (j = i)) n := by
    conv => lhs; rw [← bits_inS hq, ← bits_pow hi]
    exact bitsI_andNot _ _ hn
  refine ⟨_, e1, bits_lt _ _, ?_⟩
  rw [sizeS_n hn (bits_lt _ _), sizeS_n hn hq]
  refine sumN_lt (fun j hj => ?_) hi ?_
  · rw [inS_bits _ hj]
    cases inS q j <;> by_cases hji : j = i <;> simp [hji]
  · rw [inS_bits _ hi, hqi]; simp

theorem law13_RapFewest_ok (r : Rp) (w : Int) (hw : 0 ≤ w ∧ w ≤ 255) : APure Pg fn_law13_RapFewest [r.v, .int .u8 w] (.bool true) := by
  have hva : r.v = .agg [L r.d.limits, LP r.d.beside, LP r.d.blows, LR r.rs] := rfl
  have hnl : r.d.limits.length = r.n := rfl
  have hkl : r.rs.length = r.k := rfl
  have cL := law13_long_ok r
  rw [hva] at cL
  refine law13_RapFewest.pure (by simp) ?_
  simp
  intro s
  refine PCallK.intro (PInv.func cL) ?_
  cases hlg : r.longB with
  | true =>
    simp
    refine PCallK.intro (PInv.func law13_alive_ok) ?_
    simp
    exact RetV.refl rfl
  | false =>
  have hs := Rp.longB_iff.1 hlg
  have cR := ref13_Rap_ok r hs
  rw [hva] at cR
  simp
  refine PCallK.intro (PInv.func cR) ?_
  by_cases hv : ¬ r.Valid
  · simp [hv]
    refine PCallK.intro (PInv.func law13_alive_ok) ?_
    simp
    exact RetV.refl rfl
  replace hv := Classical.not_not.1 hv
  by_cases h4 : ¬ r.k ≤ 4
  · simp [hv, hkl, show (4 : Int) < r.k by omega]
    refine PCallK.intro (PInv.func law13_alive_ok) ?_
    simp
    exact RetV.refl rfl
  replace h4 := Classical.not_not.1 h4
  have hn6 : r.n ≤ 6 := hv.d.n6
  have hn1 : 1 ≤ r.n := hv.d.n1
  have e6 : (2 : Int) ^ 6 = 64 := by decide
  have h2p := two_pow_le hn6
  have hpp := two_pow_pos r.n
  have e60 : (2 : Int) ^ 60 = 1152921504606846976 := by decide
  have c1 := rap_Fewest_ok r hs
  have c2 := rap_Sets_ok r hs
  rw [hva] at c1 c2
  simp [hv, hkl, show ¬ ((4 : Int) < r.k) by omega]
  refine PCallK.intro (PInv.func c1) ?_
  by_cases hc : r.canF = []
  · simp [Rp.fewV, hv, hc]
    refine PCallK.intro (PInv.func c2) ?_
    simp [Rp.setsV, hv, hc]
    refine PCallK.intro (PInv.func law13_alive_ok) ?_
    simp
    exact RetV.refl rfl
  obtain ⟨b, hb1, hb2, hb3, hb4, hb5, hb6⟩ := Rp.few_some hv hc
  have hwS : IntKind.i64.wrap ((2 : Int) ^ r.n) = 2 ^ r.n := wrap_i64s (by omega) (by omega)
  have hww : IntKind.i64.wrap w = w := wrap_i64s (by omega) (by omega)
  obtain ⟨o, ho, hob⟩ := and_all (m := w) (by omega) (show r.n ≤ 60 by omega)
  have cz := ref13_Size_ok b.1 (by omega)
  have co := ref13_Size_ok o (by omega)
  rw [← hb3] at cz
  rw [hb2]
  simp [hnl, hwS]
  repeat first | refine And.intro (by omega) ?_ | refine And.intro (by unfold Fits; omega) ?_
  have hb0 : ¬ b.1 < 0 := by omega
  have hbe : ¬ (2 : Int) ^ r.n - 1 < b.1 := by omega
  simp [hb0, hbe]
  refine PCallK.intro (PInv.func cz) ?_
  simp
  refine FCall.shows hs hv h4 hb4 (by simp [Rp.cells]) (by simp) ⟨by simp, ?_⟩
  simp [hb5, Rp.cells, hnl]
  refine Lp.intro (σ := Nat) (inv := fun k => k ≤ r.n)
    (vw := fun k => [(1, .int .u8 w), (2, .ptr 2 0 (s+1)), (5, .int .i64 b.2), (6, .int .i64 b.1), (10, .int .i64 (2 ^ r.n - 1)), (11, .func (.func fn_law13_RapFewest_1) [] [.ptr 2 0 (s+1)]), (89, .int .i64 r.n), (90, .int .i64 k)])
    (hp := fun _ => [(2, .row r.cells (s+1))]) (ms := fun k => r.n - k) 0 (by simp) (by simp [hnl]) (by simp [Rp.cells]) ?_
  intro k hk J hJ
  by_cases hkc : k < r.n
  · have hbi := inS_and1 (s := b.1) (by omega) k
    have hwk : IntKind.i64.wrap ((2 : Int) ^ k) = 2 ^ k := wrap_i64s (by have := two_pow_pos k; omega) (by have := two_pow_le (show k ≤ 6 by omega); omega)
    cases hqk : inS b.1 k
    · rw [hqk] at hbi
      simp [hkc, hbi]
      (repeat first | refine And.intro (by omega) ?_ | refine And.intro (Fits.of (by omega) (by omega)) ?_)
      exact hJ.next (k + 1) (by omega) (by omega) (by simp) (by simp)
    · rw [hqk] at hbi
      obtain ⟨p, hp1, hp2, hp3⟩ := less_one (show r.n ≤ 60 by omega) hb4 hkc hqk
      have hps : r.showsP r.setsL p = false := by
        cases h : r.showsP r.setsL p
        · rfl
        · have := hb6 p hp2 h; omega
      simp [hkc, hbi, hwk, hp1]
      have hpk := two_pow_pos k
      have hpk2 := two_pow_le (show k ≤ 6 by omega)
      repeat first | refine And.intro (by omega) ?_ | refine And.intro (by unfold Fits; omega) ?_
      refine FCall.shows hs hv h4 hp2 (by simp [Rp.cells]) (by simp) ⟨by simp, ?_⟩
      simp [hps, Rp.cells]
      (repeat first | refine And.intro (by omega) ?_ | refine And.intro (Fits.of (by omega) (by omega)) ?_)
      exact hJ.next (k + 1) (by omega) (by omega) (by simp) (by simp [Rp.cells])
  obtain rfl : k = r.n := by omega
  simp
  refine hJ.exit ?_
  simp [hnl, hww, ho, Rp.cells]
  repeat first | refine And.intro (by omega) ?_ | refine And.intro (by unfold Fits; omega) ?_
  refine FCall.shows hs hv h4 hob (by simp [Rp.cells]) (by simp) ⟨by simp, ?_⟩
  cases hso : r.showsP r.setsL o
  · simp
    refine PCallK.intro (PInv.func law13_alive_ok) ?_
    simp
    exact RetV.refl rfl
  · have hmin := hb6 o hob hso
    simp
    refine FCall.pure (PInv.func co) ?_
    by_cases hlt : b.2 < sizeS o
    · simp [hlt]
      refine PCallK.intro (PInv.func law13_alive_ok) ?_
      simp
      exact RetV.refl rfl
    · have he : sizeS o = b.2 := by omega
      have hle : b.1 ≤ o := by omega
      simp [hlt, he]
      refine FCall.pure (PInv.func co) ?_
      simp [he, hle]
      refine PCallK.intro (PInv.func law13_alive_ok) ?_
      simp
      exact RetV.refl rfl
end Go.Cw
end

/- The law Next. -/
section
set_option maxRecDepth 100000
set_option linter.unusedSimpArgs false
namespace Go.Cw
open Go Go.Proofs

theorem filter_both {α : Type} (p : α → Bool) (l : List α) : (l.filter p).length + (l.filter fun x => !p x).length = l.length := by
  induction l with
  | nil => rfl
  | cons a l ih =>
    cases h : p a
    · rw [List.filter_cons_of_neg (by simp [h]), List.filter_cons_of_pos (by simp [h])]; simp; omega
    · rw [List.filter_cons_of_pos h, List.filter_cons_of_neg (by simp [h])]; simp; omega
namespace Rp
theorem sets_fit {r : Rp} (hv : r.Valid) : r.setsL = (r.opL.map fun (i : Nat) => (i : Int)).filter r.fitA := by
  rw [sets_eq hv]
  unfold refL
  exact List.filter_congr fun x _ => r.fits_every x
theorem sets_of {r : Rp} (hv : r.Valid) {m : List (Int × Bool)} (hm : (r.of (r.rs ++ m)).Valid) : (r.of (r.rs ++ m)).setsL = r.setsL.filter fun o => m.all fun x => r.hears o x.1.toNat == x.2 := by
  rw [sets_fit hm, sets_fit hv, List.filter_filter]
  refine List.filter_congr fun o _ => ?_
  rw [fitA_of, List.all_append, Bool.and_comm]
  rfl
/-- With one rap more. -/
def one (r : Rp) (i : Nat) (d : Bool) : Rp := r.of (r.rs ++ [((i : Int), d)])
theorem one_valid {r : Rp} (hv : r.Valid) (hk : r.k < 10) {i : Nat} (hi : i < r.n) (d : Bool) : (r.one i d).Valid := by
  refine hv.of ?_ fun x hx => ?_
  · have : r.rs.length = r.k := rfl
    rw [List.length_append]; simp; omega
  · rcases List.mem_append.1 hx with h | h
    · exact hv.sm x h
    · simp only [List.mem_singleton] at h
      subst h
      have : r.d.n = r.n := rfl
      unfold Drv.Seam; simp; omega
theorem one_sets {r : Rp} (hv : r.Valid) (hk : r.k < 10) {i : Nat} (hi : i < r.n) (d : Bool) : (r.one i d).setsL = r.setsL.filter fun o => r.hears o i == d := by
  unfold one
  rw [sets_of hv (one_valid hv hk hi d)]
  refine List.filter_congr fun o _ => ?_
  simp
theorem one_true {r : Rp} (hv : r.Valid) (hk : r.k < 10) {i : Nat} (hi : i < r.n) : (r.one i true).setsL.length = cntD r.dl r.canF i := by
  rw [one_sets hv hk hi, r.cnt_eq _ hi]
  show _ = (r.setsL.filter fun x => r.hears x i).length
  congr 1
  refine List.filter_congr fun o _ => by simp
theorem one_false {r : Rp} (hv : r.Valid) (hk : r.k < 10) {i : Nat} (hi : i < r.n) : (r.one i false).setsL.length = r.setsL.length - cntD r.dl r.canF i := by
  have h := filter_both (fun o => r.hears o i) r.setsL
  have h1 := one_true hv hk hi
  rw [one_sets hv hk hi] at h1 ⊢
  have e1 : (r.setsL.filter fun o => r.hears o i == true) = r.setsL.filter fun o => r.hears o i := List.filter_congr fun o _ => by simp
  have e2 : (r.setsL.filter fun o => r.hears o i == false) = r.setsL.filter fun o => !r.hears o i := List.filter_congr fun o _ => by simp
  rw [e1] at h1
  rw [e2]
  omega
theorem setsV_e (r : Rp) (hv : r.Valid) : ∃ e, r.setsV = .tup [L r.setsL, .int .i64 e] ∧ (e = 0 ∨ e = 10) ∧ (e = 0 ↔ r.setsL ≠ []) := by
  by_cases hc : r.canF = []
  · have hl := r.setsL_nil.1 hc
    exact ⟨10, by simp [setsV, hv, hc, hl], .inr rfl, by simp [hl]⟩
  · exact ⟨0, setsV_ok hv hc, .inl rfl, by simp; exact mt r.setsL_nil.2 hc⟩
/-- How many sets can be open behind a rap, at worst. -/
noncomputable def aft (r : Rp) (i : Nat) : Int := max (cntD r.dl r.canF i : Int) (r.setsL.length - cntD r.dl r.canF i)
theorem cntD_le (dl : Fin 64 → Int) (l : List (Fin 64)) (i : Nat) : cntD dl l i ≤ l.length := List.length_filter_le _ _
end Rp

theorem law13_RapNext_1_ok (r : Rp) (hs : r.Small) (hv : r.Valid) (hk : r.k < 10) (i : Nat) (hi : i < r.n) (s : Nat) (K : AEnd → Heap → Prop)
    (hK : K (.ret (.int .i64 (r.aft i))) (hpV [(2, .row r.cells s)])) : ACalls Pg fn_law13_RapNext_1 [.int .i64 i, .ptr 2 0 s] (hpV [(2, .row r.cells s)]) K := by
  have hn6 : r.n ≤ 6 := hv.d.n6
  have hkl : r.rs.length = r.k := rfl
  refine law13_RapNext_1.enter 300 (by simp) ?_
  simp [Rp.cells]
  intro s9
  have hln : r.setsL.length = r.canF.length := r.setsL_length
  have hcl := Rp.cntD_le r.dl r.canF i
  have hll := Rp.setsL_len hv
  refine Lp.intro (σ := Nat) (inv := fun k => k ≤ 2) (vw := fun k => [(0, .int .i64 i), (1, .ptr 2 0 s), (3, .int .i64 (if k = 0 then 0 else if k = 1 then Rp.cntD r.dl r.canF i else r.aft i)), (9, .sl 309 0 (s9+1) 2 (.ex 2)), (10, .int .i64 2), (11, .int .i64 k)])
    (hp := fun _ => [(2, .row r.cells s), (309, .row [.bool true, .bool false] (s9+1))]) (ms := fun k => 2 - k) 0 (by simp) (by simp) (by simp [Rp.cells]) ?_
  intro k hk2 J hJ
  rcases (show k = 0 ∨ k = 1 ∨ k = 2 by omega) with rfl | rfl | rfl
  · obtain ⟨R, hR⟩ : ∃ R, R = r.one i true := ⟨_, rfl⟩
    have hRv : R.Valid := by rw [hR]; exact Rp.one_valid hv hk hi _
    have hRs : R.Small := by rw [hR]; exact hs.of (by simp [hkl]; omega)
    have hRl : (R.setsL.length : Int) = Rp.cntD r.dl r.canF i := by rw [hR, Rp.one_true hv hk hi]
    have hRva : R.v = .agg [L r.d.limits, LP r.d.beside, LP r.d.blows, LR (r.rs ++ [((i : Int), true)])] := by rw [hR]; rfl
    have c1 := rap_Sets_ok R hRs
    obtain ⟨e, he, he2, he3⟩ := Rp.setsV_e R hRv
    rw [hRva, he] at c1
    simp [Rp.cells]
    intro s306 s316 s319
    refine xAp_cp (by simp) (by simp) (by omega) ?_
    simp
    refine PCallK.intro (PInv.func (law13_find_ok _ _)) ?_
    simp
    intro s323 s324
    refine xApN_cp (n := r.rs.length) (cs := rfs r.rs) (by simp) (by simp) (by simp) (by omega) (by omega) ?_
    rw [show rfs r.rs ++ [AVal.int .i64 (i : Int), .bool true] = rfs (r.rs ++ [((i : Int), true)]) from rfs_push r.rs ((i : Int), true)]
    simp
    refine FCall.frz1 324 rfl (v := .tup [L R.setsL, .int .i64 e]) ?_ (by simp) ?_
    · have := PInv.func (first := []) (cap := []) (args := [.agg [L r.d.limits, LP r.d.beside, LP r.d.blows, LR (r.rs ++ [((i : Int), true)])]]) c1
      simpa [LR] using this
    rcases he2 with rfl | rfl
    all_goals simp
    all_goals (repeat first | refine And.intro (by omega) ?_ | refine And.intro (Fits.of (by omega) (by omega)) ?_)
    all_goals exact hJ.next 1 (by omega) (by omega) (by simp [hRl]) (by simp [Rp.cells])
  · obtain ⟨R, hR⟩ : ∃ R, R = r.one i false := ⟨_, rfl⟩
    have hRv : R.Valid := by rw [hR]; exact Rp.one_valid hv hk hi _
    have hRs : R.Small := by rw [hR]; exact hs.of (by simp [hkl]; omega)
    have hRl : max (Rp.cntD r.dl r.canF i : Int) R.setsL.length = r.aft i := by rw [hR, Rp.one_false hv hk hi]; unfold Rp.aft; omega
    have hRva : R.v = .agg [L r.d.limits, LP r.d.beside, LP r.d.blows, LR (r.rs ++ [((i : Int), false)])] := by rw [hR]; rfl
    have c1 := rap_Sets_ok R hRs
    obtain ⟨e, he, he2, he3⟩ := Rp.setsV_e R hRv
    rw [hRva, he] at c1
    simp [Rp.cells]
    intro s306 s316 s319
    refine xAp_cp (by simp) (by simp) (by omega) ?_
    simp
    refine PCallK.intro (PInv.func (law13_find_ok _ _)) ?_
    simp
    intro s323 s324
    refine xApN_cp (n := r.rs.length) (cs := rfs r.rs) (by simp) (by simp) (by simp) (by omega) (by omega) ?_
    rw [show rfs r.rs ++ [AVal.int .i64 (i : Int), .bool false] = rfs (r.rs ++ [((i : Int), false)]) from rfs_push r.rs ((i : Int), false)]
    simp
    refine FCall.frz1 324 rfl (v := .tup [L R.setsL, .int .i64 e]) ?_ (by simp) ?_
    · have := PInv.func (first := []) (cap := []) (args := [.agg [L r.d.limits, LP r.d.beside, LP r.d.blows, LR (r.rs ++ [((i : Int), false)])]]) c1
      simpa [LR] using this
    rcases he2 with rfl | rfl
    all_goals simp
    all_goals (repeat first | refine And.intro (by omega) ?_ | refine And.intro (Fits.of (by omega) (by omega)) ?_)
    all_goals exact hJ.next 2 (by omega) (by omega) (by simp [hRl]) (by simp [Rp.cells])
  · simp
    refine hJ.exit ?_
    simp
    exact RetV.view [(2, .row r.cells s)] (by simp [Rp.cells]) hK
theorem FCall.after {F n₀ : Nat} {inr : Bool} {keep : List Nat} {fa fl : List It} {t : Option Nat} {K : KT} {Q : Post} {tm : TM} {df : DF} {h : Heap} {r : Rp} (hs : r.Small) (hv : r.Valid) (hk : r.k < 10) {i : Nat} (hi : i < r.n) {s : Nat} (hr : h 2 = .row r.cells s) (f : FaOk F fa tm h)
    (next : FlOk fl (putD tm t (.int .i64 (r.aft i))) (upd h 2 (.row r.cells s)) ∧ K (putD tm t (.int .i64 (r.aft i))) df (upd h 2 (.row r.cells s))) :
    FCall ⟨Pg, F, n₀, inr, keep⟩ (.func (.func fn_law13_RapNext_1) [] [.ptr 2 0 s]) [.int .i64 i] fa fl t K Q tm df h := by
  refine FCall.cps [(2, .row r.cells s)] (fun _ : Unit => .int .i64 (r.aft i)) (fun _ => [(2, .row r.cells s)]) (fun _ => True) (fun K' hK' => AInvoke.func ?_) (by simpa using hr) (fun _ => rfl) f (fun _ _ => by simpa using next)
  exact law13_RapNext_1_ok r hs hv hk i hi s K' (hK' () trivial)

namespace Rp
theorem aft_g {r : Rp} (i : Nat) : (nextG r.dl r.canF (i : Int)).1 = r.aft i ∧ ((nextG r.dl r.canF (i : Int)).2 = true ↔ r.aft i < r.setsL.length) := by
  have hln : r.setsL.length = r.canF.length := r.setsL_length
  have hcl := cntD_le r.dl r.canF i
  unfold nextG aft
  simp only [Int.toNat_natCast, decide_eq_true_eq, hln]
  constructor
  · trivial
  · omega
/-- What Next tells. -/
theorem next_told {r : Rp} (hv : r.Valid) (hc : r.canF ≠ []) :
    (r.nextV = .tup [.int .i64 0, .int .i64 0, .int .i64 11] ∧ r.setsL.length = 1) ∨
    (r.nextV = .tup [.int .i64 0, .int .i64 0, .int .i64 4] ∧ 1 < r.setsL.length ∧ ∀ i, i < r.n → r.aft i = r.setsL.length) ∨
    (∃ (j : Nat) (m : Int), r.nextV = .tup [.int .i64 j, .int .i64 m, .int .i64 0] ∧ 1 < r.setsL.length ∧ j < r.n ∧ m < r.setsL.length ∧ r.aft j = m ∧ ∀ i, i < r.n → m < r.aft i ∨ (m = r.aft i ∧ j ≤ i)) := by
  have hln : r.setsL.length = r.canF.length := r.setsL_length
  have hpos := List.length_pos_iff.2 hc
  by_cases h1 : r.canF.length ≤ 1
  · exact .inl ⟨by simp [nextV, hv, hc, h1], by omega⟩
  have haft : ∀ i, r.aft i ≤ r.setsL.length := fun i => by have := cntD_le r.dl r.canF i; unfold aft; omega
  cases hB : r.nextB with
  | none =>
    refine .inr (.inl ⟨by simp [nextV, hv, hc, h1, hB], by omega, fun i hi => ?_⟩)
    have := bestC_none hB hi
    have h2 := (r.aft_g i).2
    rw [this] at h2
    have h3 := haft i
    have : ¬ r.aft i < r.setsL.length := fun h => by have := h2.2 h; cases this
    omega
  | some b =>
    obtain ⟨a1, a2, a3, a4, a5⟩ := bestC_min _ r.n b hB
    obtain ⟨j, hj⟩ : ∃ j : Nat, b.1 = j := ⟨b.1.toNat, by omega⟩
    have g1 := r.aft_g j
    rw [hj] at a1 a3 a4
    refine .inr (.inr ⟨j, b.2, by simp [nextV, hv, hc, h1, hB, hj], by omega, by omega, ?_, by rw [a1, g1.1], fun i hi => ?_⟩)
    · rw [a1, g1.1]; exact g1.2.1 a4
    · by_cases hlt : r.aft i < r.setsL.length
      · have := a5 i hi ((r.aft_g i).2.2 hlt)
        rw [(r.aft_g i).1, hj] at this
        omega
      · have := g1.2.1 a4
        rw [← g1.1, ← a1] at this
        omega
end Rp

theorem law13_RapNext_ok (r : Rp) (w : Int) (hw : 0 ≤ w ∧ w ≤ 255) : APure Pg fn_law13_RapNext [r.v, .int .u8 w] (.bool true) := by
  have hva : r.v = .agg [L r.d.limits, LP r.d.beside, LP r.d.blows, LR r.rs] := rfl
  have hnl : r.d.limits.length = r.n := rfl
  have hkl : r.rs.length = r.k := rfl
  have cL := law13_long_ok r
  rw [hva] at cL
  refine law13_RapNext.pure (by simp) ?_
  simp
  intro s
  refine PCallK.intro (PInv.func cL) ?_
  cases hlg : r.longB with
  | true =>
    simp
    refine PCallK.intro (PInv.func law13_alive_ok) ?_
    simp
    exact RetV.refl rfl
  | false =>
  have hs := Rp.longB_iff.1 hlg
  have cR := ref13_Rap_ok r hs
  rw [hva] at cR
  simp
  refine PCallK.intro (PInv.func cR) ?_
  by_cases hv : ¬ r.Valid
  · simp [hv]
    refine PCallK.intro (PInv.func law13_alive_ok) ?_
    simp
    exact RetV.refl rfl
  replace hv := Classical.not_not.1 hv
  by_cases h10 : ¬ r.k < 10
  · simp [hv, hkl, show (10 : Int) ≤ r.k by omega]
    refine PCallK.intro (PInv.func law13_alive_ok) ?_
    simp
    exact RetV.refl rfl
  replace h10 := Classical.not_not.1 h10
  have hn6 : r.n ≤ 6 := hv.d.n6
  have hn1 : 1 ≤ r.n := hv.d.n1
  have c1 := rap_Next_ok r hs
  have c2 := rap_Sets_ok r hs
  rw [hva] at c1 c2
  have hww : IntKind.i64.wrap w = w := wrap_i64s (by omega) (by omega)
  obtain ⟨i, hi, hin⟩ := rem_u8 hw hn1
  simp [hv, hkl, show ¬ ((10 : Int) ≤ r.k) by omega]
  refine PCallK.intro (PInv.func c1) ?_
  by_cases hc : r.canF = []
  · simp [Rp.nextV, hv, hc]
    refine PCallK.intro (PInv.func c2) ?_
    simp [Rp.setsV, hv, hc]
    refine PCallK.intro (PInv.func law13_alive_ok) ?_
    simp
    exact RetV.refl rfl
  have hln : r.setsL.length = r.canF.length := r.setsL_length
  have hpos := List.length_pos_iff.2 hc
  have hll := Rp.setsL_len hv
  rw [Rp.setsV_ok hv hc] at c2
  have haft : 1 ≤ r.aft i ∧ r.aft i ≤ r.setsL.length := by have := Rp.cntD_le r.dl r.canF i; unfold Rp.aft; omega
  have a1 : ¬ r.aft i < 1 := by omega
  have a2 : ¬ (r.setsL.length : Int) < r.aft i := by omega
  rcases Rp.next_told hv hc with ⟨hN, h1⟩ | ⟨hN, h1, h2⟩ | ⟨j, m, hN, h1, hjn, hm, hjm, hmin⟩
  · rw [hN]
    have haf : r.aft i = 1 := by omega
    simp
    refine PCallK.intro (PInv.func c2) ?_
    simp [hnl, hww, hi]
    repeat first | refine And.intro (by omega) ?_ | refine And.intro (by unfold Fits; omega) ?_
    refine FCall.after hs hv h10 hin (by simp [Rp.cells]) (by simp) ⟨by simp, ?_⟩
    simp [haf, h1]
    refine PCallK.intro (PInv.func law13_alive_ok) ?_
    simp
    exact RetV.refl rfl
  · rw [hN]
    have haf := h2 i hin
    have h1' : ¬ ((r.setsL.length : Int) = 1) := by omega
    have h1'' : ¬ ((r.setsL.length : Int) < 1) := by omega
    have h1n : ¬ r.setsL.length = 1 := by omega
    simp
    refine PCallK.intro (PInv.func c2) ?_
    simp [hnl, hww, hi]
    repeat first | refine And.intro (by omega) ?_ | refine And.intro (by unfold Fits; omega) ?_
    refine FCall.after hs hv h10 hin (by simp [Rp.cells]) (by simp) ⟨by simp, ?_⟩
    simp [haf, h1', h1'', h1n]
    refine PCallK.intro (PInv.func law13_alive_ok) ?_
    simp
    exact RetV.refl rfl
  · rw [hN]
    have h1' : ¬ ((r.setsL.length : Int) = 1) := by omega
    have h1n : ¬ r.setsL.length = 1 := by omega
    have hm2 := hmin i hin
    have hji : (j : Int) < r.n := by omega
    simp
    refine PCallK.intro (PInv.func c2) ?_
    simp [hnl, hww, hi]
    repeat first | refine And.intro (by omega) ?_ | refine And.intro (by unfold Fits; omega) ?_
    refine FCall.after hs hv h10 hin (by simp [Rp.cells]) (by simp) ⟨by simp, ?_⟩
    simp [a1, a2, h1', h1n, hm, hji, Rp.cells, hnl, hjn]
    refine FCall.after hs hv h10 hjn (by simp [Rp.cells]) (by simp) ⟨by simp, ?_⟩
    simp [hjm]
    by_cases hlt : m < r.aft i
    · simp [hlt]
      refine PCallK.intro (PInv.func law13_alive_ok) ?_
      simp
      exact RetV.refl rfl
    · have he : m = r.aft i ∧ j ≤ i := by omega
      simp [hlt, he.1.symm, he.2]
      refine PCallK.intro (PInv.func law13_alive_ok) ?_
      simp
      exact RetV.refl rfl
end Go.Cw
end

/- The law Wrong. -/
section
set_option maxRecDepth 100000
set_option linter.unusedSimpArgs false
namespace Go.Cw
open Go Go.Proofs

namespace Rp
/-- The first raps that are not in a set. -/
def keep (r : Rp) (q : Int) : Nat → List (Int × Bool)
  | 0 => []
  | k + 1 => r.keep q k ++ (match r.rs[k]? with
    | some a => if inS q k then [] else [a]
    | none => [])
theorem keep_len (r : Rp) (q : Int) (k : Nat) : (r.keep q k).length ≤ k := by
  induction k with
  | zero => simp [keep]
  | succ k ih =>
    simp only [keep, List.length_append]
    cases r.rs[k]? with
    | none => simp; omega
    | some a => simp only; split <;> simp <;> omega
theorem keep_mem {r : Rp} {q : Int} {k : Nat} {x : Int × Bool} (h : x ∈ r.keep q k) : x ∈ r.rs := by
  induction k with
  | zero => simp [keep] at h
  | succ k ih =>
    simp only [keep, List.mem_append] at h
    rcases h with h | h
    · exact ih h
    · cases hk : r.rs[k]? with
      | none => simp [hk] at h
      | some a =>
        simp only [hk] at h
        split at h
        · simp at h
        · simp only [List.mem_singleton] at h
          subst h
          exact List.mem_of_getElem? hk
theorem keep_valid {r : Rp} (hv : r.Valid) (q : Int) : (r.of (r.keep q r.k)).Valid :=
  hv.of (by have := r.keep_len q r.k; have := hv.k10; omega) fun x hx => hv.sm x (keep_mem hx)
theorem inS_rest {r : Rp} {q : Int} (hq : 0 ≤ q ∧ q < 2 ^ r.k) {j : Nat} (hj : j < r.k) : inS (2 ^ r.k - 1 - q) j = !inS q j := by
  rw [← rest_sub hq]
  exact inS_bits _ hj
theorem keep_fit {r : Rp} {q : Int} (hq : 0 ≤ q ∧ q < 2 ^ r.k) (o : Int) : (r.of (r.keep q r.k)).fitA o = r.fits (2 ^ r.k - 1 - q) o := by
  rw [fitA_of]
  suffices h : ∀ k, k ≤ r.k → ((r.keep q k).all fun x => r.hears o x.1.toNat == x.2) = (List.range k).all fun j => !inS (2 ^ r.k - 1 - q) j || ((r.rs[j]?.map fun x => r.hears o x.1.toNat == x.2).getD true) from h r.k (Nat.le_refl _)
  intro k hk
  induction k with
  | zero => rfl
  | succ k ih =>
    have hkl : k < r.rs.length := hk
    simp only [keep, List.all_append, ih (by omega), List.range_succ, List.getElem?_eq_getElem hkl, List.all_cons, List.all_nil, Bool.and_true, Option.map_some, Option.getD_some, inS_rest hq (show k < r.k from hk), Bool.not_not]
    cases inS q k <;> simp
/-- Can some set be open, without some raps? -/
noncomputable def canB (r : Rp) (q : Int) : Bool := decide (r.refL (2 ^ r.k - 1 - q) ≠ [])
theorem keep_sets {r : Rp} (hv : r.Valid) {q : Int} (hq : 0 ≤ q ∧ q < 2 ^ r.k) : (r.of (r.keep q r.k)).setsL = r.refL (2 ^ r.k - 1 - q) := by
  rw [sets_fit (keep_valid hv q)]
  unfold refL
  exact List.filter_congr fun o _ => keep_fit hq o
theorem canB_all {r : Rp} (hv : r.Valid) (hc : r.setsL ≠ []) (q : Int) : r.canB q = true := by
  unfold canB
  rw [decide_eq_true_eq]
  obtain ⟨o, ho⟩ := List.exists_mem_of_ne_nil _ hc
  obtain ⟨h1, h2, h3⟩ := (mem_sets hv).1 ho
  refine List.ne_nil_of_mem (refL_mem.2 ⟨h1, h2, ?_⟩)
  unfold fits fitA at *
  rw [List.all_eq_true] at h3 ⊢
  intro j hj
  have hj' : j < r.rs.length := List.mem_range.1 hj
  rw [List.getElem?_eq_getElem hj']
  have := h3 r.rs[j] (List.getElem_mem hj')
  simp only [Option.map_some, Option.getD_some, this, Bool.or_true]
theorem canB_every {r : Rp} (hv : r.Valid) : r.canB (2 ^ r.k - 1) = true := by
  unfold canB
  rw [decide_eq_true_eq, Int.sub_self]
  obtain ⟨i, hi⟩ := List.exists_mem_of_ne_nil _ (opL_ne hv)
  refine List.ne_nil_of_mem (a := (i : Int)) ?_
  unfold refL
  exact List.mem_filter.2 ⟨List.mem_map.2 ⟨i, hi, rfl⟩, r.fits_zero _⟩
theorem wr_some {r : Rp} (hv : r.Valid) (hc : r.setsL = []) : ∃ b : Int, r.wrV = .tup [.int .i64 b, .int .i64 0] ∧ 1 ≤ b ∧ b < 2 ^ r.k ∧ r.canB b = true ∧ ∀ q, 0 ≤ q ∧ q < 2 ^ r.k → r.canB q = true → sizeS b < sizeS q ∨ (sizeS b = sizeS q ∧ b ≤ q) := by
  have hp := two_pow_pos r.k
  obtain ⟨N, hN⟩ : ∃ N : Nat, N = 2 ^ r.k := ⟨_, rfl⟩
  have hNi : (N : Int) = 2 ^ r.k := by rw [hN]; simp
  have hg : ∀ q, 0 ≤ q ∧ q < 2 ^ r.k → (r.wrG q).2 = r.canB q := fun q hq => wr_ok hv hq
  have hsome : r.wrB.isSome = true := by
    unfold wrB
    rw [← hN]
    refine bestC_some (x := 2 ^ r.k - 1) ?_ ?_
    · have : (2 : Int) ^ r.k - 1 = ((N - 1 : Nat) : Int) := by omega
      rw [this]
      exact List.mem_map.2 ⟨N - 1, List.mem_range.2 (by omega), rfl⟩
    · rw [hg _ (by omega)]; exact canB_every hv
  obtain ⟨b, hb⟩ := Option.isSome_iff_exists.1 hsome
  have hb' := hb
  unfold wrB at hb'
  rw [← hN] at hb'
  obtain ⟨h1, h2, h3, h4, h5⟩ := bestC_min _ N b hb'
  have hbr : 0 ≤ b.1 ∧ b.1 < 2 ^ r.k := by omega
  rw [hg _ hbr] at h4
  have hb0 : b.1 ≠ 0 := fun e => by
    rw [e] at h4
    unfold canB at h4
    rw [Int.sub_zero, ← sets_eq hv, hc] at h4
    simp at h4
  refine ⟨b.1, by simp [wrV, hv, hb, hb0], by omega, hbr.2, h4, fun q hq hs => ?_⟩
  obtain ⟨k, rfl⟩ : ∃ k : Nat, q = k := ⟨q.toNat, by omega⟩
  have := h5 k (by omega) (by rw [hg _ hq]; exact hs)
  have e1 : (r.wrG b.1).1 = sizeS b.1 := rfl
  have e2 : (r.wrG (k : Int)).1 = sizeS k := rfl
  rw [h1, e1, e2] at this
  exact this
end Rp

theorem law13_RapWrong_1_ok (r : Rp) (hs : r.Small) (hv : r.Valid) (q : Int) (hq : 0 ≤ q ∧ q < 2 ^ r.k) (s : Nat) (K : AEnd → Heap → Prop)
    (hK : K (.ret (.bool (r.canB q))) (hpV [(2, .row r.cells s)])) : ACalls Pg fn_law13_RapWrong_1 [.int .i64 q, .ptr 2 0 s] (hpV [(2, .row r.cells s)]) K := by
  have hk10 := hv.k10
  have h2p := two_pow_le hk10
  have e10 : (2 : Int) ^ 10 = 1024 := by decide
  have hkl : r.rs.length = r.k := rfl
  refine law13_RapWrong_1.enter 300 (by simp) ?_
  simp [Rp.cells]
  intro s4
  obtain ⟨m, hm⟩ : ∃ m : Nat → List (Int × Bool), m = r.keep q := ⟨_, rfl⟩
  have hml : ∀ k, (m k).length ≤ k := fun k => by rw [hm]; exact r.keep_len q k
  have hm0 : m 0 = [] := by rw [hm]; rfl
  refine Lp.intro' (σ := Nat × Nat) (inv := fun x => x.1 ≤ r.k) (vw := fun x => [(0, .int .i64 q), (4, .ptr 304 0 (s4+1)), (12, LR r.rs), (13, .int .i64 r.k), (14, .int .i64 x.1)])
    (hp := fun x => [(2, .row r.cells s), (304, .row [L r.d.limits, LP r.d.beside, LP r.d.blows, gS 2 328 (m x.1).length x.2] (s4+1)), (328, gO (m x.1).length (rfs (m x.1)) x.2)]) (ms := fun x => r.k - x.1) (0, 0) (by simp)
    (Sl.rowLe (cells := [L r.d.limits, LP r.d.beside, LP r.d.blows, .nils]) (s := s4 + 1) 304 [L r.d.limits, LP r.d.beside, LP r.d.blows, .es] (by simp) ⟨ALe.refl _, ALe.refl _, ALe.refl _, ALe.nils_es, trivial⟩ (Sl.refl ⟨rfl, by simp [hkl], by simp [Rp.cells, hm0]⟩)) ?_
  rintro ⟨k, st⟩ hk J hJ
  simp only at hk
  by_cases hkc : k < r.k
  · have hkn : k < r.rs.length := hkc
    obtain ⟨y, hy⟩ : ∃ y, r.rs[k] = y := ⟨_, rfl⟩
    have hgy : r.rs[k]? = some y := by rw [List.getElem?_eq_getElem hkn, hy]
    have hbi := inS_and1 (s := q) (by omega) k
    have hmk := hml k
    have hms : m (k + 1) = m k ++ (if inS q k then [] else [y]) := by rw [hm]; simp only [Rp.keep, hgy]
    cases hqk : inS q k
    · rw [hqk] at hms hbi
      simp only [Bool.false_eq_true, if_false] at hms
      have hml1 : (m (k + 1)).length = (m k).length + 1 := by rw [hms]; simp
      have hpsh : rfs (m k) ++ [.int .i64 y.1, .bool y.2] = rfs (m (k + 1)) := by rw [hms]; exact rfs_push _ _
      simp [hkc, hkn, hgy, hy, hbi]
      refine ⟨by omega, fun s6 => ⟨by omega, fun s27 s28 => ?_⟩⟩
      refine xApN_gS (cells := rfs (m k)) (by simp) (by simp) (by omega) (by omega) ?_
      rw [hpsh]
      simp
      (repeat first | refine And.intro (by omega) ?_ | refine And.intro (Fits.of (by omega) (by omega)) ?_)
      exact hJ.next (k + 1, s28 + 1) (by simp; omega) (by simp; omega) (by simp) (by simp [hml1])
    · rw [hqk] at hms hbi
      simp at hms
      simp [hkc, hkn, hgy, hy, hbi]
      refine ⟨by omega, fun s6 => ⟨by omega, ?_⟩⟩
      (repeat first | refine And.intro (by omega) ?_ | refine And.intro (Fits.of (by omega) (by omega)) ?_)
      exact hJ.next (k + 1, st) (by simp; omega) (by simp; omega) (by simp) (by simp [hms])
  obtain rfl : k = r.k := by omega
  obtain ⟨R, hR⟩ : ∃ R, R = r.of (r.keep q r.k) := ⟨_, rfl⟩
  have hRv : R.Valid := by rw [hR]; exact Rp.keep_valid hv q
  have hRs : R.Small := by rw [hR]; exact hs.of (by have := r.keep_len q r.k; omega)
  have hRva : R.v = .agg [L r.d.limits, LP r.d.beside, LP r.d.blows, LR (m r.k)] := by rw [hR, hm]; rfl
  have hRl := Rp.keep_sets hv hq
  rw [← hR] at hRl
  have c1 := rap_Sets_ok R hRs
  obtain ⟨e, he, he2, he3⟩ := Rp.setsV_e R hRv
  rw [hRva, he] at c1
  have hcb : r.canB q = decide (e = 0) := by unfold Rp.canB; rw [← hRl]; simp [he3]
  rw [hcb] at hK
  simp
  refine hJ.exitS (Sl.toV [(4, .ptr 304 0 (s4+1))]
      [(2, .row r.cells s), (304, .row [L r.d.limits, LP r.d.beside, LP r.d.blows, LR (m r.k)] (s4+1))] (Sl.raps (a := L r.d.limits) (b := LP r.d.beside) (c := LP r.d.blows) 304 328 (l := m r.k) (sx := s4 + 1) (st := st) (by simp) (by simp) (fun h0 => ?_) (fun h0 => ?_)) ?_)
  · exact Sl.refl ⟨rfl, by simp, by simp [Rp.cells]⟩
  · exact Sl.refl ⟨rfl, by simp, by simp [gS_pos h0, LR, Rp.cells]⟩
  simp
  refine PCallK.intro (PInv.func c1) ?_
  simp
  exact RetV.view [(2, .row r.cells s)] (by simp [Rp.cells]) hK
theorem FCall.can {F n₀ : Nat} {inr : Bool} {keep : List Nat} {fa fl : List It} {t : Option Nat} {K : KT} {Q : Post} {tm : TM} {df : DF} {h : Heap} {r : Rp} (hs : r.Small) (hv : r.Valid) {q : Int} (hq : 0 ≤ q ∧ q < 2 ^ r.k) {s : Nat} (hr : h 2 = .row r.cells s) (f : FaOk F fa tm h)
    (next : FlOk fl (putD tm t (.bool (r.canB q))) (upd h 2 (.row r.cells s)) ∧ K (putD tm t (.bool (r.canB q))) df (upd h 2 (.row r.cells s))) :
    FCall ⟨Pg, F, n₀, inr, keep⟩ (.func (.func fn_law13_RapWrong_1) [] [.ptr 2 0 s]) [.int .i64 q] fa fl t K Q tm df h := by
  refine FCall.cps [(2, .row r.cells s)] (fun _ : Unit => .bool (r.canB q)) (fun _ => [(2, .row r.cells s)]) (fun _ => True) (fun K' hK' => AInvoke.func ?_) (by simpa using hr) (fun _ => rfl) f (fun _ _ => by simpa using next)
  exact law13_RapWrong_1_ok r hs hv q hq s K' (hK' () trivial)

theorem law13_RapWrong_ok (r : Rp) (w : Int) (hw : 0 ≤ w ∧ w ≤ 65535) : APure Pg fn_law13_RapWrong [r.v, .int .u16 w] (.bool true) := by
  have hva : r.v = .agg [L r.d.limits, LP r.d.beside, LP r.d.blows, LR r.rs] := rfl
  have hnl : r.d.limits.length = r.n := rfl
  have hkl : r.rs.length = r.k := rfl
  have cL := law13_long_ok r
  rw [hva] at cL
  refine law13_RapWrong.pure (by simp) ?_
  simp
  intro s
  refine PCallK.intro (PInv.func cL) ?_
  cases hlg : r.longB with
  | true =>
    simp
    refine PCallK.intro (PInv.func law13_alive_ok) ?_
    simp
    exact RetV.refl rfl
  | false =>
  have hs := Rp.longB_iff.1 hlg
  have cR := ref13_Rap_ok r hs
  have c1 := rap_Wrong_ok r hs
  have c2 := rap_Sets_ok r hs
  rw [hva] at cR c1 c2
  simp
  refine PCallK.intro (PInv.func c1) ?_
  by_cases hv : ¬ r.Valid
  · simp [Rp.wrV, hv]
    refine PCallK.intro (PInv.func c2) ?_
    simp [Rp.setsV, hv]
    refine PCallK.intro (PInv.func cR) ?_
    simp [hv]
    refine PCallK.intro (PInv.func law13_alive_ok) ?_
    simp
    exact RetV.refl rfl
  replace hv := Classical.not_not.1 hv
  have hk10 := hv.k10
  have hpp := two_pow_pos r.k
  have h2p := two_pow_le hk10
  have e10 : (2 : Int) ^ 10 = 1024 := by decide
  have e60 : (2 : Int) ^ 60 = 1152921504606846976 := by decide
  have hwS : IntKind.i64.wrap ((2 : Int) ^ r.k) = 2 ^ r.k := by simp [IntKind.wrap, IntKind.signed, IntKind.bits]; omega
  have hww : IntKind.i64.wrap w = w := by simp [IntKind.wrap, IntKind.signed, IntKind.bits]; omega
  obtain ⟨o, ho, hob⟩ := and_all (m := w) (by omega) (show r.k ≤ 60 by omega)
  have co := ref13_Size_ok o (by omega)
  by_cases hc : r.setsL ≠ []
  · have hcc := mt r.setsL_nil.1 hc
    rw [Rp.wr_none hv hc]
    rw [Rp.setsV_ok hv hcc] at c2
    have hce := Rp.canB_all hv hc (2 ^ r.k - 1)
    have hco := Rp.canB_all hv hc o
    simp
    refine PCallK.intro (PInv.func c2) ?_
    simp
    refine PCallK.intro (PInv.func cR) ?_
    simp [hv, hkl, hwS, hww, ho]
    repeat first | refine And.intro (by omega) ?_ | refine And.intro (by unfold Fits; omega) ?_
    refine FCall.can hs hv (q := 2 ^ r.k - 1) (by omega) (by simp [Rp.cells]) (by simp) ⟨by simp, ?_⟩
    simp [hce]
    refine FCall.can hs hv hob (by simp [Rp.cells]) (by simp) ⟨by simp, ?_⟩
    simp [hco]
    refine PCallK.intro (PInv.func law13_alive_ok) ?_
    simp
    exact RetV.refl rfl
  replace hc := Classical.not_not.1 hc
  have hcc := r.setsL_nil.2 hc
  obtain ⟨b, hb, hb1, hb2, hb3, hb4⟩ := Rp.wr_some hv hc
  have hce := Rp.canB_every hv
  have cb := ref13_Size_ok b (by omega)
  have hbe : ¬ (2 : Int) ^ r.k - 1 < b := by omega
  have hb0 : ¬ b < 1 := by omega
  rw [hb]
  simp
  refine PCallK.intro (PInv.func c2) ?_
  simp [Rp.setsV, hv, hcc]
  refine PCallK.intro (PInv.func cR) ?_
  simp [hv, hkl, hwS, hww, ho]
  repeat first | refine And.intro (by omega) ?_ | refine And.intro (by unfold Fits; omega) ?_
  refine FCall.can hs hv (q := 2 ^ r.k - 1) (by omega) (by simp [Rp.cells]) (by simp) ⟨by simp, ?_⟩
  simp [hce, hb0, hbe]
  refine FCall.can hs hv (q := b) (by omega) (by simp [Rp.cells]) (by simp) ⟨by simp, ?_⟩
  simp [hb3, Rp.cells, hkl]
  refine Lp.intro (σ := Nat) (inv := fun k => k ≤ r.k)
    (vw := fun k => [(2, .ptr 2 0 (s+1)), (5, .int .i64 b), (9, .func (.func fn_law13_RapWrong_1) [] [.ptr 2 0 (s+1)]), (11, .int .i64 o), (96, .int .i64 r.k), (97, .int .i64 k)])
    (hp := fun _ => [(2, .row r.cells (s+1))]) (ms := fun k => r.k - k) 0 (by simp) (by simp [hkl]) (by simp [Rp.cells]) ?_
  intro k hk J hJ
  by_cases hkc : k < r.k
  · have hbi := inS_and1 (s := b) (by omega) k
    have hpk := two_pow_pos k
    have hpk2 := two_pow_le (show k ≤ 10 by omega)
    have hwk : IntKind.i64.wrap ((2 : Int) ^ k) = 2 ^ k := by simp [IntKind.wrap, IntKind.signed, IntKind.bits]; omega
    cases hqk : inS b k
    · rw [hqk] at hbi
      simp [hkc, hbi]
      (repeat first | refine And.intro (by omega) ?_ | refine And.intro (Fits.of (by omega) (by omega)) ?_)
      exact hJ.next (k + 1) (by omega) (by omega) (by simp) (by simp)
    · rw [hqk] at hbi
      obtain ⟨p, hp1, hp2, hp3⟩ := less_one (show r.k ≤ 60 by omega) (show 0 ≤ b ∧ b < 2 ^ r.k by omega) hkc hqk
      have hps : r.canB p = false := by
        cases h : r.canB p
        · rfl
        · have := hb4 p hp2 h; omega
      simp [hkc, hbi, hwk, hp1]
      repeat first | refine And.intro (by omega) ?_ | refine And.intro (by unfold Fits; omega) ?_
      refine FCall.can hs hv hp2 (by simp [Rp.cells]) (by simp) ⟨by simp, ?_⟩
      simp [hps, Rp.cells]
      (repeat first | refine And.intro (by omega) ?_ | refine And.intro (Fits.of (by omega) (by omega)) ?_)
      exact hJ.next (k + 1) (by omega) (by omega) (by simp) (by simp [Rp.cells])
  obtain rfl : k = r.k := by omega
  simp
  refine hJ.exit ?_
  simp
  refine FCall.can hs hv hob (by simp [Rp.cells]) (by simp) ⟨by simp, ?_⟩
  cases hso : r.canB o
  · simp
    refine PCallK.intro (PInv.func law13_alive_ok) ?_
    simp
    exact RetV.refl rfl
  · have hmin := hb4 o hob hso
    simp
    refine FCall.pure (PInv.func co) ?_
    simp
    refine FCall.pure (PInv.func cb) ?_
    by_cases hlt : sizeS b < sizeS o
    · simp [hlt]
      refine PCallK.intro (PInv.func law13_alive_ok) ?_
      simp
      exact RetV.refl rfl
    · have he : sizeS o = sizeS b := by omega
      have hle : b ≤ o := by omega
      simp [hlt, he]
      refine FCall.pure (PInv.func co) ?_
      simp
      refine FCall.pure (PInv.func cb) ?_
      simp [he, hle]
      refine PCallK.intro (PInv.func law13_alive_ok) ?_
      simp
      exact RetV.refl rfl
end Go.Cw
end
