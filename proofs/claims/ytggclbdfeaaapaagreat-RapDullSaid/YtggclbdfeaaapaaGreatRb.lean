/-
  What the document's reference of layer 13 computes; laws of layer 13; how a rap is read as an argument.
-/
import Derived.Test.YtggclbdfeaaapaaGreatRa
import Derived.Test.YtggclbdfeaaapaaGreatAe
import Derived.Test.YtggclbdfeaaapaaGreatAf
import Derived.Test.YtggclbdfeaaapaaGreatRows
set_option linter.unusedVariables false
set_option linter.unusedSimpArgs false
set_option linter.unusedSectionVars false

/- What the document's reference of the rap tells: small functions. -/
section
set_option maxRecDepth 100000
set_option linter.unusedSimpArgs false
namespace Go.Cw
open Go Go.Proofs

theorem sumN_nonneg {n : Nat} {c : Nat → Int} (h : ∀ j, j < n → 0 ≤ c j) : 0 ≤ sumN n c := by
  induction n with
  | zero => exact Int.le_refl _
  | succ n ih => simp only [sumN]; have := ih fun j hj => h j (by omega); have := h n (by omega); omega

theorem sumN_le {n : Nat} {c : Nat → Int} {m : Int} (h : ∀ j, j < n → c j ≤ m) : sumN n c ≤ n * m := by
  induction n with
  | zero => simp [sumN]
  | succ n ih =>
    simp only [sumN]
    have := ih fun j hj => h j (by omega)
    have := h n (by omega)
    rw [show ((n + 1 : Nat) : Int) * m = n * m + m by rw [Int.natCast_add, Int.add_mul]; simp]
    omega

theorem ref13_in_ok (n lo hi : Int) : APure Pg fn_ref13_in [.int .i64 n, .int .i64 lo, .int .i64 hi] (.bool (decide (lo ≤ n ∧ n ≤ hi))) := by
  refine ref13_in.pure (by simp) ?_
  by_cases h : lo ≤ n <;> simp [h] <;> refine RetV.refl ?_ <;> simp_all





end Go.Cw
end

/- The reference: is a rap valid; does a seam sound dull. -/
section
set_option maxRecDepth 100000
set_option linter.unusedSimpArgs false
namespace Go.Cw
open Go Go.Proofs

theorem ref13_Rap_ok (r : Rp) (hs : r.Small) : APure Pg fn_ref13_Rap [r.v] (.bool (decide r.Valid)) := by
  have hkl : r.rs.length = r.k := rfl
  have hk40 := hs.k
  have cD := ref05_Drive_ok r.d hs.d
  have hdv : r.d.v = .agg [L r.d.limits, LP r.d.beside, LP r.d.blows] := rfl
  rw [hdv] at cD
  refine ref13_Rap.pure (by simp) ?_
  simp
  intro s
  refine PCallK.intro (PInv.func cD) ?_
  by_cases h1 : ¬ r.d.Valid
  · simp [h1]
    exact RetV.refl (by simp [show ¬ r.Valid from fun h => h1 h.d])
  replace h1 := Classical.not_not.1 h1
  by_cases h2 : ¬ r.k ≤ 10
  · simp [h1, hkl, show (10 : Int) < (r.k : Int) by omega]
    exact RetV.refl (by simp [show ¬ r.Valid from fun h => h2 h.k10])
  replace h2 := Classical.not_not.1 h2
  simp [h1, hkl, show ¬ ((10 : Int) < (r.k : Int)) by omega]
  refine Lp.intro (σ := Nat) (inv := fun k => k ≤ r.k ∧ ∀ j x, j < k → r.rs[j]? = some x → r.d.Seam x.1) (vw := fun k => [(1, .ptr 1 0 (s+1)), (3, .int .i64 k)])
    (hp := fun _ => [(1, .row [L r.d.limits, LP r.d.beside, LP r.d.blows, LR r.rs] (s+1))]) (ms := fun k => r.k - k) 0 (by simp) (by simp) (by simp) ?_
  rintro k ⟨hk, inv⟩ J hJ
  by_cases hkc : k < r.k
  · have hkl2 : k < r.rs.length := hkc
    obtain ⟨a, hak⟩ : ∃ a, r.rs[k] = a := ⟨_, rfl⟩
    have hgk : r.rs[k]? = some a := by rw [List.getElem?_eq_getElem hkl2, hak]
    have cSm := ref05_Seam_ok r.d hs.d a.1
    rw [hdv] at cSm
    simp [hkc, hkl2, hkl, hak]
    refine PCallK.intro (PInv.func cSm) ?_
    by_cases h3 : ¬ r.d.Seam a.1
    · simp [h3]
      refine hJ.ret ?_
      simp
      exact RetV.refl (by simp [show ¬ r.Valid from fun h => h3 (h.sm a (List.mem_of_getElem? hgk))])
    replace h3 := Classical.not_not.1 h3
    simp [h3]
    (repeat first | refine And.intro (by omega) ?_ | refine And.intro (Fits.of (by omega) (by omega)) ?_)
    refine hJ.next (k + 1) ⟨by omega, fun j x hj hx => ?_⟩ (by omega) (by simp) (by simp)
    by_cases hjk : j = k
    · subst hjk
      rw [hgk] at hx; cases hx; exact h3
    · exact inv j x (by omega) hx
  obtain rfl : k = r.k := by omega
  have hV : r.Valid := ⟨h1, h2, fun x hx => by
    obtain ⟨j, hj, rfl⟩ := List.getElem_of_mem hx
    exact inv j _ hj (List.getElem?_eq_getElem hj)⟩
  simp [hkl]
  refine hJ.exit ?_
  simp
  exact RetV.refl (by simp [hV])
end Go.Cw
end

/- The reference: does a seam sound dull. -/
section
set_option maxRecDepth 100000
set_option linter.unusedSimpArgs false
namespace Go.Cw
open Go Go.Proofs

/-- Does a pair let a seam sound dull? -/
def pairH (o : Int) (i : Nat) (p : Int × Int) : Bool := (decide (p.1 = (i : Int)) && inS o p.2.toNat) || (decide (p.2 = (i : Int)) && inS o p.1.toNat)


end Go.Cw
end

/- The reference's Hears tells what the program's around tells; Dull. -/
section
set_option maxRecDepth 100000
set_option linter.unusedSimpArgs false
namespace Go.Cw
open Go Go.Proofs

theorem Rp.Valid.pr {r : Rp} (hv : r.Valid) {p : Int × Int} (hp : p ∈ r.d.beside) : (0 ≤ p.1 ∧ p.1 < r.n) ∧ 0 ≤ p.2 ∧ p.2 < r.n := by
  obtain ⟨i, hi, rfl⟩ := List.getElem_of_mem hp
  have := hv.d.pr i _ (List.getElem?_eq_getElem hi)
  unfold Drv.Seam at this
  have hn : r.d.n = r.n := rfl
  omega

theorem Rp.hears_eq {r : Rp} (hv : r.Valid) (o : Int) {i : Nat} (hi : i < r.n) : (inS o i || r.d.beside.any (pairH o i)) = r.hears o i := by
  rw [Bool.eq_iff_iff]
  unfold Rp.hears Rp.near nearL pairH
  simp only [Bool.or_eq_true, List.any_eq_true, List.mem_range, Bool.and_eq_true, decide_eq_true_eq]
  constructor
  · rintro (h | ⟨p, hp, (⟨h1, h2⟩ | ⟨h1, h2⟩)⟩)
    · exact ⟨i, hi, h, .inl rfl⟩
    · have := hv.pr hp
      refine ⟨p.2.toNat, by omega, h2, .inr ⟨p, hp, .inl ?_⟩⟩
      exact Prod.ext h1 (by simp; omega)
    · have := hv.pr hp
      refine ⟨p.1.toNat, by omega, h2, .inr ⟨p, hp, .inr ?_⟩⟩
      exact Prod.ext (by simp; omega) h1
  · rintro ⟨j, hj, h, (rfl | ⟨p, hp, (rfl | rfl)⟩)⟩
    · exact .inl h
    · exact .inr ⟨_, hp, .inl ⟨rfl, by simpa using h⟩⟩
    · exact .inr ⟨_, hp, .inr ⟨rfl, by simpa using h⟩⟩


end Go.Cw
end

/- The reference's Dull. -/
section
set_option maxRecDepth 100000
set_option linter.unusedSimpArgs false
namespace Go.Cw
open Go Go.Proofs


end Go.Cw
end

/- The reference's opened: which sets open in some truth. -/
section
set_option maxRecDepth 100000
set_option linter.unusedSimpArgs false
namespace Go.Cw
open Go Go.Proofs

/-- Truth values below a number. -/
def bs (N : Nat) (f : Nat → Bool) : List AVal := (List.range N).map fun i => .bool (f i)
@[simp] theorem bs_length (N : Nat) (f : Nat → Bool) : (bs N f).length = N := by simp [bs]
theorem bs_zero (N : Nat) : List.replicate N (AVal.bool false) = bs N fun _ => false := by
  apply List.ext_getElem (by simp)
  intro i h1 h2; simp [bs]
theorem bs_at {N : Nat} {f : Nat → Bool} {i : Nat} (hi : i < N) : (bs N f)[i]? = some (.bool (f i)) := by simp [bs, hi]
theorem bs_get {N : Nat} {f : Nat → Bool} {i : Nat} (h : i < (bs N f).length) : (bs N f)[i] = .bool (f i) := by simp [bs]
theorem bs_set {N : Nat} {f : Nat → Bool} {i : Nat} (hi : i < N) (b : Bool) : (bs N f).set i (.bool b) = bs N (upd f i b) := by
  apply List.ext_getElem (by simp)
  intro j h1 h2
  simp [bs, List.getElem_set, upd]
  split <;> rename_i h
  · subst h; simp
  · rw [if_neg (fun e => h e.symm)]

namespace Rp
/-- The sets that open in some truth, in order. -/
noncomputable def opL (r : Rp) : List Nat := (List.range (2 ^ r.n)).filter fun s => r.d.truths.any fun t => decide (r.opn t = (s : Int))
end Rp


end Go.Cw
end

/- Which sets sound as was heard, in plain words. -/
section
set_option maxRecDepth 100000
set_option linter.unusedSimpArgs false
namespace Go.Cw
open Go Go.Proofs

namespace Rp
/-- Does a set sound as was heard by the raps of a set? -/
def fits (r : Rp) (q o : Int) : Bool := (List.range r.k).all fun j => !inS q j || ((r.rs[j]?.map fun x => r.hears o x.1.toNat == x.2).getD true)
theorem inS_dl (r : Rp) (x : Fin 64) {i : Nat} (hi : i < r.n) : inS (r.dl x) i = r.hears x.val i := inS_bits _ hi
theorem Valid.seam {r : Rp} (hv : r.Valid) {x : Int × Bool} (hx : x ∈ r.rs) : x.1 = (x.1.toNat : Int) ∧ x.1.toNat < r.n := by
  have hm := hv.sm x hx
  have hn : r.d.n = r.n := rfl
  unfold Drv.Seam at hm
  omega
theorem clo_fits {r : Rp} (hv : r.Valid) (q : Int) (x : Fin 64) : (r.clo q r.k).all (r.okO x) = r.fits q x.val := by
  suffices h : ∀ k, k ≤ r.k → (r.clo q k).all (r.okO x) = (List.range k).all fun j => !inS q j || ((r.rs[j]?.map fun y => r.hears x.val y.1.toNat == y.2).getD true) from h r.k (Nat.le_refl _)
  intro k hk
  induction k with
  | zero => rfl
  | succ k ih =>
    have hkl : k < r.rs.length := hk
    have hs := hv.seam (x := r.rs[k]) (by simp)
    simp only [clo, List.all_append, ih (by omega), List.range_succ, List.getElem?_eq_getElem hkl, List.all_cons, List.all_nil, Bool.and_true, Option.map_some, Option.getD_some]
    cases hq : inS q k
    · simp
    · simp [okO, r.inS_dl x hs.2]
theorem seenF_mem (r : Rp) (l : List (List Int)) (x : Fin 64) : x ∈ r.seenF l ↔ ∃ t ∈ l, r.opF t = x := by
  induction l using list_push_ind with
  | h0 => simp [seenF]
  | h1 l t ih =>
    rw [seenF_push, mem_insK, ih]
    simp only [List.mem_append, List.mem_singleton]
    constructor
    · rintro (⟨t', h1, h2⟩ | h)
      · exact ⟨t', .inl h1, h2⟩
      · exact ⟨t, .inr rfl, h.symm⟩
    · rintro ⟨t', h1 | rfl, h2⟩
      · exact .inl ⟨t', h1, h2⟩
      · exact .inr h2.symm
theorem mem_soundsF {r : Rp} (hv : r.Valid) (x : Fin 64) : x ∈ r.soundsF ↔ ∃ t ∈ r.d.truths, r.opn t = (x.val : Int) := by
  have hn6 : r.n ≤ 6 := hv.d.n6
  unfold soundsF
  rw [(sortF_perm _).mem_iff, seenF_mem]
  constructor
  · rintro ⟨t, h1, rfl⟩; exact ⟨t, h1, (r.opF_val hn6 t).symm⟩
  · rintro ⟨t, h1, h2⟩
    have := r.opF_val hn6 t
    exact ⟨t, h1, Fin.ext (by omega)⟩
theorem mem_opL (r : Rp) (s : Nat) : s ∈ r.opL ↔ s < 2 ^ r.n ∧ ∃ t ∈ r.d.truths, r.opn t = (s : Int) := by
  unfold opL
  simp only [List.mem_filter, List.mem_range, List.any_eq_true, decide_eq_true_eq]
theorem opL_lt (r : Rp) : r.opL.Pairwise (· < ·) := List.Pairwise.filter _ List.pairwise_lt_range
theorem soundsF_lt (r : Rp) : r.soundsF.Pairwise fun a b => a.val < b.val := by
  have h1 := sortF_sorted (r.seenF r.d.truths)
  have h2 : (sortF (r.seenF r.d.truths)).Nodup := (sortF_perm _).nodup_iff.2 (r.seenF_nodup _)
  unfold List.Nodup at h2
  refine List.Pairwise.imp₂ (fun a b h1 h2 => ?_) h1 h2
  have : a.val ≠ b.val := fun e => h2 (Fin.ext e)
  omega
theorem val_lt {r : Rp} (hv : r.Valid) {x : Fin 64} (hx : x ∈ r.soundsF) : (x.val : Int) < 2 ^ r.n := by
  obtain ⟨t, _, h⟩ := (mem_soundsF hv x).1 hx
  have := r.opn_lt t
  omega
theorem sounds_eq {r : Rp} (hv : r.Valid) : r.soundsF.map (fun x => x.val) = r.opL := by
  have hp : (r.soundsF.map (fun x => x.val)).Pairwise (· < ·) := List.pairwise_map.2 r.soundsF_lt
  have hm : ∀ s, s ∈ r.soundsF.map (fun x => x.val) ↔ s ∈ r.opL := fun s => by
    rw [mem_opL, List.mem_map]
    have hn6 : r.n ≤ 6 := hv.d.n6
    have h64 : (2 : Nat) ^ r.n ≤ 2 ^ 6 := Nat.pow_le_pow_right (by omega) hn6
    constructor
    · rintro ⟨x, hx, rfl⟩
      have := val_lt hv hx
      exact ⟨by exact_mod_cast this, (mem_soundsF hv x).1 hx⟩
    · rintro ⟨h1, h2⟩
      exact ⟨⟨s, by omega⟩, (mem_soundsF hv _).2 h2, rfl⟩
  refine List.Perm.eq_of_pairwise (le := (· ≤ ·)) (fun a b _ _ h1 h2 => Nat.le_antisymm h1 h2) (hp.imp fun h => Nat.le_of_lt h) (r.opL_lt.imp fun h => Nat.le_of_lt h) ?_
  refine (List.perm_ext_iff_of_nodup (hp.imp fun h => Nat.ne_of_lt h) (r.opL_lt.imp fun h => Nat.ne_of_lt h)).2 hm
/-- The sets that can be open, by the raps of a set. -/
noncomputable def refL (r : Rp) (q : Int) : List Int := (r.opL.map fun (i : Nat) => (i : Int)).filter (r.fits q)
theorem heard_eq {r : Rp} (hv : r.Valid) (q : Int) : (r.heardF q r.soundsF).map (fun x => (x.val : Int)) = r.refL q := by
  unfold refL heardF
  rw [← sounds_eq hv, List.map_map, List.filter_map]
  congr 1
  refine List.filter_congr fun x _ => ?_
  simp [clo_fits hv]
theorem sets_eq {r : Rp} (hv : r.Valid) : r.setsL = r.refL (2 ^ r.k - 1) := heard_eq hv _
theorem refL_len {r : Rp} (q : Int) : (r.refL q).length ≤ 2 ^ r.n := by
  unfold refL opL
  refine Nat.le_trans (List.length_filter_le _ _) ?_
  rw [List.length_map]
  refine Nat.le_trans (List.length_filter_le _ _) ?_
  simp
theorem refL_mem {r : Rp} {q x : Int} : x ∈ r.refL q ↔ (0 ≤ x ∧ x < 2 ^ r.n) ∧ (∃ t ∈ r.d.truths, r.opn t = x) ∧ r.fits q x = true := by
  unfold refL
  simp only [List.mem_filter, List.mem_map]
  constructor
  · rintro ⟨⟨i, hi, rfl⟩, h2⟩
    rw [mem_opL] at hi
    exact ⟨⟨by omega, by exact_mod_cast hi.1⟩, hi.2, h2⟩
  · rintro ⟨h1, h2, h3⟩
    refine ⟨⟨x.toNat, ?_, by omega⟩, h3⟩
    rw [mem_opL]
    refine ⟨?_, by obtain ⟨t, a, b⟩ := h2; exact ⟨t, a, by omega⟩⟩
    have : ((x.toNat : Nat) : Int) < ((2 ^ r.n : Nat) : Int) := by simp; omega
    exact_mod_cast this
theorem refL_lt (r : Rp) (q : Int) : (r.refL q).Pairwise (· < ·) := by
  unfold refL
  refine List.Pairwise.filter _ (List.pairwise_map.2 (r.opL_lt.imp fun h => by omega))
end Rp
end Go.Cw
end

/- The first of the least, as the reference looks for it; plain words on what is told. -/
section
set_option maxRecDepth 100000
set_option linter.unusedSimpArgs false
namespace Go.Cw
open Go Go.Proofs

theorem sumN_lt {n : Nat} {c d : Nat → Int} (h : ∀ i, i < n → c i ≤ d i) {j : Nat} (hj : j < n) (hjd : c j < d j) : sumN n c < sumN n d := by
  induction n with
  | zero => omega
  | succ n ih =>
    simp only [sumN]
    have h1 := h n (by omega)
    by_cases hjn : j = n
    · subst hjn
      have : sumN j c ≤ sumN j d := by
        have hmono : ∀ m, m ≤ j → sumN m c ≤ sumN m d := fun m => by
          induction m with
          | zero => exact fun _ => Int.le_refl _
          | succ m ihm => intro hm; simp only [sumN]; have := ihm (by omega); have := h m (by omega); omega
        exact hmono j (Nat.le_refl _)
      omega
    · have := ih (fun i hi => h i (by omega)) (by omega)
      omega
theorem inS_high {s : Int} (h0 : 0 ≤ s) {n i : Nat} (h1 : s < 2 ^ n) (hi : n ≤ i) : inS s i = false := by
  unfold inS
  have hp : (2 : Int) ^ n ≤ 2 ^ i := by
    have := Nat.pow_le_pow_right (n := 2) (by omega) hi
    exact_mod_cast this
  rw [Int.ediv_eq_zero_of_lt h0 (by omega)]; rfl
theorem sizeS_n {s : Int} {n : Nat} (hn : n ≤ 60) (h : 0 ≤ s ∧ s < 2 ^ n) : sizeS s = sumN n fun i => if inS s i then 1 else 0 :=
  sumN_ext hn fun i hi => by rw [inS_high h.1 h.2 hi]; rfl
theorem inS_all {n i : Nat} (hi : i < n) : inS (2 ^ n - 1) i = true := by rw [← bits_all1, inS_bits _ hi]
theorem sizeS_lt {s : Int} {n : Nat} (hn : n ≤ 60) (h : 0 ≤ s ∧ s < 2 ^ n) (hne : s ≠ 2 ^ n - 1) : sizeS s < sizeS (2 ^ n - 1) := by
  have hp := two_pow_pos n
  rw [sizeS_n hn h, sizeS_n hn ⟨by omega, by omega⟩]
  obtain ⟨i, hi, hf⟩ : ∃ i, i < n ∧ inS s i = false := by
    refine Classical.byContradiction fun hc => hne ?_
    rw [← bits_inS h, ← bits_all1]
    refine bits_congr fun i hi => ?_
    cases hb : inS s i
    · exact absurd ⟨i, hi, hb⟩ hc
    · rfl
  refine sumN_lt (fun j hj => ?_) hi ?_
  · simp only [inS_all hj]
    split <;> simp
  · simp only [inS_all hi, hf]
    simp

/-- What was found, or another one. -/
def refB (m : Int) (B : Option (Int × Int)) : Int := (B.map Prod.fst).getD m
theorem tab_nat (k : Nat) : tab (k + 1) (fun i => (i : Int)) = tab k (fun i => (i : Int)) ++ [(k : Int)] := tab_succ _ _
theorem bestC_sz {g : Int → Int × Bool} (hg : ∀ y, (g y).1 = sizeS y) (k : Nat) : ∀ b, bestC g (tab k fun i => (i : Int)) = some b → b.2 = sizeS b.1 ∧ 0 ≤ b.1 ∧ b.1 < k ∧ (g b.1).2 = true := by
  induction k with
  | zero => intro b h; simp [tab, bestC] at h
  | succ k ih =>
    intro b h
    rw [tab_nat, bestC_push] at h
    obtain ⟨B, hB⟩ : ∃ B, bestC g (tab k fun i => (i : Int)) = B := ⟨_, rfl⟩
    rw [hB] at h ih
    have keep : B = some b → b.2 = sizeS b.1 ∧ 0 ≤ b.1 ∧ b.1 < ((k + 1 : Nat) : Int) ∧ (g b.1).2 = true := fun e => by
      obtain ⟨h1, h2, h3, h4⟩ := ih b e
      exact ⟨h1, h2, by omega, h4⟩
    have new : (g k).2 = true → some ((k : Int), (g k).1) = some b → b.2 = sizeS b.1 ∧ 0 ≤ b.1 ∧ b.1 < ((k + 1 : Nat) : Int) ∧ (g b.1).2 = true := fun h1 e => by
      cases e
      exact ⟨hg _, by simp, by simp; omega, h1⟩
    unfold betC at h
    by_cases h2 : (g k).2 = true
    · rw [if_pos h2] at h
      cases B with
      | none => exact new h2 h
      | some c =>
        simp only at h
        split at h
        · exact new h2 h
        · exact keep h
    · rw [if_neg h2] at h
      exact keep h
theorem refB_step {g : Int → Int × Bool} (hg : ∀ y, (g y).1 = sizeS y) {n k : Nat} (hn : n ≤ 60) (hk : k < 2 ^ n) :
    refB (2 ^ n - 1) (bestC g (tab (k + 1) fun i => (i : Int))) = if sizeS k < sizeS (refB (2 ^ n - 1) (bestC g (tab k fun i => (i : Int)))) ∧ (g k).2 = true then (k : Int) else refB (2 ^ n - 1) (bestC g (tab k fun i => (i : Int))) := by
  have hkp : (k : Int) < 2 ^ n := by exact_mod_cast hk
  have hi := bestC_sz hg k
  rw [tab_nat, bestC_push]
  obtain ⟨B, hB⟩ : ∃ B, bestC g (tab k fun i => (i : Int)) = B := ⟨_, rfl⟩
  rw [hB] at hi ⊢
  unfold betC
  by_cases h2 : (g k).2 = true
  · rw [if_pos h2]
    cases B with
    | none =>
      simp only [h2, and_true]
      show (k : Int) = if sizeS k < sizeS (2 ^ n - 1) then (k : Int) else 2 ^ n - 1
      by_cases he : (k : Int) = 2 ^ n - 1
      · rw [if_neg (by rw [he]; omega)]; exact he
      · rw [if_pos (sizeS_lt hn ⟨by omega, hkp⟩ he)]
    | some c =>
      obtain ⟨h3, _⟩ := hi c rfl
      simp only [h2, and_true, hg, h3]
      show refB (2 ^ n - 1) (if sizeS k < sizeS c.1 then some ((k : Int), sizeS k) else some c) = if sizeS k < sizeS c.1 then (k : Int) else c.1
      split <;> rfl
  · rw [if_neg h2, if_neg fun h => h2 h.2]
theorem bestC_some {g : Int → Int × Bool} {l : List Int} {x : Int} (hx : x ∈ l) (h : (g x).2 = true) : (bestC g l).isSome = true := by
  induction l using list_push_ind with
  | h0 => simp at hx
  | h1 l y ih =>
    rw [bestC_push]
    unfold betC
    rcases List.mem_append.1 hx with h1 | h1
    · have := ih h1
      obtain ⟨c, hc⟩ := Option.isSome_iff_exists.1 this
      rw [hc]
      simp only
      split
      · split <;> rfl
      · rfl
    · simp only [List.mem_singleton] at h1
      subst h1
      rw [if_pos h]
      cases bestC g l with
      | none => rfl
      | some c => simp only; split <;> rfl

namespace Rp
theorem hears_self {r : Rp} {o : Int} {i : Nat} (hi : i < r.n) (h : inS o i = true) : r.hears o i = true := by
  unfold hears
  exact List.any_eq_true.2 ⟨i, List.mem_range.2 hi, by simp [h, near, nearL]⟩
theorem dull_and {r : Rp} (hn : r.n ≤ 60) (x : Fin 64) {q : Int} (hq : 0 ≤ q ∧ q < 2 ^ r.n) : decide (bitI .and .u64 (r.dl x) q = 0) = !((List.range r.n).any fun s => inS q s && r.hears x.val s) := by
  have h1 : bitI .and .u64 (r.dl x) q = bits (fun i => r.hears x.val i && inS q i) r.n := by
    conv => lhs; rw [← bits_inS hq]
    exact bitsU_and _ _ hn
  rw [h1, Bool.eq_iff_iff]
  simp only [decide_eq_true_eq, Bool.not_eq_true', List.any_eq_false, List.mem_range, bits_zero]
  constructor
  · intro h i hi; have := h i hi; rw [Bool.and_comm]; simpa using this
  · intro h i hi; have := h i hi; rw [Bool.and_comm]; simpa using this
/-- Does no set of some but the empty one sound sharp at all seams of a set? -/
def showsP (r : Rp) (l : List Int) (q : Int) : Bool := l.all fun x => decide (x = 0) || (List.range r.n).any fun s => inS q s && r.hears x s
theorem few_shows {r : Rp} (hn : r.n ≤ 60) (l : List (Fin 64)) {q : Int} (hq : 0 ≤ q ∧ q < 2 ^ r.n) : (fewG r.dl l q).2 = r.showsP (l.map fun x => (x.val : Int)) q := by
  have e : hidP r.dl q = fun x : Fin 64 => !((fun x : Int => decide (x = 0) || (List.range r.n).any fun s => inS q s && r.hears x s) ∘ fun x : Fin 64 => (x.val : Int)) x := funext fun x => by
    simp only [hidP, dull_and hn x hq, Function.comp_apply, Bool.not_or]
  unfold showsP
  show (!l.any (hidP r.dl q)) = _
  rw [e, List.all_map, List.all_eq_not_any_not]
theorem shows_all {r : Rp} {q : Int} : r.showsP (r.refL q) (2 ^ r.n - 1) = true := by
  unfold showsP
  rw [List.all_eq_true]
  intro x hx
  obtain ⟨h1, _⟩ := refL_mem.1 hx
  by_cases h0 : x = 0
  · simp [h0]
  · obtain ⟨i, hi, hb⟩ : ∃ i, i < r.n ∧ inS x i = true := by
      refine Classical.byContradiction fun hc => h0 ?_
      rw [← bits_inS h1]
      refine bits_zero.2 fun i hi => ?_
      cases hb : inS x i
      · rfl
      · exact absurd ⟨i, hi, hb⟩ hc
    simp only [Bool.or_eq_true]
    exact .inr (List.any_eq_true.2 ⟨i, List.mem_range.2 hi, by simp [inS_all hi, hears_self hi hb]⟩)
theorem cnt_eq (r : Rp) (l : List (Fin 64)) {s : Nat} (hs : s < r.n) : cntD r.dl l s = ((l.map fun x => (x.val : Int)).filter fun x => r.hears x s).length := by
  unfold cntD
  rw [List.filter_map, List.length_map]
  congr 1
  refine List.filter_congr fun x _ => ?_
  exact r.inS_dl x hs
theorem rest_sub {r : Rp} {q : Int} (hq : 0 ≤ q ∧ q < 2 ^ r.k) : r.restS q = 2 ^ r.k - 1 - q := by
  have h : ∀ n, bits (fun i => !inS q i) n + bits (inS q) n = 2 ^ n - 1 := fun n => by
    induction n with
    | zero => rfl
    | succ n ih =>
      simp only [bits, Int.pow_succ]
      by_cases h : inS q n = true <;> simp [h] <;> omega
  have := h r.k
  rw [bits_inS hq] at this
  unfold restS
  omega
end Rp
end Go.Cw
end

/- The reference: what of some sets was heard; Sets. -/
section
set_option maxRecDepth 100000
set_option linter.unusedSimpArgs false
namespace Go.Cw
open Go Go.Proofs



end Go.Cw
end

/- The reference: Open, Sound; does a set show that the hull is sound. -/
section
set_option maxRecDepth 100000
set_option linter.unusedSimpArgs false
namespace Go.Cw
open Go Go.Proofs

namespace Rp
/-- In how many of some sets is a seam? -/
def cntS (l : List Int) (i : Nat) : Nat := (l.filter fun x => inS x i).length
theorem cntS_push (l : List Int) (x : Int) (i : Nat) : cntS (l ++ [x]) i = cntS l i + (if inS x i then 1 else 0) := by
  unfold cntS
  rw [List.filter_append, List.length_append]
  congr 1
  cases h : inS x i
  · rw [List.filter_cons_of_neg (by simp [h])]; rfl
  · rw [List.filter_cons_of_pos (by simp [h])]; rfl
theorem cntS_le (l : List Int) (i : Nat) : cntS l i ≤ l.length := List.length_filter_le _ _
theorem cntS_any (l : List (Fin 64)) (i : Nat) : decide (0 < cntS (l.map fun x => (x.val : Int)) i) = anyS l i := by
  unfold cntS anyS
  rw [List.filter_map, List.length_map, Bool.eq_iff_iff, decide_eq_true_eq, List.length_pos_iff, List.any_eq_true]
  constructor
  · intro h
    obtain ⟨x, hx⟩ := List.exists_mem_of_ne_nil _ h
    rw [List.mem_filter] at hx
    exact ⟨x, hx.1, hx.2⟩
  · rintro ⟨x, h1, h2⟩
    exact List.ne_nil_of_mem (List.mem_filter.2 ⟨h1, h2⟩)
theorem cntS_all (l : List (Fin 64)) (i : Nat) : decide (cntS (l.map fun x => (x.val : Int)) i = l.length) = allS l i := by
  unfold cntS allS
  rw [List.filter_map, List.length_map, Bool.eq_iff_iff, decide_eq_true_eq, List.length_filter_eq_length_iff, List.all_eq_true]
  rfl
theorem canF_mem {r : Rp} {x : Fin 64} (h : x ∈ r.canF) : x ∈ r.soundsF := by
  unfold canF heardF at h
  exact (List.mem_filter.1 h).1
theorem anyS_high {r : Rp} (hv : r.Valid) {i : Nat} (hi : r.n ≤ i) : anyS r.canF i = false := by
  unfold anyS
  rw [List.any_eq_false]
  intro x hx
  rw [inS_high (by omega) (val_lt hv (canF_mem hx)) hi]; simp
theorem allS_high {r : Rp} (hv : r.Valid) (hc : r.canF ≠ []) {i : Nat} (hi : r.n ≤ i) : allS r.canF i = false := by
  obtain ⟨x, hx⟩ := List.exists_mem_of_ne_nil _ hc
  unfold allS
  rw [List.all_eq_false]
  refine ⟨x, hx, ?_⟩
  rw [inS_high (by omega) (val_lt hv (canF_mem hx)) hi]; simp
theorem setsL_mem {r : Rp} (hv : r.Valid) {x : Int} (h : x ∈ r.setsL) : 0 ≤ x ∧ x < 2 ^ r.n := by
  rw [sets_eq hv] at h
  exact (refL_mem.1 h).1
theorem setsL_nil (r : Rp) : r.canF = [] ↔ r.setsL = [] := by unfold setsL; simp
theorem setsL_length (r : Rp) : r.setsL.length = r.canF.length := by unfold setsL; simp
theorem setsL_len {r : Rp} (hv : r.Valid) : r.setsL.length ≤ 64 := by
  rw [sets_eq hv]
  have := r.refL_len (2 ^ r.k - 1)
  have h6 : (2 : Nat) ^ r.n ≤ 2 ^ 6 := Nat.pow_le_pow_right (by omega) hv.d.n6
  omega
end Rp




end Go.Cw
end

/- The reference: Fewest and Next. -/
section
set_option maxRecDepth 100000
set_option linter.unusedSimpArgs false
namespace Go.Cw
open Go Go.Proofs


namespace Rp
/-- What the reference has found. -/
def refN (m : Int) (B : Option (Int × Int)) : Int × Int := B.getD (0, m)
theorem refN_lt (dl : Fin 64 → Int) (l : List (Fin 64)) (k : Nat) : ∀ b, bestC (nextG dl l) (tab k fun i => (i : Int)) = some b → b.2 < l.length ∧ 0 ≤ b.1 ∧ b.1 < k := by
  induction k with
  | zero => intro b h; simp [tab, bestC] at h
  | succ k ih =>
    intro b h
    rw [tab_nat, bestC_push] at h
    obtain ⟨B, hB⟩ : ∃ B, bestC (nextG dl l) (tab k fun i => (i : Int)) = B := ⟨_, rfl⟩
    rw [hB] at h ih
    have keep : B = some b → b.2 < l.length ∧ 0 ≤ b.1 ∧ b.1 < ((k + 1 : Nat) : Int) := fun e => by
      obtain ⟨h1, h2, h3⟩ := ih b e
      exact ⟨h1, h2, by omega⟩
    have new : (nextG dl l k).2 = true → some ((k : Int), (nextG dl l k).1) = some b → b.2 < l.length ∧ 0 ≤ b.1 ∧ b.1 < ((k + 1 : Nat) : Int) := fun h1 e => by
      cases e
      refine ⟨?_, by simp, by simp; omega⟩
      unfold nextG at h1 ⊢
      simp only [decide_eq_true_eq] at h1 ⊢
      omega
    unfold betC at h
    by_cases h2 : (nextG dl l k).2 = true
    · rw [if_pos h2] at h
      cases B with
      | none => exact new h2 h
      | some c =>
        simp only at h
        split at h
        · exact new h2 h
        · exact keep h
    · rw [if_neg h2] at h
      exact keep h
theorem refN_step (dl : Fin 64 → Int) (l : List (Fin 64)) (k : Nat) :
    refN l.length (bestC (nextG dl l) (tab (k + 1) fun i => (i : Int))) = if max (cntD dl l k : Int) (l.length - cntD dl l k) < (refN l.length (bestC (nextG dl l) (tab k fun i => (i : Int)))).2 then ((k : Int), max (cntD dl l k : Int) (l.length - cntD dl l k)) else refN l.length (bestC (nextG dl l) (tab k fun i => (i : Int))) := by
  have hi := refN_lt dl l k
  have hcl : cntD dl l k ≤ l.length := List.length_filter_le _ _
  rw [tab_nat, bestC_push]
  obtain ⟨B, hB⟩ : ∃ B, bestC (nextG dl l) (tab k fun i => (i : Int)) = B := ⟨_, rfl⟩
  rw [hB] at hi ⊢
  have hg1 : (nextG dl l k).1 = max (cntD dl l k : Int) (l.length - cntD dl l k) := rfl
  have hg2 : (nextG dl l k).2 = decide (1 ≤ (cntD dl l k : Int) ∧ (cntD dl l k : Int) ≤ l.length - 1) := rfl
  unfold betC
  by_cases h2 : 1 ≤ (cntD dl l k : Int) ∧ (cntD dl l k : Int) ≤ l.length - 1
  · rw [if_pos (by rw [hg2]; simpa using h2), hg1]
    cases B with
    | none =>
      show ((k : Int), max (cntD dl l k : Int) (l.length - cntD dl l k)) = if max (cntD dl l k : Int) (l.length - cntD dl l k) < (l.length : Int) then _ else _
      rw [if_pos (by omega)]
    | some c =>
      show refN l.length (if max (cntD dl l k : Int) (l.length - cntD dl l k) < c.2 then some ((k : Int), max (cntD dl l k : Int) (l.length - cntD dl l k)) else some c) = if max (cntD dl l k : Int) (l.length - cntD dl l k) < c.2 then _ else c
      split <;> rfl
  · rw [if_neg (by rw [hg2]; simpa using h2)]
    rw [if_neg]
    cases B with
    | none => show ¬ max (cntD dl l k : Int) (l.length - cntD dl l k) < (l.length : Int); omega
    | some c =>
      have := (hi c rfl).1
      show ¬ max (cntD dl l k : Int) (l.length - cntD dl l k) < c.2
      omega
end Rp


end Go.Cw
end

/- The reference: Wrong, Ints; the laws' own small functions. -/
section
set_option maxRecDepth 100000
set_option linter.unusedSimpArgs false
namespace Go.Cw
open Go Go.Proofs

namespace Rp
theorem opL_all {r : Rp} : ∀ x ∈ (r.opL.map fun (i : Nat) => (i : Int)), 0 ≤ x ∧ x < 2 ^ r.n := fun x hx => by
  obtain ⟨i, hi, rfl⟩ := List.mem_map.1 hx
  have := (r.mem_opL i).1 hi
  exact ⟨by omega, by exact_mod_cast this.1⟩
theorem opL_len {r : Rp} (hv : r.Valid) : (r.opL.map fun (i : Nat) => (i : Int)).length ≤ 1000 := by
  have hn6 : r.n ≤ 6 := hv.d.n6
  have : r.opL.length ≤ 2 ^ r.n := by
    unfold opL; refine Nat.le_trans (List.length_filter_le _ _) ?_; simp
  have h6 : (2 : Nat) ^ r.n ≤ 2 ^ 6 := Nat.pow_le_pow_right (by omega) hn6
  simp; omega
theorem opL_ne {r : Rp} (hv : r.Valid) : r.opL ≠ [] := by
  obtain ⟨t, ht⟩ := List.exists_mem_of_ne_nil _ hv.d.truths_ne
  have h := r.opn_lt t
  refine List.ne_nil_of_mem (a := (r.opn t).toNat) ((r.mem_opL _).2 ⟨?_, t, ht, by omega⟩)
  have : (((r.opn t).toNat : Nat) : Int) < ((2 ^ r.n : Nat) : Int) := by simp; omega
  exact_mod_cast this
theorem inS_zero (i : Nat) : inS 0 i = false := by simp [inS]
theorem fits_zero (r : Rp) (o : Int) : r.fits 0 o = true := by
  unfold fits
  rw [List.all_eq_true]
  intro j _
  simp [inS_zero]
theorem wr_ok {r : Rp} (hv : r.Valid) {q : Int} (hq : 0 ≤ q ∧ q < 2 ^ r.k) : (r.wrG q).2 = decide (r.refL (2 ^ r.k - 1 - q) ≠ []) := by
  have h := heard_eq hv (2 ^ r.k - 1 - q)
  unfold wrG
  simp only [rest_sub hq]
  rw [Bool.eq_iff_iff, decide_eq_true_eq, decide_eq_true_eq, ← h]
  simp [List.length_pos_iff]
end Rp


theorem ref13_Ints_ok (a b : List Int) (ha : a.length ≤ 100000) (hb : b.length ≤ 100000) : APure Pg fn_ref13_Ints [L a, L b] (.bool (decide (a = b))) := by
  refine ref13_Ints.pure (by simp) ?_
  simp
  refine FCall.pure (PInv.func (ref05_Ints_ok a b ha hb)) ?_
  simp
  exact RetV.refl rfl
theorem law13_ints_ok (a b : List Int) (ha : a.length ≤ 100000) (hb : b.length ≤ 100000) : APure Pg fn_law13_ints [L a, L b] (.bool (decide (a = b))) := by
  refine law13_ints.pure (by simp) ?_
  simp
  refine FCall.pure (PInv.func (ref13_Ints_ok a b ha hb)) ?_
  simp
  exact RetV.refl rfl
theorem law13_find_ok (a : Int) (b : Bool) : APure Pg fn_law13_find [.int .i64 a, .bool b] (.agg [.int .i64 a, .bool b]) := by
  refine law13_find.pure (by simp) ?_
  simp
  intro s
  exact RetV.refl rfl
theorem law13_span_ok (a b : Int) : APure Pg fn_law13_span [.int .i64 a, .int .i64 b] (SP2 (a, b)) := by
  refine law13_span.pure (by simp) ?_
  simp
  intro s
  exact RetV.refl (by simp [SP2])
/-- Is there far too much of something? -/
def Rp.longB (r : Rp) : Bool := decide ¬ (r.d.limits.length ≤ 40 ∧ r.d.beside.length ≤ 40 ∧ r.d.blows.length ≤ 40 ∧ r.rs.length ≤ 40)
theorem Rp.longB_iff {r : Rp} : r.longB = false ↔ r.Small := by
  unfold Rp.longB
  simp only [decide_eq_false_iff_not, Classical.not_not]
  exact ⟨fun ⟨a, b, c, d⟩ => ⟨⟨a, b, c⟩, d⟩, fun h => ⟨h.d.l, h.d.p, h.d.b, h.k⟩⟩
theorem law13_long_ok (r : Rp) : APure Pg fn_law13_long [r.v] (.bool r.longB) := by
  refine law13_long.pure (by simp) ?_
  simp
  intro s
  refine RetV.refl ?_
  unfold Rp.longB
  congr 2
  rw [Bool.eq_iff_iff]
  simp
  omega
end Go.Cw
end

/- What the document fixes of its example is met. -/
section
set_option maxRecDepth 100000
set_option linter.unusedSimpArgs false
namespace Go.Cw
open Go Go.Proofs

namespace Drv
def runLs (d : Drv) (order : List Nat) : Nat → List Int → Option (List Nat × List Int)
  | 0, _ => none
  | f + 1, l => match d.firstCan order (ofL l) with
    | none => some ([], l)
    | some i => match runLs d order f (tab d.n (d.fire i (ofL l))) with
      | some (all, l') => some (i :: all, l')
      | none => none

theorem fire_tab {d : Drv} (hv : d.Valid) {i : Nat} (hi : i < d.n) {l : List Int} (hl : l.length = d.n) : ofL (tab d.n (d.fire i (ofL l))) = d.fire i (ofL l) := by
  funext j
  by_cases hj : j < d.n
  · simp [ofL, hj]
  · rw [ofL_none _ (by simp; omega)]
    unfold fire
    rw [ofL_none l (by omega), cnt_none hv i (by omega), if_neg (by omega)]
    rfl

theorem runLs_ok {d : Drv} (hv : d.Valid) {order : List Nat} (ho : ∀ i ∈ order, i < d.n) : ∀ {f : Nat} {l l' : List Int} {all : List Nat}, l.length = d.n → d.runLs order f l = some (all, l') → d.Runs order (ofL l) all (ofL l') ∧ l'.length = d.n
  | 0, _, _, _, _, h => by simp [runLs] at h
  | f + 1, l, l', all, hl, h => by
    simp only [runLs] at h
    split at h
    · rename_i hf
      simp only [Option.some.injEq, Prod.mk.injEq] at h
      obtain ⟨rfl, rfl⟩ := h
      exact ⟨.stop hf, hl⟩
    · rename_i i hf
      split at h
      · rename_i all' l'' hr
        simp only [Option.some.injEq, Prod.mk.injEq] at h
        obtain ⟨rfl, rfl⟩ := h
        obtain ⟨h1, h2⟩ := runLs_ok hv ho (by simp) hr
        rw [fire_tab hv (ho i (firstCan_some hf).1) hl] at h1
        exact ⟨.step hf h1, h2⟩
      · cases h

theorem run_of {d : Drv} (hv : d.Valid) {f : Nat} {l l' : List Int} {all : List Nat} (hl : l.length = d.n) (h : d.runLs (List.range d.n) f l = some (all, l')) : d.left (ofL l) = ofL l' ∧ d.odo (ofL l) = times all := by
  have r := (runLs_ok hv (by simp) hl h).1
  unfold left odo
  rw [r.eq]
  exact ⟨rfl, rfl⟩
end Drv

/-- The drive of the document's example, and a rap of it. -/
def smd : Drv := ⟨[3, 3, 3, 3], [(0, 1), (1, 2), (2, 3)], [(2, 3), (0, 0), (0, 0), (1, 3)]⟩
def smr (rs : List (Int × Bool)) : Rp := ⟨smd, rs⟩
theorem smd_valid : smd.Valid := by
  refine ⟨by decide, by decide, by decide, fun i p hp => ?_, fun i l s hl hs => ?_⟩
  · match i with
    | 0 =>
      simp [smd] at hp
      subst hp
      refine ⟨by decide, by decide, by decide, fun k hk => absurd hk (by omega)⟩
    | 1 =>
      simp [smd] at hp
      subst hp
      refine ⟨by decide, by decide, by decide, fun k hk => ?_⟩
      obtain rfl : k = 0 := by omega
      decide
    | 2 =>
      simp [smd] at hp
      subst hp
      refine ⟨by decide, by decide, by decide, fun k hk => ?_⟩
      rcases (show k = 0 ∨ k = 1 by omega) with rfl | rfl <;> decide
    | i + 3 => simp [smd] at hp
  · match i with
    | 0 => simp [smd] at hl hs; subst hl hs; decide
    | 1 => simp [smd] at hl hs; subst hl hs; decide
    | 2 => simp [smd] at hl hs; subst hl hs; decide
    | 3 => simp [smd] at hl hs; subst hl hs; decide
    | i + 4 => simp [smd] at hl
theorem smr_small (rs : List (Int × Bool)) (h : rs.length ≤ 10) : (smr rs).Small := ⟨⟨by simp [smr, smd], by simp [smr, smd], by simp [smr, smd]⟩, by simp [smr]; omega⟩
theorem smr_valid (rs : List (Int × Bool)) (h : rs.length ≤ 10 ∧ ∀ x ∈ rs, 0 ≤ x.1 ∧ x.1 < 4) : (smr rs).Valid := ⟨smd_valid, h.1, fun x hx => h.2 x hx⟩
theorem smd_truths : smd.truths = [[2, 0, 0, 1], [2, 0, 0, 2], [2, 0, 0, 3], [3, 0, 0, 1], [3, 0, 0, 2], [3, 0, 0, 3]] := by decide
theorem smr_opn (rs : List (Int × Bool)) {l l' : List Int} {all : List Nat} (hl : l.length = 4) (h : smd.runLs [0, 1, 2, 3] 60 l = some (all, l')) : (smr rs).opn l = bits (fun k => decide (0 < times all k)) 4 := by
  have e := (Drv.run_of smd_valid (f := 60) hl h).2
  unfold Rp.opn
  show bits (fun k => decide (0 < smd.odo (ofL l) k)) 4 = _
  rw [e]
theorem smr_opL (rs : List (Int × Bool)) : (smr rs).opL = [0, 1, 8, 9] := by
  have e1 : (smr rs).opn [2, 0, 0, 1] = 0 := smr_opn rs (all := []) (l' := [2, 0, 0, 1]) rfl (by decide)
  have e2 : (smr rs).opn [2, 0, 0, 2] = 0 := smr_opn rs (all := []) (l' := [2, 0, 0, 2]) rfl (by decide)
  have e3 : (smr rs).opn [2, 0, 0, 3] = 8 := smr_opn rs (all := [3]) (l' := [2, 0, 1, 0]) rfl (by decide)
  have e4 : (smr rs).opn [3, 0, 0, 1] = 1 := smr_opn rs (all := [0]) (l' := [0, 1, 0, 1]) rfl (by decide)
  have e5 : (smr rs).opn [3, 0, 0, 2] = 1 := smr_opn rs (all := [0]) (l' := [0, 1, 0, 2]) rfl (by decide)
  have e6 : (smr rs).opn [3, 0, 0, 3] = 9 := smr_opn rs (all := [0, 3]) (l' := [0, 1, 1, 0]) rfl (by decide)
  unfold Rp.opL
  have : (fun s : Nat => (smr rs).d.truths.any fun t => decide ((smr rs).opn t = (s : Int))) = fun s : Nat => decide ((0 : Int) = s) || decide ((8 : Int) = s) || decide ((1 : Int) = s) || decide ((9 : Int) = s) := by
    funext s
    show (smd.truths.any fun t => decide ((smr rs).opn t = (s : Int))) = _
    rw [smd_truths]
    simp only [List.any_cons, List.any_nil, e1, e2, e3, e4, e5, e6, Bool.or_false]
    cases decide ((0 : Int) = s) <;> cases decide ((8 : Int) = s) <;> cases decide ((1 : Int) = s) <;> cases decide ((9 : Int) = s) <;> rfl
  rw [this]
  show (List.range (2 ^ smd.n)).filter _ = _
  decide
theorem smr_sounds (rs : List (Int × Bool)) (h : rs.length ≤ 10 ∧ ∀ x ∈ rs, 0 ≤ x.1 ∧ x.1 < 4) : (smr rs).soundsF = [0, 1, 8, 9] := by
  have e := Rp.sounds_eq (smr_valid rs h)
  rw [smr_opL] at e
  have e2 : ([0, 1, 8, 9] : List (Fin 64)).map (fun x => x.val) = [0, 1, 8, 9] := rfl
  rw [← e2] at e
  exact (List.map_inj_right (fun x y h => Fin.ext h)).1 e
theorem smr_can (rs : List (Int × Bool)) (h : rs.length ≤ 10 ∧ ∀ x ∈ rs, 0 ≤ x.1 ∧ x.1 < 4) (l : List (Fin 64)) (hl : (smr rs).heardF (2 ^ (smr rs).k - 1) [0, 1, 8, 9] = l) : (smr rs).canF = l := by
  unfold Rp.canF
  rw [smr_sounds rs h, hl]
theorem smr_dull (q w : Int) (hq : 0 ≤ q ∧ q < 16) (hw : (smr []).dullS q = w) : (smr []).dullV q = .tup [.int .i64 w, .int .i64 0] := by
  unfold Rp.dullV
  rw [if_pos (smr_valid [] (by decide)), if_pos (show 0 ≤ q ∧ q < 2 ^ (smr []).n from hq), hw]
section
variable (rs : List (Int × Bool)) (h : rs.length ≤ 10 ∧ ∀ x ∈ rs, 0 ≤ x.1 ∧ x.1 < 4) {l : List (Fin 64)} (hl : (smr rs).heardF (2 ^ (smr rs).k - 1) [0, 1, 8, 9] = l)
include h hl
theorem smr_sets (hne : l ≠ []) (m : List Int) (hm : l.map (fun x => (x.val : Int)) = m) : (smr rs).setsV = .tup [L m, .int .i64 0] := by
  unfold Rp.setsV Rp.setsL
  rw [smr_can rs h l hl, if_pos (smr_valid rs h), if_neg hne, hm]
theorem smr_open (hne : l ≠ []) (a b : Int) (ha : bits (anyS l) 6 = a) (hb : bits (allS l) 6 = b) : (smr rs).openV = .tup [.int .i64 a, .int .i64 b, .int .i64 0] := by
  unfold Rp.openV
  rw [smr_can rs h l hl, if_pos (smr_valid rs h), if_neg hne, ha, hb]
theorem smr_sound (hne : l ≠ []) (a : Int) (ha : Rp.soundN l = a) : (smr rs).soundV = .tup [.int .i64 a, .int .i64 0] := by
  unfold Rp.soundV
  rw [smr_can rs h l hl, if_pos (smr_valid rs h), if_neg hne, ha]
theorem smr_few (hne : l ≠ []) (b : Int × Int) (hb : bestC (Rp.fewG (smr rs).dl l) (tab (2 ^ (smr rs).n) fun i => (i : Int)) = some b) : (smr rs).fewV = .tup [.int .i64 b.2, .int .i64 b.1, .int .i64 0] := by
  unfold Rp.fewV Rp.fewB
  rw [smr_can rs h l hl, if_pos (smr_valid rs h), if_neg hne, hb]
theorem smr_next (hne : l ≠ []) (h1 : ¬ l.length ≤ 1) (b : Int × Int) (hb : bestC (Rp.nextG (smr rs).dl l) (tab (smr rs).n fun i => (i : Int)) = some b) : (smr rs).nextV = .tup [.int .i64 b.1, .int .i64 b.2, .int .i64 0] := by
  unfold Rp.nextV Rp.nextB
  rw [smr_can rs h l hl, if_pos (smr_valid rs h), if_neg hne, if_neg h1, hb]
theorem smr_next1 (hne : l ≠ []) (h1 : l.length ≤ 1) : (smr rs).nextV = .tup [.int .i64 0, .int .i64 0, .int .i64 11] := by
  unfold Rp.nextV
  rw [smr_can rs h l hl, if_pos (smr_valid rs h), if_neg hne, if_pos h1]
theorem smr_clash (he : l = []) : (smr rs).setsV = .tup [L [], .int .i64 10] := by
  unfold Rp.setsV
  rw [smr_can rs h l hl, if_pos (smr_valid rs h), if_pos he]
omit hl in
theorem smr_wrong (b : Int × Int) (hb : bestC (fun q => (sizeS q, decide (0 < (((smr rs).heardF ((smr rs).restS q) [0, 1, 8, 9]).length : Int)))) (tab (2 ^ (smr rs).k) fun i => (i : Int)) = some b) : (smr rs).wrV = if b.1 = 0 then .tup [.int .i64 0, .int .i64 4] else .tup [.int .i64 b.1, .int .i64 0] := by
  unfold Rp.wrV Rp.wrB Rp.wrG
  rw [smr_sounds rs h, if_pos (smr_valid rs h), hb]
end

theorem law13_sample_ok (rs : List (Int × Bool)) : APure Pg fn_law13_sample [LR rs] (smr rs).v := by
  refine law13_sample.pure (by simp) ?_
  simp
  intro s1 s2 s3
  refine PCallK.intro (PInv.func (law13_span_ok _ _)) ?_
  simp [SP2]
  refine PCallK.intro (PInv.func (law13_span_ok _ _)) ?_
  simp [SP2]
  refine PCallK.intro (PInv.func (law13_span_ok _ _)) ?_
  simp [SP2]
  refine PCallK.intro (PInv.func (law13_span_ok _ _)) ?_
  simp [SP2]
  intro s4
  refine RetV.frz 3 rfl (RetV.frz 7 rfl (RetV.frz 12 rfl (RetV.refl ?_)))
  simp [smr, smd, L, LP, prs]
theorem law13_sample_nil : PInv Pg (.func (.func fn_law13_sample) [] []) [.nils] (smr []).v := fun h =>
  AInvoke.ale (args' := [LR []]) (ALe.refl _) ⟨ALe.nils_vl, trivial⟩ (PInv.func (first := []) (cap := []) (args := [LR []]) (law13_sample_ok []) h)

theorem law13_alive_ok : APure Pg fn_law13_alive [] (.bool true) := by
  refine law13_alive.pure (by simp) ?_
  simp
  refine FCall.pure law13_sample_nil ?_
  simp
  refine PCallK.intro (PInv.func (rap_Dull_ok (smr []) (smr_small _ (by decide)) 9)) ?_
  rw [smr_dull 9 15 (by decide) (by decide +kernel)]
  simp
  refine FCall.pure law13_sample_nil ?_
  simp
  refine PCallK.intro (PInv.func (rap_Sets_ok (smr []) (smr_small _ (by decide)))) ?_
  rw [smr_sets [] (by decide) (l := [0, 1, 8, 9]) (by decide +kernel) (by decide) [0, 1, 8, 9] (by decide)]
  simp
  refine FCall.pure law13_sample_nil ?_
  simp
  refine PCallK.intro (PInv.func (rap_Open_ok (smr []) (smr_small _ (by decide)))) ?_
  rw [smr_open [] (by decide) (l := [0, 1, 8, 9]) (by decide +kernel) (by decide) 9 0 (by decide +kernel) (by decide +kernel)]
  simp
  refine PCallK.intro (PInv.func (law13_find_ok _ _)) ?_
  simp
  refine PCallK.intro (PInv.func (law13_find_ok _ _)) ?_
  simp
  intro s37
  refine FCall.frz1 37 rfl (v := (smr [(0, false), (3, false)]).v) ?_ trivial ?_
  · have := PInv.func (first := []) (cap := []) (args := [LR [(0, false), (3, false)]]) (law13_sample_ok [(0, false), (3, false)])
    simpa [LR, rfs, fl, rfC] using this
  simp
  refine PCallK.intro (PInv.func (rap_Sound_ok (smr [(0, false), (3, false)]) (smr_small _ (by decide)))) ?_
  rw [smr_sound [(0, false), (3, false)] (by decide) (l := [0]) (by decide +kernel) (by decide) 2 (by decide +kernel)]
  simp
  refine FCall.pure law13_sample_nil ?_
  simp
  refine PCallK.intro (PInv.func (rap_Fewest_ok (smr []) (smr_small _ (by decide)))) ?_
  rw [smr_few [] (by decide) (l := [0, 1, 8, 9]) (by decide +kernel) (by decide) (5, 2) (by decide +kernel)]
  simp
  refine FCall.pure law13_sample_nil ?_
  simp
  refine PCallK.intro (PInv.func (rap_Next_ok (smr []) (smr_small _ (by decide)))) ?_
  rw [smr_next [] (by decide) (l := [0, 1, 8, 9]) (by decide +kernel) (by decide) (by decide) (0, 2) (by decide +kernel)]
  simp
  refine PCallK.intro (PInv.func (law13_find_ok _ _)) ?_
  simp
  refine PCallK.intro (PInv.func (law13_find_ok _ _)) ?_
  simp
  intro s57
  refine FCall.frz1 57 rfl (v := (smr [(0, true), (1, false)]).v) ?_ trivial ?_
  · have := PInv.func (first := []) (cap := []) (args := [LR [(0, true), (1, false)]]) (law13_sample_ok [(0, true), (1, false)])
    simpa [LR, rfs, fl, rfC] using this
  simp
  refine PCallK.intro (PInv.func (rap_Wrong_ok (smr [(0, true), (1, false)]) (smr_small _ (by decide)))) ?_
  rw [smr_wrong [(0, true), (1, false)] (by decide) (1, 1) (by decide +kernel)]
  simp
  intro s70
  refine FCall.frz1 70 rfl (v := .bool true) ?_ (by simp) ?_
  · have := PInv.func (first := []) (cap := []) (args := [L [0, 1, 8, 9], L [0, 1, 8, 9]]) (law13_ints_ok [0, 1, 8, 9] [0, 1, 8, 9] (by simp) (by simp))
    simpa [L] using this
  simp
  exact RetV.refl rfl
end Go.Cw
end

/- The laws Tells, Wrongs and Dull; which seams opened, and which sound dull, by the laws' own words. -/
section
set_option maxRecDepth 100000
set_option linter.unusedSimpArgs false
namespace Go.Cw
open Go Go.Proofs

/-- One of the numbers that are told of a set. -/
theorem inS_and1 {s : Int} (hs : 0 ≤ s ∧ s < 2 ^ 62) (i : Nat) : bitI .and .i64 (s / 2 ^ i) 1 = if inS s i then 1 else 0 := by
  have h0 := two_pow_pos i
  have h2 : 0 ≤ s / 2 ^ i := Int.ediv_nonneg hs.1 (by omega)
  have h3 : s / 2 ^ i ≤ s := Int.ediv_le_self _ hs.1
  rw [bitI_and1 h2 (by omega)]
  unfold inS
  simp only [decide_eq_true_eq]
  split <;> omega

theorem law13_opened_ok (l : List Int) (hl : l.length ≤ 6) : APure Pg fn_law13_opened [L l] (.int .i64 (bits (fun k => decide (0 < ofL l k)) l.length)) := by
  refine law13_opened.pure (by simp) ?_
  simp
  obtain ⟨p, hp⟩ : ∃ p : Nat → Bool, p = fun k => decide (0 < ofL l k) := ⟨_, rfl⟩
  refine Lp.intro (σ := Nat) (inv := fun k => k ≤ l.length) (vw := fun k => [(2, .int .i64 (bits p k)), (5, L l), (6, .int .i64 l.length), (7, .int .i64 k)])
    (hp := fun _ => []) (ms := fun k => l.length - k) 0 (by simp) (by simp [bits]) (by simp) ?_
  intro k hk J hJ
  by_cases hkc : k < l.length
  · have hlk := ofL_at l hkc
    have hb := bits_lt p k
    have hpk := two_pow_pos k
    have hp2 := two_pow_le (show k ≤ 6 by omega)
    have e6 : (2 : Int) ^ 6 = 64 := by decide
    have hw : IntKind.i64.wrap ((2 : Int) ^ k) = 2 ^ k := wrap_i64s (by omega) (by omega)
    have hor := bits_or p k (by omega)
    by_cases h0 : 0 < ofL l k
    · have hst : bits p (k + 1) = bits p k + 2 ^ k := by simp [bits, hp, h0]
      simp [hkc, hlk, h0, show (k : Int) < 6 by omega, hw, hor]
      (repeat first | refine And.intro (by omega) ?_ | refine And.intro (Fits.of (by omega) (by omega)) ?_)
      exact hJ.next (k + 1) (by omega) (by omega) (by simp [hst]) (by simp)
    · have hst : bits p (k + 1) = bits p k := by simp [bits, hp, h0]
      simp [hkc, hlk, h0]
      (repeat first | refine And.intro (by omega) ?_ | refine And.intro (Fits.of (by omega) (by omega)) ?_)
      exact hJ.next (k + 1) (by omega) (by omega) (by simp [hst]) (by simp)
  · obtain rfl : k = l.length := by omega
    simp
    refine hJ.exit ?_
    simp
    exact RetV.refl (by rw [hp])

theorem law13_hears_ok (r : Rp) (hs : r.Small) (hv : r.Valid) (o : Int) (ho : 0 ≤ o ∧ o < 2 ^ 62) (i : Nat) (hi : i < r.n) :
    APure Pg fn_law13_hears [r.v, .int .i64 o, .int .i64 i] (.bool (r.hears o i)) := by
  have hn6 : r.n ≤ 6 := hv.d.n6
  have hpl := hs.d.p
  rw [← Rp.hears_eq hv o hi]
  refine law13_hears.pure (by simp) ?_
  simp
  intro s
  have hbi := inS_and1 ho i
  simp [hbi]
  obtain ⟨f, hf⟩ : ∃ f : Nat → Bool, f = fun k => inS o i || (r.d.beside.take k).any (pairH o i) := ⟨_, rfl⟩
  have hf0 : f 0 = inS o i := by rw [hf]; simp
  refine ⟨by omega, ?_⟩
  refine Lp.intro (σ := Nat) (inv := fun k => k ≤ r.d.beside.length)
    (vw := fun k => [(1, .int .i64 o), (2, .int .i64 i), (7, .bool (f k)), (17, LP r.d.beside), (18, .int .i64 r.d.beside.length), (19, .int .i64 k)])
    (hp := fun _ => []) (ms := fun k => r.d.beside.length - k) 0 (by simp) (by simp [hf0]) (by simp) ?_
  intro k hk J hJ
  by_cases hkc : k < r.d.beside.length
  · obtain ⟨a, b, hab⟩ : ∃ a b, r.d.beside[k] = (a, b) := ⟨_, _, rfl⟩
    have hpk := hv.pr (p := (a, b)) (by rw [← hab]; simp)
    simp only at hpk
    obtain ⟨A, rfl⟩ : ∃ A : Nat, a = A := ⟨a.toNat, by omega⟩
    obtain ⟨B, rfl⟩ : ∃ B : Nat, b = B := ⟨b.toNat, by omega⟩
    have hA := inS_and1 ho A
    have hB := inS_and1 ho B
    have hst : f (k + 1) = (f k || pairH o i ((A : Int), (B : Int))) := by
      rw [hf]
      simp only [← List.take_append_getElem hkc, List.any_append, hab, List.any_cons, List.any_nil, Bool.or_false, Bool.or_assoc]
    have e1 : (A = i) = True ∨ (A = i) = False := by by_cases h : A = i <;> simp [h]
    have e2 : (B = i) = True ∨ (B = i) = False := by by_cases h : B = i <;> simp [h]
    cases hfk : f k <;> rcases e1 with e1 | e1 <;> rcases e2 with e2 | e2 <;> cases b1 : inS o B <;> cases b2 : inS o A
    all_goals simp [pairH, hfk, e1, e2, b1, b2] at hst
    all_goals simp [b1] at hB
    all_goals simp [b2] at hA
    all_goals simp [hkc, hab, e1, e2, hA, hB]
    all_goals refine ⟨by omega, fun s9 => ?_⟩
    all_goals (repeat first | refine And.intro (by omega) ?_ | refine And.intro (Fits.of (by omega) (by omega)) ?_)
    all_goals exact hJ.next (k + 1) (by omega) (by omega) (by simp [hst]) (by simp)
  · obtain rfl : k = r.d.beside.length := by omega
    simp
    refine hJ.exit ?_
    simp
    exact RetV.refl (by rw [hf]; simp)


namespace Rp
variable (r : Rp)
theorem dullV_form (q : Int) : ∃ a e, r.dullV q = .tup [.int .i64 a, .int .i64 e] := by
  unfold dullV; split
  · split <;> exact ⟨_, _, rfl⟩
  · exact ⟨_, _, rfl⟩
theorem setsV_form (hs : r.Small) : ∃ l e, r.setsV = .tup [L l, .int .i64 e] ∧ l.length ≤ 100000 := by
  unfold setsV; split
  · rename_i hv
    split
    · exact ⟨_, _, rfl, by simp⟩
    · exact ⟨_, _, rfl, by have := setsL_len hv; omega⟩
  · exact ⟨_, _, rfl, by simp⟩
theorem openV_form : ∃ a b e, r.openV = .tup [.int .i64 a, .int .i64 b, .int .i64 e] := by
  unfold openV; split
  · split <;> exact ⟨_, _, _, rfl⟩
  · exact ⟨_, _, _, rfl⟩
theorem soundV_form : ∃ a e, r.soundV = .tup [.int .i64 a, .int .i64 e] := by
  unfold soundV; split
  · split <;> exact ⟨_, _, rfl⟩
  · exact ⟨_, _, rfl⟩
theorem fewV_form : ∃ a b e, r.fewV = .tup [.int .i64 a, .int .i64 b, .int .i64 e] := by
  unfold fewV; split
  · split
    · exact ⟨_, _, _, rfl⟩
    · split <;> exact ⟨_, _, _, rfl⟩
  · exact ⟨_, _, _, rfl⟩
theorem nextV_form : ∃ a b e, r.nextV = .tup [.int .i64 a, .int .i64 b, .int .i64 e] := by
  unfold nextV; split
  · split
    · exact ⟨_, _, _, rfl⟩
    · split
      · exact ⟨_, _, _, rfl⟩
      · split <;> exact ⟨_, _, _, rfl⟩
  · exact ⟨_, _, _, rfl⟩
end Rp


end Go.Cw
end

/- How a rap is read as an argument. -/
section
set_option maxRecDepth 100000
namespace Go.Cw
open Go Go.Proofs

section
variable {w : World} {μ : Mu}

theorem opens_int : Opens Pg w μ 3 fun av => ∃ n, (Lit.int .i64 n).wf = true ∧ av = [.int .i64 n] := Opens.int Tryz.underlying3 (by kernel_rfl)
theorem opens_bool : Opens Pg w μ 4 fun av => ∃ b, av = [.bool b] := Opens.bool Tryz.underlying4 (by kernel_rfl)
theorem opens_ints : Opens Pg w μ 22 fun av => ∃ l : List Int, av = [L l] := Opens.ints Tryz.underlying22 (by kernel_rfl) Tryz.underlying3 (by kernel_rfl)
theorem opens_pairs : Opens Pg w μ 23 fun av => ∃ l : List (Int × Int), av = [LP l] :=
  Opens.prs Tryz.underlying23 (by kernel_rfl) (by kernel_rfl) (Opens.two Tryz.underlying61 (by kernel_rfl) Tryz.underlying3 (by kernel_rfl))
theorem opens_span : Opens Pg w μ 46 fun av => ∃ p : Int × Int, av = [.int .i64 p.1, .int .i64 p.2] := by
  refine (Opens.struct (Vs := [_, _]) Tryz.underlying46 (by kernel_rfl) ⟨rfl, opens_int, by kernel_rfl, opens_int, trivial⟩).mono ?_
  rintro av ⟨ass, h, rfl⟩
  obtain ⟨a, b, rfl, ⟨n, _, rfl⟩, ⟨m, _, rfl⟩⟩ := h.two
  exact ⟨(n, m), rfl⟩
theorem opens_spans : Opens Pg w μ 24 fun av => ∃ l : List (Int × Int), av = [LP l] := Opens.prs Tryz.underlying24 (by kernel_rfl) (by kernel_rfl) opens_span
theorem opens_drive : Opens Pg w μ 26 fun av => ∃ d : Drv, av = d.cells := by
  refine (Opens.struct (Vs := [_, _, _]) Tryz.underlying26 (by kernel_rfl) ⟨rfl, opens_ints, by kernel_rfl, opens_pairs, by kernel_rfl, opens_spans, trivial⟩).mono ?_
  rintro av ⟨ass, h, rfl⟩
  obtain ⟨a, b, c, rfl, ⟨l, rfl⟩, ⟨p, rfl⟩, ⟨q, rfl⟩⟩ := h.three
  exact ⟨⟨l, p, q⟩, rfl⟩
theorem opens_find : Opens Pg w μ 51 fun av => ∃ a : Int × Bool, av = rfC a := by
  refine (Opens.struct (Vs := [_, _]) Tryz.underlying51 (by kernel_rfl) ⟨rfl, opens_int, by kernel_rfl, opens_bool, trivial⟩).mono ?_
  rintro av ⟨ass, h, rfl⟩
  obtain ⟨a, b, rfl, ⟨n, _, rfl⟩, ⟨m, rfl⟩⟩ := h.two
  exact ⟨(n, m), rfl⟩
theorem c51 : 0 < Pg.cellsOf 51 := by rw [show Pg.cellsOf 51 = 2 by kernel_rfl]; omega
theorem opens_rap : Opens Pg w μ 29 fun av => ∃ r : Rp, av = r.cells := by
  refine (Opens.struct (Vs := [_, _]) Tryz.underlying29 (by kernel_rfl) ⟨rfl, opens_drive, by kernel_rfl, Opens.fl Tryz.underlying27 (by kernel_rfl) c51 opens_find, trivial⟩).mono ?_
  rintro av ⟨ass, h, rfl⟩
  obtain ⟨a, b, rfl, ⟨n, rfl⟩, ⟨m, rfl⟩⟩ := h.two
  exact ⟨⟨n, m⟩, rfl⟩
theorem opens_u16s : Opens Pg w μ 42 fun av => ∃ l : List Int, U16ok l ∧ av = [U16 l] :=
  (Opens.intsK (k := .u16) Tryz.underlying42 (by kernel_rfl) Tryz.underlying59 (by kernel_rfl)).mono fun av ⟨l, h1, h2, h3⟩ =>
    ⟨l, ⟨Nat.le_trans h1 (by decide +kernel), fun x hx => bounds_u16 (h2 x hx)⟩, h3⟩
theorem opens_u8 : Opens Pg w μ 5 fun av => ∃ n : Int, (0 ≤ n ∧ n ≤ 255) ∧ av = [.int .u8 n] :=
  (Opens.int Tryz.underlying5 (by kernel_rfl)).mono fun av ⟨n, h1, h2⟩ => ⟨n, bounds_u8 h1, h2⟩
theorem opens_u16 : Opens Pg w μ 59 fun av => ∃ n : Int, (0 ≤ n ∧ n ≤ 65535) ∧ av = [.int .u16 n] :=
  (Opens.int Tryz.underlying59 (by kernel_rfl)).mono fun av ⟨n, h1, h2⟩ => ⟨n, bounds_u16 h1, h2⟩
end

theorem kids : Kids Pg (· < Pg.types.size) := kids_rows (by kernel_rfl) (by kernel_rfl)
theorem slices_full : ∀ t e, t < Pg.types.size → Pg.underlying t = some (.slice e) → 0 < Pg.cellsOf e := slices_full_of Pg (by kernel_rfl)
theorem ownKnobNone : ownKnob Pg.godebug = none := by kernel_rfl

end Go.Cw
end

/- Plain words on what raps tell, for the laws. -/
section
set_option maxRecDepth 100000
set_option linter.unusedSimpArgs false
namespace Go.Cw
open Go Go.Proofs

theorem bitsI_andNot (p q : Nat → Bool) {n : Nat} (hn : n ≤ 60) : bitI .andNot .i64 (bits p n) (bits q n) = bits (fun i => p i && !q i) n := by
  have ha := natB_lt62 p hn
  have hb := natB_lt62 q hn
  have hc := natB_lt62 (fun i => p i && !q i) hn
  rw [bits_natB, bits_natB, bits_natB]
  have key : (BitVec.ofNat 64 (natB p n) &&& ~~~(BitVec.ofNat 64 (natB q n))).toNat = natB (fun i => p i && !q i) n := by
    apply Nat.eq_of_testBit_eq
    intro i
    rw [← BitVec.getLsbD, BitVec.getLsbD_and, BitVec.getLsbD_not, BitVec.getLsbD_ofNat, BitVec.getLsbD_ofNat, natB_bit, natB_bit, natB_bit]
    by_cases hi : i < n
    · have : i < 64 := by omega
      simp [hi, this]
    · simp [hi]
  show IntKind.i64.wrap (Int.ofNat (BitVec.ofInt 64 (natB p n : Nat) &&& ~~~(BitVec.ofInt 64 (natB q n : Nat))).toNat) = _
  rw [BitVec.ofInt_natCast, BitVec.ofInt_natCast, key]
  have hh : ((natB (fun i => p i && !q i) n : Nat) : Int) < 2 ^ 62 := by exact_mod_cast hc
  simp [IntKind.wrap, IntKind.signed, IntKind.bits]
  omega
theorem and_all {m : Int} (hm : 0 ≤ m ∧ m < 2 ^ 60) {n : Nat} (hn : n ≤ 60) : ∃ o, bitI .and .i64 m (2 ^ n - 1) = o ∧ 0 ≤ o ∧ o < 2 ^ n := by
  refine ⟨_, rfl, ?_⟩
  have h1 : m = bits (inS m) 60 := (bits_inS hm).symm
  have h2 : (2 : Int) ^ n - 1 = bits (fun i => decide (i < n)) 60 := by
    rw [bits_more (n := n) hn fun i h1 h2 => by simpa using h1, bits_congr (q := fun _ => true) fun i hi => by simpa using hi, bits_all1]
  rw [h2, h1, bitsI_and _ _ (by omega), bits_more (n := n) hn fun i h1 h2 => by simp; omega]
  exact bits_lt _ _

theorem bestC_min (g : Int → Int × Bool) (k : Nat) : ∀ b, bestC g (tab k fun i => (i : Int)) = some b → b.2 = (g b.1).1 ∧ 0 ≤ b.1 ∧ b.1 < k ∧ (g b.1).2 = true ∧ ∀ y : Nat, y < k → (g y).2 = true → b.2 < (g y).1 ∨ (b.2 = (g y).1 ∧ b.1 ≤ y) := by
  induction k with
  | zero => intro b h; simp [tab, bestC] at h
  | succ k ih =>
    intro b h
    rw [tab_nat, bestC_push] at h
    have hn : bestC g (tab k fun i => (i : Int)) = none → ∀ y : Nat, y < k → (g y).2 = false := fun e y hy => by
      cases h2 : (g y).2
      · rfl
      · have := bestC_some (g := g) (l := tab k fun i => (i : Int)) (x := (y : Int)) (List.mem_map.2 ⟨y, List.mem_range.2 hy, rfl⟩) h2
        rw [e] at this; cases this
    obtain ⟨B, hB⟩ : ∃ B, bestC g (tab k fun i => (i : Int)) = B := ⟨_, rfl⟩
    rw [hB] at h ih hn
    unfold betC at h
    by_cases h2 : (g k).2 = true
    · rw [if_pos h2] at h
      cases B with
      | none =>
        cases h
        refine ⟨rfl, by simp, by simp; omega, h2, fun y hy hy2 => ?_⟩
        by_cases hyk : y = k
        · subst hyk; exact .inr ⟨rfl, Int.le_refl _⟩
        · have := hn rfl y (by omega)
          rw [this] at hy2; cases hy2
      | some c =>
        obtain ⟨a1, a2, a3, a4, a5⟩ := ih c rfl
        simp only at h
        split at h
        · rename_i hlt
          cases h
          refine ⟨rfl, by simp, by simp; omega, h2, fun y hy hy2 => ?_⟩
          by_cases hyk : y = k
          · subst hyk; exact .inr ⟨rfl, Int.le_refl _⟩
          · have := a5 y (by omega) hy2
            simp only
            omega
        · rename_i hlt
          cases h
          refine ⟨a1, a2, by omega, a4, fun y hy hy2 => ?_⟩
          by_cases hyk : y = k
          · subst hyk
            by_cases he : b.2 = (g y).1
            · exact .inr ⟨he, by omega⟩
            · exact .inl (by omega)
          · exact a5 y (by omega) hy2
    · rw [if_neg h2] at h
      subst h
      obtain ⟨a1, a2, a3, a4, a5⟩ := ih b rfl
      refine ⟨a1, a2, by omega, a4, fun y hy hy2 => ?_⟩
      by_cases hyk : y = k
      · subst hyk; exact absurd hy2 h2
      · exact a5 y (by omega) hy2
theorem bestC_none {g : Int → Int × Bool} {k : Nat} (h : bestC g (tab k fun i => (i : Int)) = none) {y : Nat} (hy : y < k) : (g y).2 = false := by
  cases h2 : (g y).2
  · rfl
  · have := bestC_some (g := g) (l := tab k fun i => (i : Int)) (x := (y : Int)) (List.mem_map.2 ⟨y, List.mem_range.2 hy, rfl⟩) h2
    rw [h] at this; cases this

namespace Rp
/-- Does a set sound as was heard by all raps? -/
def fitA (r : Rp) (o : Int) : Bool := r.rs.all fun x => r.hears o x.1.toNat == x.2
theorem fits_every (r : Rp) (o : Int) : r.fits (2 ^ r.k - 1) o = r.fitA o := by
  unfold fits fitA
  rw [Bool.eq_iff_iff, List.all_eq_true, List.all_eq_true]
  constructor
  · intro h x hx
    obtain ⟨j, hj, rfl⟩ := List.getElem_of_mem hx
    have := h j (List.mem_range.2 hj)
    rw [inS_all (show j < r.k from hj), List.getElem?_eq_getElem hj] at this
    simpa using this
  · intro h j hj
    have hj' : j < r.rs.length := List.mem_range.1 hj
    rw [List.getElem?_eq_getElem hj']
    have := h r.rs[j] (List.getElem_mem hj')
    simp only [Option.map_some, Option.getD_some, this, Bool.or_true]
theorem mem_sets {r : Rp} (hv : r.Valid) {x : Int} : x ∈ r.setsL ↔ (0 ≤ x ∧ x < 2 ^ r.n) ∧ (∃ t ∈ r.d.truths, r.opn t = x) ∧ r.fitA x = true := by
  rw [sets_eq hv, refL_mem, fits_every]
theorem sets_lt {r : Rp} (hv : r.Valid) : r.setsL.Pairwise (· < ·) := by rw [sets_eq hv]; exact r.refL_lt _
/-- Other raps of the same drive. -/
def of (r : Rp) (l : List (Int × Bool)) : Rp := ⟨r.d, l⟩
theorem Valid.of {r : Rp} (hv : r.Valid) {l : List (Int × Bool)} (h : l.length ≤ 10) (hs : ∀ x ∈ l, r.d.Seam x.1) : (r.of l).Valid := ⟨hv.d, h, hs⟩
theorem Small.of {r : Rp} (hs : r.Small) {l : List (Int × Bool)} (h : l.length ≤ 40) : (r.of l).Small := ⟨hs.d, h⟩
theorem fitA_of (r : Rp) (l : List (Int × Bool)) (o : Int) : (r.of l).fitA o = l.all fun x => r.hears o x.1.toNat == x.2 := rfl

theorem hears_iff {r : Rp} {o : Int} {i : Nat} : r.hears o i = true ↔ ∃ j, j < r.n ∧ inS o j = true ∧ r.near i j = true := by
  unfold hears
  simp only [List.any_eq_true, List.mem_range, Bool.and_eq_true]
theorem hears_or {r : Rp} (hn : r.n ≤ 60) {x y : Int} (hx : 0 ≤ x ∧ x < 2 ^ r.n) (hy : 0 ≤ y ∧ y < 2 ^ r.n) (i : Nat) : r.hears (bitI .or .i64 x y) i = (r.hears x i || r.hears y i) := by
  rw [Bool.eq_iff_iff, Bool.or_eq_true, hears_iff, hears_iff, hears_iff]
  have h : ∀ j, j < r.n → inS (bitI .or .i64 x y) j = (inS x j || inS y j) := fun j hj => by
    conv => lhs; rw [← bits_inS hx, ← bits_inS hy]
    rw [bitsI_or _ _ hn, inS_bits _ hj]
  constructor
  · rintro ⟨j, hj, h1, h2⟩
    rw [h j hj, Bool.or_eq_true] at h1
    rcases h1 with h1 | h1
    · exact .inl ⟨j, hj, h1, h2⟩
    · exact .inr ⟨j, hj, h1, h2⟩
  · rintro (⟨j, hj, h1, h2⟩ | ⟨j, hj, h1, h2⟩)
    · exact ⟨j, hj, by rw [h j hj, h1]; rfl, h2⟩
    · exact ⟨j, hj, by rw [h j hj, h1]; simp, h2⟩
theorem dull_or {r : Rp} (hn : r.n ≤ 60) {x y : Int} (hx : 0 ≤ x ∧ x < 2 ^ r.n) (hy : 0 ≤ y ∧ y < 2 ^ r.n) : r.dullS (bitI .or .i64 x y) = bitI .or .i64 (r.dullS x) (r.dullS y) := by
  unfold dullS
  rw [bitsI_or _ _ hn]
  exact bits_congr fun i _ => hears_or hn hx hy i
theorem or_lt {n : Nat} (hn : n ≤ 60) {x y : Int} (hx : 0 ≤ x ∧ x < 2 ^ n) (hy : 0 ≤ y ∧ y < 2 ^ n) : 0 ≤ bitI .or .i64 x y ∧ bitI .or .i64 x y < 2 ^ n := by
  rw [← bits_inS hx, ← bits_inS hy, bitsI_or _ _ hn]
  exact bits_lt _ _
theorem dull_self {r : Rp} (hn : r.n ≤ 60) {x : Int} (hx : 0 ≤ x ∧ x < 2 ^ r.n) : bitI .andNot .i64 x (r.dullS x) = 0 := by
  conv => lhs; rw [← bits_inS hx]
  unfold dullS
  rw [bitsI_andNot _ _ hn, bits_zero]
  intro i hi
  cases h : inS x i
  · rfl
  · rw [bits_inS hx, hears_self hi h]; rfl
theorem andNot_all {n : Nat} (hn : n ≤ 60) {x : Int} (hx : 0 ≤ x ∧ x < 2 ^ n) : bitI .andNot .i64 x (2 ^ n - 1) = 0 := by
  rw [← bits_inS hx, ← bits_all1, bitsI_andNot _ _ hn, bits_zero]
  intro i _; simp
theorem dullV_at {r : Rp} (hv : r.Valid) {q : Int} (hq : 0 ≤ q ∧ q < 2 ^ r.n) : r.dullV q = .tup [.int .i64 (r.dullS q), .int .i64 0] := by simp [dullV, hv, hq]
theorem dullV_out {r : Rp} (hv : r.Valid) {q : Int} (hq : ¬ (0 ≤ q ∧ q < 2 ^ r.n)) : r.dullV q = .tup [.int .i64 0, .int .i64 2] := by
  unfold dullV; rw [if_pos hv, if_neg hq]
end Rp

theorem law13_RapDull_ok (r : Rp) (a : Int) (ha : 0 ≤ a ∧ a ≤ 255) (b : Int) (hb : 0 ≤ b ∧ b ≤ 255) : APure Pg fn_law13_RapDull [r.v, .int .u8 a, .int .u8 b] (.bool true) := by
  have hva : r.v = .agg [L r.d.limits, LP r.d.beside, LP r.d.blows, LR r.rs] := rfl
  have hnl : r.d.limits.length = r.n := rfl
  have cL := law13_long_ok r
  rw [hva] at cL
  refine law13_RapDull.pure (by simp) ?_
  simp
  intro s
  refine PCallK.intro (PInv.func cL) ?_
  cases hlg : r.longB with
  | true =>
    simp
    refine PCallK.intro (PInv.func law13_alive_ok) ?_
    simp
    exact RetV.refl rfl
  | false =>
  have hs := Rp.longB_iff.1 hlg
  have cR := ref13_Rap_ok r hs
  rw [hva] at cR
  simp
  refine PCallK.intro (PInv.func cR) ?_
  by_cases hv : ¬ r.Valid
  · simp [hv]
    refine PCallK.intro (PInv.func law13_alive_ok) ?_
    simp
    exact RetV.refl rfl
  replace hv := Classical.not_not.1 hv
  have hn6 : r.n ≤ 6 := hv.d.n6
  have hn1 : 1 ≤ r.n := hv.d.n1
  have hp := two_pow_pos r.n
  have h2p := two_pow_le (show r.n ≤ 6 by omega)
  have e6 : (2 : Int) ^ 6 = 64 := by decide
  have hw : IntKind.i64.wrap ((2 : Int) ^ r.n) = 2 ^ r.n := wrap_i64s (by omega) (by omega)
  have e60 : (2 : Int) ^ 60 = 1152921504606846976 := by decide
  obtain ⟨x, hx, hxb⟩ := and_all (m := a) (by omega) (show r.n ≤ 60 by omega)
  obtain ⟨y, hy, hyb⟩ := and_all (m := b) (by omega) (show r.n ≤ 60 by omega)
  have hxy := Rp.or_lt (show r.n ≤ 60 by omega) hxb hyb
  have hdx := r.dullS_lt x
  have hdy := r.dullS_lt y
  have hwa : IntKind.i64.wrap a = a := wrap_i64s (by omega) (by omega)
  have hwb : IntKind.i64.wrap b = b := wrap_i64s (by omega) (by omega)
  have c1 := rap_Dull_ok r hs x
  have c2 := rap_Dull_ok r hs y
  have c3 := rap_Dull_ok r hs (bitI .or .i64 x y)
  have c4 := rap_Dull_ok r hs (2 ^ r.n)
  have c5 := rap_Dull_ok r hs (-1)
  rw [hva] at c1 c2 c3 c4 c5
  rw [Rp.dullV_at hv hxb] at c1
  rw [Rp.dullV_at hv hyb] at c2
  rw [Rp.dullV_at hv hxy, Rp.dull_or (by omega) hxb hyb] at c3
  rw [Rp.dullV_out hv (by omega)] at c4 c5
  have d1 := Rp.andNot_all (show r.n ≤ 60 by omega) hdx
  have d2 := Rp.dull_self (show r.n ≤ 60 by omega) hxb
  simp [hv, hnl, hw, hwa, hwb, hx, hy]
  repeat first | refine And.intro (by omega) ?_ | refine And.intro (by unfold Fits; omega) ?_
  refine PCallK.intro (PInv.func c1) ?_
  simp
  refine PCallK.intro (PInv.func c2) ?_
  simp
  refine PCallK.intro (PInv.func c3) ?_
  simp
  refine ⟨by unfold Fits; omega, ?_⟩
  refine PCallK.intro (PInv.func c4) ?_
  simp
  refine PCallK.intro (PInv.func c5) ?_
  simp [d1, d2]
  refine Lp.intro (σ := Nat) (inv := fun k => k ≤ r.n)
    (vw := fun k => [(3, .ptr 3 0 (s+1)), (9, .int .i64 x), (11, .int .i64 (r.dullS x)), (114, .int .i64 r.n), (115, .int .i64 k)])
    (hp := fun _ => [(3, .row [L r.d.limits, LP r.d.beside, LP r.d.blows, LR r.rs] (s+1))]) (ms := fun k => r.n - k) 0 (by simp) (by simp) (by simp) ?_
  intro k hk J hJ
  by_cases hkc : k < r.n
  · have hbi := inS_and1 (s := r.dullS x) (by omega) k
    have hin : inS (r.dullS x) k = r.hears x k := inS_bits _ hkc
    have cH := law13_hears_ok r hs hv x (by omega) k hkc
    rw [hva] at cH
    rw [hin] at hbi
    simp [hkc, hbi]
    refine ⟨by omega, ?_⟩
    refine PCallK.intro (PInv.func cH) ?_
    cases hh : r.hears x k
    all_goals simp
    all_goals (repeat first | refine And.intro (by omega) ?_ | refine And.intro (Fits.of (by omega) (by omega)) ?_)
    all_goals exact hJ.next (k + 1) (by omega) (by omega) (by simp) (by simp)
  · obtain rfl : k = r.n := by omega
    simp
    refine hJ.exit ?_
    simp
    refine PCallK.intro (PInv.func law13_alive_ok) ?_
    simp
    exact RetV.refl rfl
end Go.Cw
end

/- Numbers that are drawn; rows of raps that grow. -/
section
set_option maxRecDepth 100000
set_option linter.unusedSimpArgs false
namespace Go.Cw
open Go Go.Proofs

/-- The function that draws. -/
def drawV (ra s : Nat) (l : List Int) : AVal := .func (.func fn_law13_draws_1) [] [.ptr ra 0 s, .pv [U16 l]]

theorem law13_draws_ok (l : List Int) (ra : Nat) (K : AEnd → Heap → Prop) (hK : ∀ s, K (.ret (drawV ra s l)) (hpV [(ra, .row [.int .i64 0] s)])) : ACalls Pg fn_law13_draws [U16 l] (hpV [(ra, .dead)]) K := by
  obtain ⟨F, hF⟩ : ∃ F, ra < F := ⟨ra + 1, by omega⟩
  have e1 : ∀ k, ¬ F + k = ra := fun k => by omega
  have e2 : ∀ k, ¬ ra = F + k := fun k => by omega
  refine law13_draws.enter F (by simp) ?_
  simp [e1, e2]
  intro s s1
  refine RetV.frz (F + 1) (cells := [U16 l]) (s := s + 1) (by simp [e1, e2]) (RetV.move (F + 3) ra (RetV.view [(ra, .row [.int .i64 0] (s1 + 1))] (by simp [e1, e2]) ?_))
  simpa [drawV] using hK (s1 + 1)

theorem law13_draws_1_ok (l : List Int) (hl : U16ok l) (n : Int) (hn : 0 < n ∧ n ≤ 1000000) (k : Nat) (hk : k ≤ 1000000) (ra s : Nat) (K : AEnd → Heap → Prop)
    (hK : ∀ r : Nat, (r : Int) < n → K (.ret (.int .i64 r)) (hpV [(ra, .row [.int .i64 (k + 1 : Nat)] s)])) : ACalls Pg fn_law13_draws_1 [.int .i64 n, .ptr ra 0 s, .pv [U16 l]] (hpV [(ra, .row [.int .i64 k] s)]) K := by
  obtain ⟨F, hF⟩ : ∃ F, ra < F := ⟨ra + 1, by omega⟩
  have e1 : ∀ k, ¬ F + k = ra := fun k => by omega
  have e2 : ∀ k, ¬ ra = F + k := fun k => by omega
  have fin : ∀ r : Int, 0 ≤ r → r < n → RetV K (hpV [(ra, .row [.int .i64 (k + 1 : Nat)] s)]) (.int .i64 r) := fun r h0 h1 => by
    obtain ⟨r', rfl⟩ := Int.eq_ofNat_of_zero_le h0
    exact RetV.refl (hK r' h1)
  refine law13_draws_1.enter F (by simp) ?_
  simp [e1, e2]
  (repeat first | refine And.intro (by omega) ?_ | refine And.intro (Fits.of (by omega) (by omega)) ?_)
  by_cases h0 : l = []
  · subst h0
    simp [e1, e2]
    (repeat first | refine And.intro (by omega) ?_ | refine And.intro (Fits.of (by omega) (by omega)) ?_)
    have h1 := Int.tmod_nonneg (a := (k : Int) + 1) n (by omega)
    have h2 := Int.tmod_lt_of_pos ((k : Int) + 1) hn.1
    rw [upd_upd]
    simpa using fin _ h1 h2
  · have hpos : 0 < l.length := List.length_pos_iff.2 h0
    have hlen := hl.len
    have h1 := Int.tmod_nonneg (a := (k : Int) + 1) (l.length : Int) (by omega)
    have h2 := Int.tmod_lt_of_pos ((k : Int) + 1) (show (0 : Int) < l.length by omega)
    obtain ⟨i, hi⟩ := Int.eq_ofNat_of_zero_le h1
    have hil : i < l.length := by omega
    have hx := hl.rng l[i] (by simp)
    simp [h0, e1, e2, hi, hil]
    have h3 := Int.tmod_nonneg (a := l[i] + 83 * ((k : Int) + 1)) n (by omega)
    have h4 := Int.tmod_lt_of_pos (l[i] + 83 * ((k : Int) + 1)) hn.1
    refine ⟨Fits.of (by omega) (by omega), Fits.of (by omega) (by omega), Fits.of (by omega) (by omega), by omega, ?_⟩
    rw [upd_upd]
    simpa using fin _ h3 h4

/-- A number is drawn. -/
theorem FCall.draw {F n₀ : Nat} {inr : Bool} {keep : List Nat} {fa fl : List It} {d : Option Nat} {K : KT} {Q : Post} {tm : TM} {df : DF} {h : Heap} {l : List Int} (hl : U16ok l) {n : Int} (hn : 0 < n ∧ n ≤ 1000000) {k : Nat} (hk : k ≤ 1000000) {ra s : Nat} (hr : h ra = .row [.int .i64 k] s) (f : FaOk F fa tm h)
    (next : ∀ r : Nat, (r : Int) < n → FlOk fl (putD tm d (.int .i64 r)) (upd h ra (.row [.int .i64 (k + 1 : Nat)] s)) ∧ K (putD tm d (.int .i64 r)) df (upd h ra (.row [.int .i64 (k + 1 : Nat)] s))) :
    FCall ⟨Pg, F, n₀, inr, keep⟩ (drawV ra s l) [.int .i64 n] fa fl d K Q tm df h := by
  refine FCall.cps [(ra, .row [.int .i64 k] s)] (fun r : Nat => .int .i64 r) (fun _ => [(ra, .row [.int .i64 (k + 1 : Nat)] s)]) (fun r => (r : Int) < n) (fun K' hK' => AInvoke.func ?_) (by simpa using hr) (fun _ => rfl) f (fun r hr => by simpa using next r hr)
  exact law13_draws_1_ok l hl n hn k hk ra s K' hK'
theorem FCall.draws {F n₀ : Nat} {inr : Bool} {keep : List Nat} {fa fl : List It} {t : Option Nat} {K : KT} {Q : Post} {tm : TM} {df : DF} {h : Heap} {l : List Int} (ra : Nat) (hr : h ra = .dead) (f : FaOk F fa tm h)
    (next : ∀ s : Nat, FlOk fl (putD tm t (drawV ra s l)) (upd h ra (.row [.int .i64 0] s)) ∧ K (putD tm t (drawV ra s l)) df (upd h ra (.row [.int .i64 0] s))) :
    FCall ⟨Pg, F, n₀, inr, keep⟩ (.func (.func fn_law13_draws) [] []) [U16 l] fa fl t K Q tm df h := by
  refine FCall.cps [(ra, .dead)] (fun s : Nat => drawV ra s l) (fun s => [(ra, .row [.int .i64 0] s)]) (fun _ => True) (fun K' hK' => AInvoke.func ?_) (by simpa using hr) (fun _ => rfl) f (fun s _ => by simpa using next s)
  exact law13_draws_ok l ra K' fun s => hK' s trivial

theorem Sl.toV {n : Nat} {K : KT} {tm : TM} {df : DF} {h : Heap} (l : List (Nat × AVal)) (k : List (Nat × AObj)) (en : Sl n (fun tm' df' h' => df' = df ∧ Vw l tm' ∧ Hw k h') tm df h) (hK : K (tmV l) df (hpV k)) : Sl n K tm df h := by
  obtain ⟨tm₁, df₁, h₁, a, rfl, hv, hh⟩ := en
  exact ⟨_, _, _, a.trans (SLe.view hv hh), hK⟩
@[simp] theorem frzL_rfs (r s : Nat) (cells : List AVal) (l : List (Int × Bool)) : frzL r s cells (rfs l) = rfs l := by
  induction l with
  | nil => rfl
  | cons a l ih =>
    show frzL r s cells (rfC a ++ rfs l) = rfC a ++ rfs l
    simp [rfC, ih]
theorem rfs_push (l : List (Int × Bool)) (a : Int × Bool) : rfs l ++ [.int .i64 a.1, .bool a.2] = rfs (l ++ [a]) := by simp [rfs, fl, rfC]

/-- A grown row of raps in a rap becomes a value. -/
theorem Sl.raps {n : Nat} {K : KT} {tm : TM} {df : DF} {h : Heap} {a b c : AVal} (x R : Nat) {sx st : Nat} {l : List (Int × Bool)} (hx : h x = .row [a, b, c, gS 2 R l.length st] sx) (hR : h R = gO l.length (rfs l) st)
    (k1 : l = [] → Sl n K tm df (upd h x (.row [a, b, c, LR l] sx))) (k2 : 0 < l.length → Sl n K (frzT R st (rfs l) tm) df (frzH R st (rfs l) (upd h R .dead))) : Sl n K tm df h := by
  cases l with
  | nil =>
    refine Sl.rowLe (cells := [a, b, c, gS 2 R 0 st]) (s := sx) x [a, b, c, LR []] (by simpa using hx) ⟨ALe.refl _, ALe.refl _, ALe.refl _, ?_, trivial⟩ (k1 rfl)
    exact ALe.es_vl
  | cons y l => exact Sl.gSH R (m := (y :: l).length) (cells := rfs (y :: l)) (s := st) (by simp) hR (k2 (by simp))

namespace Rp
theorem Valid.truth_settle {r : Rp} (hv : r.Valid) {t : List Int} (ht : t ∈ r.d.truths) : r.d.settleV t = .tup [L (tab r.n (r.d.left (ofL t))), L (tab r.n (r.d.odo (ofL t))), .int .i64 0] := by
  obtain ⟨h1, h2⟩ := hv.d.truth ht
  have hb : r.d.Blows t := by
    refine ⟨h1, fun x hx => ?_⟩
    obtain ⟨i, hi, rfl⟩ := List.getElem_of_mem hx
    have := (h2 i (by omega)).2
    rw [ofL_at t hi]
    omega
  have hvd := hv.d
  simp only [Drv.settleV, hvd, hb, if_true]
  rfl
theorem opn_times {r : Rp} (t : List Int) : bits (fun k => decide (0 < ofL (tab r.n (r.d.odo (ofL t))) k)) (tab r.n (r.d.odo (ofL t))).length = r.opn t := by
  rw [tab_length]
  unfold opn
  refine bits_congr fun i hi => ?_
  simp [ofL, hi]
end Rp
end Go.Cw
end

/- The law True. -/
section
set_option maxRecDepth 100000
set_option linter.unusedSimpArgs false
namespace Go.Cw
open Go Go.Proofs

namespace Rp
theorem mem_canF {r : Rp} {o : Int} (ho : o ∈ r.setsL) : ∃ x ∈ r.canF, (x.val : Int) = o := List.mem_map.1 ho
theorem canF_lt (r : Rp) : r.canF.Pairwise fun a b => a.val < b.val := by
  unfold canF heardF
  exact List.Pairwise.filter _ r.soundsF_lt
theorem lt64 {r : Rp} (hv : r.Valid) {o : Int} (ho : 0 ≤ o ∧ o < 2 ^ r.n) : 0 ≤ o ∧ o < 2 ^ 6 := by
  have := two_pow_le (show r.n ≤ 6 from hv.d.n6)
  omega
theorem can_sub {r : Rp} (hv : r.Valid) {o : Int} (ho : o ∈ r.setsL) : bitI .andNot .i64 o (bits (anyS r.canF) 6) = 0 := by
  have h6 := lt64 hv (setsL_mem hv ho)
  obtain ⟨x, hx, hxo⟩ := mem_canF ho
  conv => lhs; rw [← bits_inS h6]
  rw [bitsI_andNot _ _ (by omega), bits_zero]
  intro i hi
  cases h : inS o i
  · rfl
  · have : anyS r.canF i = true := List.any_eq_true.2 ⟨x, hx, by rw [hxo]; exact h⟩
    rw [this]; rfl
theorem sure_sub {r : Rp} (hv : r.Valid) {o : Int} (ho : o ∈ r.setsL) : bitI .andNot .i64 (bits (allS r.canF) 6) o = 0 := by
  have h6 := lt64 hv (setsL_mem hv ho)
  obtain ⟨x, hx, hxo⟩ := mem_canF ho
  conv => lhs; rw [← bits_inS h6]
  rw [bitsI_andNot _ _ (by omega), bits_zero]
  intro i hi
  cases h : allS r.canF i
  · rfl
  · have := List.all_eq_true.1 h x hx
    rw [hxo] at this
    rw [this]; rfl
theorem sound_is {r : Rp} {o : Int} (ho : o ∈ r.setsL) : (soundN r.canF = 2 → o = 0) ∧ (soundN r.canF = 0 → o ≠ 0) := by
  obtain ⟨x, hx, rfl⟩ := mem_canF ho
  have hlt := r.canF_lt
  cases hc : r.canF with
  | nil => rw [hc] at hx; simp at hx
  | cons y l =>
    rw [hc] at hx hlt
    have hge : y.val ≤ x.val := by
      rcases List.mem_cons.1 hx with rfl | h
      · exact Nat.le_refl _
      · exact Nat.le_of_lt (List.rel_of_pairwise_cons hlt h)
    simp only [soundN]
    constructor
    · intro h
      by_cases h0 : y.val = 0
      · rw [if_pos h0] at h
        by_cases hl : l = []
        · subst hl
          simp only [List.mem_singleton] at hx
          subst hx; omega
        · rw [if_neg hl] at h; omega
      · rw [if_neg h0] at h; omega
    · intro h
      by_cases h0 : y.val = 0
      · rw [if_pos h0] at h
        split at h <;> omega
      · omega
theorem few_some {r : Rp} (hv : r.Valid) (hc : r.canF ≠ []) : ∃ b, r.fewB = some b ∧ r.fewV = .tup [.int .i64 b.2, .int .i64 b.1, .int .i64 0] ∧ b.2 = sizeS b.1 ∧ (0 ≤ b.1 ∧ b.1 < 2 ^ r.n) ∧ r.showsP r.setsL b.1 = true ∧
    ∀ q, 0 ≤ q ∧ q < 2 ^ r.n → r.showsP r.setsL q = true → b.2 < sizeS q ∨ (b.2 = sizeS q ∧ b.1 ≤ q) := by
  have hn6 : r.n ≤ 6 := hv.d.n6
  have hp := two_pow_pos r.n
  obtain ⟨N, hN⟩ : ∃ N : Nat, N = 2 ^ r.n := ⟨_, rfl⟩
  have hNi : (N : Int) = 2 ^ r.n := by rw [hN]; simp
  have hsh : ∀ q, 0 ≤ q ∧ q < 2 ^ r.n → (fewG r.dl r.canF q).2 = r.showsP r.setsL q := fun q hq => few_shows (by omega) _ hq
  have hsome : r.fewB.isSome = true := by
    unfold fewB
    rw [← hN]
    refine bestC_some (x := 2 ^ r.n - 1) ?_ ?_
    · have : (2 : Int) ^ r.n - 1 = ((N - 1 : Nat) : Int) := by omega
      rw [this]
      exact List.mem_map.2 ⟨N - 1, List.mem_range.2 (by omega), rfl⟩
    · rw [hsh _ (by omega), sets_eq hv]
      exact shows_all
  obtain ⟨b, hb⟩ := Option.isSome_iff_exists.1 hsome
  have hb' := hb
  unfold fewB at hb'
  rw [← hN] at hb'
  obtain ⟨h1, h2, h3, h4, h5⟩ := bestC_min _ N b hb'
  have hbr : 0 ≤ b.1 ∧ b.1 < 2 ^ r.n := by omega
  refine ⟨b, hb, by simp [fewV, hv, hc, hb], h1, hbr, by rw [← hsh _ hbr]; exact h4, fun q hq hs => ?_⟩
  obtain ⟨k, rfl⟩ : ∃ k : Nat, q = k := ⟨q.toNat, by omega⟩
  have := h5 k (by omega) (by rw [hsh _ hq]; exact hs)
  exact this
theorem sizeS_zero : sizeS 0 = 0 := by rw [sizeS_n (n := 0) (by omega) ⟨by omega, by decide⟩]; rfl
theorem sizeS_nonneg (q : Int) : 0 ≤ sizeS q := sumN_nonneg fun j _ => by split <;> omega
theorem wr_none {r : Rp} (hv : r.Valid) (hc : r.setsL ≠ []) : r.wrV = .tup [.int .i64 0, .int .i64 4] := by
  have hp := two_pow_pos r.k
  obtain ⟨N, hN⟩ : ∃ N : Nat, N = 2 ^ r.k := ⟨_, rfl⟩
  have hNi : (N : Int) = 2 ^ r.k := by rw [hN]; simp
  have h0 : (r.wrG 0).2 = true := by
    rw [wr_ok hv ⟨by omega, by omega⟩, decide_eq_true_eq, Int.sub_zero, ← sets_eq hv]; exact hc
  have hsome : r.wrB.isSome = true := by
    unfold wrB
    rw [← hN]
    exact bestC_some (x := 0) (List.mem_map.2 ⟨0, List.mem_range.2 (by omega), rfl⟩) h0
  obtain ⟨b, hb⟩ := Option.isSome_iff_exists.1 hsome
  have hb' := hb
  unfold wrB at hb'
  rw [← hN] at hb'
  obtain ⟨h1, h2, h3, h4, h5⟩ := bestC_min _ N b hb'
  have h6 := h5 0 (by omega) h0
  have e1 : (r.wrG b.1).1 = sizeS b.1 := rfl
  have e2 : (r.wrG ((0 : Nat) : Int)).1 = sizeS 0 := rfl
  rw [e2, sizeS_zero] at h6
  have := sizeS_nonneg b.1
  have hb0 : b.1 = 0 := by rw [h1, e1] at h6; simp at h6; omega
  simp [wrV, hv, hb, hb0]
theorem openV_ok {r : Rp} (hv : r.Valid) (hc : r.canF ≠ []) : r.openV = .tup [.int .i64 (bits (anyS r.canF) 6), .int .i64 (bits (allS r.canF) 6), .int .i64 0] := by simp [openV, hv, hc]
theorem soundV_ok {r : Rp} (hv : r.Valid) (hc : r.canF ≠ []) : r.soundV = .tup [.int .i64 (soundN r.canF), .int .i64 0] := by simp [soundV, hv, hc]
theorem setsV_ok {r : Rp} (hv : r.Valid) (hc : r.canF ≠ []) : r.setsV = .tup [L r.setsL, .int .i64 0] := by simp [setsV, hv, hc]
theorem soundN_01 (l : List (Fin 64)) : soundN l = 0 ∨ soundN l = 1 ∨ soundN l = 2 := by
  cases l with
  | nil => exact .inl rfl
  | cons x l => simp only [soundN]; split <;> (try split) <;> simp
end Rp

theorem law13_RapTrue_ok (r : Rp) (by' : List Int) (hby : U16ok by') : APure Pg fn_law13_RapTrue [r.v, U16 by'] (.bool true) := by
  have hva : r.v = .agg [L r.d.limits, LP r.d.beside, LP r.d.blows, LR r.rs] := rfl
  have hnl : r.d.limits.length = r.n := rfl
  have hnn : r.d.n = r.n := rfl
  have cL := law13_long_ok r
  rw [hva] at cL
  refine law13_RapTrue.pure (by simp) ?_
  simp
  intro s
  refine PCallK.intro (PInv.func cL) ?_
  cases hlg : r.longB with
  | true =>
    simp
    refine PCallK.intro (PInv.func law13_alive_ok) ?_
    simp
    exact RetV.refl rfl
  | false =>
  have hs := Rp.longB_iff.1 hlg
  have cR := ref13_Rap_ok r hs
  rw [hva] at cR
  simp
  refine PCallK.intro (PInv.func cR) ?_
  by_cases hv : ¬ r.Valid
  · have c1 := rap_Sets_ok r hs
    have c2 := rap_Sound_ok r hs
    rw [hva] at c1 c2
    simp [hv]
    refine PCallK.intro (PInv.func c1) ?_
    simp [Rp.setsV, hv]
    refine PCallK.intro (PInv.func c2) ?_
    simp [Rp.soundV, hv]
    refine PCallK.intro (PInv.func law13_alive_ok) ?_
    simp
    exact RetV.refl rfl
  replace hv := Classical.not_not.1 hv
  have hn6 : r.n ≤ 6 := hv.d.n6
  have hn1 : 1 ≤ r.n := hv.d.n1
  have hbl : r.d.blows.length = r.n := hv.d.bl
  have e6 : (2 : Int) ^ 6 = 64 := by decide
  have h2p := two_pow_le hn6
  simp [hv]
  refine FCall.draws 300 (by simp) (by simp) fun s1 => ⟨by simp, ?_⟩
  simp
  refine Lp.intro' (σ := Nat × List Int × Nat) (inv := fun x => x.1 ≤ r.n ∧ x.2.1.length = x.1 ∧ ∀ j, j < x.1 → r.d.lo j ≤ ofL x.2.1 j ∧ ofL x.2.1 j ≤ r.d.hi j)
    (vw := fun x => [(2, .ptr 2 0 (s+1)), (9, drawV 300 s1 by'), (10, gS 1 94 x.1 x.2.2), (75, LP r.d.blows), (76, .int .i64 r.n), (77, .int .i64 x.1)])
    (hp := fun x => [(2, .row [L r.d.limits, LP r.d.beside, LP r.d.blows, LR r.rs] (s+1)), (300, .row [.int .i64 (x.1 : Nat)] s1), (94, gO x.1 (ints x.2.1) x.2.2)])
    (ms := fun x => r.n - x.1) (0, [], 0) (by simp) (Sl.wk 10 .es (by simpa using ALe.nils_es) (Sl.refl ⟨rfl, by simp [hbl], by simp⟩)) ?_
  rintro ⟨i, xs, st⟩ ⟨hi, hxl, hx⟩ J hJ
  simp at hi hxl hx
  by_cases hc : i < r.n
  · have hcb : i < r.d.blows.length := by omega
    have hlh := hv.d.lohi i
    have elo : r.d.blows[i].1 = r.d.lo i := by simp [Drv.lo, hcb]
    have ehi : r.d.blows[i].2 = r.d.hi i := by simp [Drv.hi, hcb]
    simp [hc, hcb, elo, ehi]
    refine ⟨by omega, fun s2 => ?_⟩
    (repeat first | refine And.intro (by omega) ?_ | refine And.intro (Fits.of (by omega) (by omega)) ?_)
    refine FCall.draw hby (by omega) (k := i) (by omega) (by simp) (by simp) fun q hq => ?_
    simp
    (repeat first | refine And.intro (by omega) ?_ | refine And.intro (Fits.of (by omega) (by omega)) ?_)
    intro s3 s4
    refine xApN_gS (cells := ints xs) (by simp) (by simpa using hxl) (by omega) (by omega) ?_
    simp
    (repeat first | refine And.intro (by omega) ?_ | refine And.intro (Fits.of (by omega) (by omega)) ?_)
    refine hJ.next (i + 1, xs ++ [r.d.lo i + q], s4 + 1) ⟨by simp; omega, by simp [hxl], fun j hj => ?_⟩ (by simp; omega) (by simp) ?_
    · simp only [] at hj ⊢
      rw [ofL_snoc, hxl]
      by_cases hji : j = i
      · subst hji; simp; omega
      · simp only [if_neg hji]; exact hx j (by omega)
    · simp
  obtain rfl : i = r.n := by omega
  have ht : xs ∈ r.d.truths := hv.d.mem.2 ⟨hxl, hx⟩
  simp
  refine hJ.exitS (Sl.gSH 94 (m := r.n) (cells := ints xs) (s := st) (by omega) (by simp) (Sl.toV [(2, .ptr 2 0 (s+1)), (9, drawV 300 s1 by'), (10, L xs)] [(2, .row [L r.d.limits, LP r.d.beside, LP r.d.blows, LR r.rs] (s+1)), (300, .row [.int .i64 (r.n : Nat)] s1)] (Sl.refl ⟨rfl, by simp [drawV, L, hxl, gS, show ¬ r.n = 0 by omega], by simp⟩) ?_))
  simp
  have cSt := drive_Settle_ok r.d hs.d xs (by omega)
  rw [hv.truth_settle ht, show r.d.v = .agg [L r.d.limits, LP r.d.beside, LP r.d.blows] from rfl] at cSt
  refine FCall.pure (PInv.func cSt) ?_
  have cOp := law13_opened_ok (tab r.n (r.d.odo (ofL xs))) (by simp; omega)
  rw [Rp.opn_times] at cOp
  have hob := r.opn_lt xs
  obtain ⟨o, ho⟩ : ∃ o, o = r.opn xs := ⟨_, rfl⟩
  rw [← ho] at cOp hob
  simp [hxl]
  refine PCallK.intro (PInv.func cOp) ?_
  simp
  intro s17
  refine FCall.draw hby (by omega) (k := r.n) (by omega) (by simp) (by simp) fun m hm => ⟨by simp, ?_⟩
  simp
  refine Lp.intro' (σ := Nat × List (Int × Bool) × Nat) (inv := fun x => x.1 ≤ m ∧ x.2.1.length = x.1 ∧ ∀ y ∈ x.2.1, r.d.Seam y.1 ∧ r.hears o y.1.toNat = y.2)
    (vw := fun x => [(2, .ptr 2 0 (s+1)), (9, drawV 300 s1 by'), (10, L xs), (16, .int .i64 o), (17, .ptr 17 0 (s17+1)), (118, .int .i64 m), (119, .int .i64 x.1)])
    (hp := fun x => [(2, .row [L r.d.limits, LP r.d.beside, LP r.d.blows, LR r.rs] (s+1)), (17, .row [L r.d.limits, LP r.d.beside, LP r.d.blows, gS 2 134 x.2.1.length x.2.2] (s17+1)), (300, .row [.int .i64 (r.n + 1 + x.1 : Nat)] s1), (134, gO x.2.1.length (rfs x.2.1) x.2.2)])
    (ms := fun x => m - x.1) (0, [], 0) (by simp)
    (Sl.rowLe (cells := [L r.d.limits, LP r.d.beside, LP r.d.blows, .nils]) (s := s17 + 1) 17 [L r.d.limits, LP r.d.beside, LP r.d.blows, .es] (by simp) ⟨ALe.refl _, ALe.refl _, ALe.refl _, ALe.nils_es, trivial⟩ (Sl.refl ⟨rfl, by simp, by simp⟩)) ?_
  rintro ⟨k, ys, st2⟩ ⟨hk, hyl, hy⟩ J2 hJ2
  simp only at hk hyl hy
  by_cases hkc : k < m
  · simp [hkc, hxl]
    refine FCall.draw hby (by omega) (k := r.n + 1 + k) (by omega) (by simp) (by simp) fun q hq => ⟨by simp, ?_⟩
    have cHe := law13_hears_ok r hs hv o (by omega) q (by omega)
    rw [hva] at cHe
    simp
    refine PCallK.intro (PInv.func cHe) ?_
    simp
    refine PCallK.intro (PInv.func (law13_find_ok _ _)) ?_
    simp
    intro s4 s5
    refine xApN_gS (cells := rfs ys) (by simp) (by simp) (by omega) (by omega) ?_
    simp
    (repeat first | refine And.intro (by omega) ?_ | refine And.intro (Fits.of (by omega) (by omega)) ?_)
    refine hJ2.next (k + 1, ys ++ [((q : Int), r.hears o q)], s5 + 1) ⟨by simp; omega, by simp [hyl], fun y hy' => ?_⟩ (by simp; omega) (by simp) ?_
    · simp only [List.mem_append, List.mem_singleton] at hy'
      rcases hy' with h | rfl
      · exact hy _ h
      · refine ⟨?_, by simp⟩
        unfold Drv.Seam; simp; omega
    · simp [← rfs_push]
      omega
  obtain rfl : k = m := by omega
  obtain ⟨R, hR⟩ : ∃ R, R = r.of ys := ⟨_, rfl⟩
  have hRs : R.Small := by rw [hR]; exact hs.of (by omega)
  have hRv : R.Valid := by rw [hR]; exact hv.of (by omega) fun y hy' => (hy _ hy').1
  have hRn : R.n = r.n := by rw [hR]; rfl
  have hRo : o ∈ R.setsL := by
    refine (Rp.mem_sets hRv).2 ⟨by rw [hRn]; exact hob, ⟨xs, by rw [hR]; exact ht, by rw [hR, ho]; rfl⟩, ?_⟩
    rw [hR, Rp.fitA_of]
    refine List.all_eq_true.2 fun y hy' => ?_
    rw [(hy _ hy').2]; simp
  have hRc : R.canF ≠ [] := by obtain ⟨x, hx, _⟩ := Rp.mem_canF hRo; exact List.ne_nil_of_mem hx
  have hRl : R.setsL.length ≤ 64 := Rp.setsL_len hRv
  have f1 := Rp.can_sub hRv hRo
  have f2 := Rp.sure_sub hRv hRo
  obtain ⟨f3, f4⟩ := Rp.sound_is hRo
  obtain ⟨b, hb1, hb2, hb3, hb4, hb5, _⟩ := Rp.few_some hRv hRc
  rw [hRn] at hb4
  have f5 := Rp.wr_none hRv (List.ne_nil_of_mem hRo)
  have hRh : ∀ i, R.hears o i = r.hears o i := fun i => by rw [hR]; rfl
  have hRva : R.v = .agg [L r.d.limits, LP r.d.beside, LP r.d.blows, LR ys] := by rw [hR]; rfl
  have c1 := rap_Sets_ok R hRs
  have c2 := rap_Open_ok R hRs
  have c3 := rap_Sound_ok R hRs
  have c4 := rap_Fewest_ok R hRs
  have c5 := rap_Wrong_ok R hRs
  rw [hRva, Rp.setsV_ok hRv hRc] at c1
  rw [hRva, Rp.openV_ok hRv hRc] at c2
  rw [hRva, Rp.soundV_ok hRv hRc] at c3
  rw [hRva, hb2] at c4
  rw [hRva, f5] at c5
  obtain ⟨l, hl⟩ : ∃ l, l = R.setsL := ⟨_, rfl⟩
  obtain ⟨can, hcan⟩ : ∃ can, can = bits (anyS R.canF) 6 := ⟨_, rfl⟩
  obtain ⟨sure, hsure⟩ : ∃ sure, sure = bits (allS R.canF) 6 := ⟨_, rfl⟩
  obtain ⟨sn, hsn⟩ : ∃ sn, sn = Rp.soundN R.canF := ⟨_, rfl⟩
  rw [← hl] at c1 hRl hRo hb5
  rw [← hcan] at c2 f1
  rw [← hsure] at c2 f2
  rw [← hsn] at c3 f3 f4
  have hsn3 : sn = 0 ∨ sn = 1 ∨ sn = 2 := by rw [hsn]; exact Rp.soundN_01 _
  simp
  refine hJ2.exitS (Sl.toV [(2, .ptr 2 0 (s+1)), (10, L xs), (16, .int .i64 o), (17, .ptr 17 0 (s17+1))]
      [(2, .row [L r.d.limits, LP r.d.beside, LP r.d.blows, LR r.rs] (s+1)), (17, .row [L r.d.limits, LP r.d.beside, LP r.d.blows, LR ys] (s17+1))] (Sl.raps (a := L r.d.limits) (b := LP r.d.beside) (c := LP r.d.blows) 17 134 (l := ys) (sx := s17 + 1) (st := st2) (by simp) (by simp) (fun h0 => ?_) (fun h0 => ?_)) ?_)
  · exact Sl.refl ⟨rfl, by simp, by simp⟩
  · exact Sl.refl ⟨rfl, by simp, by simp [gS_pos h0, LR]⟩
  simp
  refine PCallK.intro (PInv.func c1) ?_
  simp
  refine PCallK.intro (PInv.func c2) ?_
  simp
  refine PCallK.intro (PInv.func c3) ?_
  simp
  refine PCallK.intro (PInv.func c4) ?_
  simp
  refine PCallK.intro (PInv.func c5) ?_
  simp
  refine Lp.intro (σ := Nat) (inv := fun k => k ≤ l.length)
    (vw := fun k => [(2, .ptr 2 0 (s+1)), (10, L xs), (16, .int .i64 o), (21, .int .i64 can), (22, .int .i64 sure), (24, .int .i64 sn), (27, .int .i64 b.1), (31, .bool ((l.take k).any fun x => decide (x = o))), (182, L l), (183, .int .i64 l.length), (184, .int .i64 k)])
    (hp := fun _ => [(2, .row [L r.d.limits, LP r.d.beside, LP r.d.blows, LR r.rs] (s+1))]) (ms := fun k => l.length - k) 0 (by simp) (by simp) (by simp) ?_
  intro j hj J3 hJ3
  by_cases hjc : j < l.length
  · have hst : (l.take (j + 1)).any (fun x => decide (x = o)) = ((l.take j).any (fun x => decide (x = o)) || decide (l[j] = o)) := by
      rw [← List.take_append_getElem hjc, List.any_append]; simp
    cases hf : (l.take j).any fun x => decide (x = o)
    all_goals simp [hjc]
    all_goals (repeat first | refine And.intro (by omega) ?_ | refine And.intro (Fits.of (by omega) (by omega)) ?_)
    all_goals exact hJ3.next (j + 1) (by omega) (by omega) (by simp [hst, hf]) (by simp)
  obtain rfl : j = l.length := by omega
  have hfl : (l.any fun x => decide (x = o)) = true := List.any_eq_true.2 ⟨o, hRo, by simp⟩
  simp
  refine hJ3.exit ?_
  obtain ⟨f, hf⟩ : ∃ f : Nat → Bool, f = fun k => (List.range k).all fun i => !inS b.1 i || !r.hears o i := ⟨_, rfl⟩
  simp [hfl, hxl]
  refine Lp.intro (σ := Nat) (inv := fun k => k ≤ r.n)
    (vw := fun k => [(2, .ptr 2 0 (s+1)), (16, .int .i64 o), (21, .int .i64 can), (22, .int .i64 sure), (24, .int .i64 sn), (27, .int .i64 b.1), (31, .bool true), (34, .bool (f k)), (196, .int .i64 r.n), (197, .int .i64 k)])
    (hp := fun _ => [(2, .row [L r.d.limits, LP r.d.beside, LP r.d.blows, LR r.rs] (s+1))]) (ms := fun k => r.n - k) 0 (by simp) (by simp [hf, hxl]) (by simp) ?_
  intro j hj J4 hJ4
  by_cases hjc : j < r.n
  · have hst : f (j + 1) = (f j && (!inS b.1 j || !r.hears o j)) := by rw [hf]; simp only [List.range_succ, List.all_append, List.all_cons, List.all_nil, Bool.and_true]
    have hbi := inS_and1 (s := b.1) (by omega) j
    have cHe := law13_hears_ok r hs hv o (by omega) j hjc
    rw [hva] at cHe
    cases hfj : f j
    · simp [hjc]
      (repeat first | refine And.intro (by omega) ?_ | refine And.intro (Fits.of (by omega) (by omega)) ?_)
      exact hJ4.next (j + 1) (by omega) (by omega) (by simp [hst, hfj]) (by simp)
    · cases hbj : inS b.1 j
      · rw [hbj] at hbi
        simp [hjc, hbi]
        (repeat first | refine And.intro (by omega) ?_ | refine And.intro (Fits.of (by omega) (by omega)) ?_)
        exact hJ4.next (j + 1) (by omega) (by omega) (by simp [hst, hfj, hbj]) (by simp)
      · rw [hbj] at hbi
        simp [hjc, hbi]
        refine ⟨by omega, ?_⟩
        refine PCallK.intro (PInv.func cHe) ?_
        simp
        (repeat first | refine And.intro (by omega) ?_ | refine And.intro (Fits.of (by omega) (by omega)) ?_)
        exact hJ4.next (j + 1) (by omega) (by omega) (by simp [hst, hfj, hbj]) (by simp)
  obtain rfl : j = r.n := by omega
  have hsh : f r.n = true → o = 0 := fun h => by
    refine Classical.byContradiction fun h0 => ?_
    have := List.all_eq_true.1 hb5 o hRo
    simp only [h0, decide_false, Bool.false_or, List.any_eq_true, List.mem_range, Bool.and_eq_true] at this
    obtain ⟨i, hi, h1, h2⟩ := this
    rw [hf] at h
    have := List.all_eq_true.1 h i (List.mem_range.2 (by rw [← hRn]; exact hi))
    rw [h1, ← hRh, h2] at this
    simp at this
  simp
  refine hJ4.exit ?_
  cases hfn : f r.n
  · rcases hsn3 with h3 | h3 | h3
    · have h4 := f4 h3
      simp [f1, f2, h3, h4]
      refine PCallK.intro (PInv.func law13_alive_ok) ?_
      simp
      exact RetV.refl rfl
    · simp [f1, f2, h3]
      refine PCallK.intro (PInv.func law13_alive_ok) ?_
      simp
      exact RetV.refl rfl
    · have h4 := f3 h3
      subst h4
      simp [f1, f2, h3]
      refine PCallK.intro (PInv.func law13_alive_ok) ?_
      simp
      exact RetV.refl rfl
  · have h0 := hsh hfn
    rcases hsn3 with h3 | h3 | h3
    · exact absurd h0 (f4 h3)
    · subst h0
      simp [f1, f2, h3]
      refine PCallK.intro (PInv.func law13_alive_ok) ?_
      simp
      exact RetV.refl rfl
    · subst h0
      simp [f1, f2, h3]
      refine PCallK.intro (PInv.func law13_alive_ok) ?_
      simp
      exact RetV.refl rfl
end Go.Cw
end

/- The law Sets. -/
section
set_option maxRecDepth 100000
set_option linter.unusedSimpArgs false
namespace Go.Cw
open Go Go.Proofs

/-- Does a set sound as was heard? By the law's own words. -/
theorem law13_RapSets_1_ok (r : Rp) (hs : r.Small) (hv : r.Valid) (o : Int) (ho : 0 ≤ o ∧ o < 2 ^ r.n) (s : Nat) (K : AEnd → Heap → Prop)
    (hK : K (.ret (.bool (r.fitA o))) (hpV [(2, .row r.cells s)])) : ACalls Pg fn_law13_RapSets_1 [.int .i64 o, .ptr 2 0 s] (hpV [(2, .row r.cells s)]) K := by
  have hn6 : r.n ≤ 6 := hv.d.n6
  have h2p := two_pow_le hn6
  have e6 : (2 : Int) ^ 6 = 64 := by decide
  have hkl : r.rs.length = r.k := rfl
  have hk10 := hv.k10
  have hva : r.v = .agg [L r.d.limits, LP r.d.beside, LP r.d.blows, LR r.rs] := rfl
  refine law13_RapSets_1.enter 300 (by simp) ?_
  simp [Rp.cells]
  refine Lp.intro (σ := Nat) (inv := fun k => k ≤ r.k ∧ (r.rs.take k).all (fun x => r.hears o x.1.toNat == x.2) = true) (vw := fun k => [(0, .int .i64 o), (1, .ptr 2 0 s), (7, LR r.rs), (8, .int .i64 r.k), (9, .int .i64 k)])
    (hp := fun _ => [(2, .row r.cells s)]) (ms := fun k => r.k - k) 0 (by simp) (by simp [hkl]) (by simp [Rp.cells]) ?_
  rintro k ⟨hk, inv⟩ J hJ
  by_cases hkc : k < r.k
  · have hkn : k < r.rs.length := hkc
    obtain ⟨y, hy⟩ : ∃ y, r.rs[k] = y := ⟨_, rfl⟩
    have hgy : r.rs[k]? = some y := by rw [List.getElem?_eq_getElem hkn, hy]
    have hys := hv.seam (x := y) (by rw [← hy]; simp)
    have cH := law13_hears_ok r hs hv o (by omega) y.1.toNat hys.2
    rw [← hys.1, hva] at cH
    have hst : (r.rs.take (k + 1)).all (fun x => r.hears o x.1.toNat == x.2) = (r.hears o y.1.toNat == y.2) := by
      rw [← List.take_append_getElem hkn, List.all_append, inv, hy]; simp
    simp [hkc, hgy, Rp.cells, hkn, hy]
    refine ⟨by omega, fun s5 => ?_⟩
    refine PCallK.intro (PInv.func cH) ?_
    by_cases he : r.hears o y.1.toNat = y.2
    · simp [he]
      (repeat first | refine And.intro (by omega) ?_ | refine And.intro (Fits.of (by omega) (by omega)) ?_)
      exact hJ.next (k + 1) ⟨by omega, by rw [hst, he]; simp⟩ (by omega) (by simp) (by simp [Rp.cells])
    · have hf : r.fitA o = false := by
        unfold Rp.fitA
        rw [List.all_eq_false]
        exact ⟨y, by rw [← hy]; simp, by simpa using he⟩
      have hne : (r.hears o y.1.toNat == y.2) = false := by simpa using he
      simp [hne, he]
      refine hJ.ret ?_
      simp
      refine RetV.view [(2, .row r.cells s)] (by simp [Rp.cells]) ?_
      rw [← hf]; exact hK
  obtain rfl : k = r.k := by omega
  rw [← hkl, List.take_length] at inv
  simp
  refine hJ.exit ?_
  simp
  refine RetV.view [(2, .row r.cells s)] (by simp [Rp.cells]) ?_
  have : r.fitA o = true := inv
  rw [← this]; exact hK
theorem FCall.fits {F n₀ : Nat} {inr : Bool} {keep : List Nat} {fa fl : List It} {t : Option Nat} {K : KT} {Q : Post} {tm : TM} {df : DF} {h : Heap} {r : Rp} (hs : r.Small) (hv : r.Valid) {o : Int} (ho : 0 ≤ o ∧ o < 2 ^ r.n) {s : Nat} (hr : h 2 = .row r.cells s) (f : FaOk F fa tm h)
    (next : FlOk fl (putD tm t (.bool (r.fitA o))) (upd h 2 (.row r.cells s)) ∧ K (putD tm t (.bool (r.fitA o))) df (upd h 2 (.row r.cells s))) :
    FCall ⟨Pg, F, n₀, inr, keep⟩ (.func (.func fn_law13_RapSets_1) [] [.ptr 2 0 s]) [.int .i64 o] fa fl t K Q tm df h := by
  refine FCall.cps [(2, .row r.cells s)] (fun _ : Unit => .bool (r.fitA o)) (fun _ => [(2, .row r.cells s)]) (fun _ => True) (fun K' hK' => AInvoke.func ?_) (by simpa using hr) (fun _ => rfl) f (fun _ _ => by simpa using next)
  exact law13_RapSets_1_ok r hs hv o ho s K' (hK' () trivial)

namespace Rp
theorem times_in {d : Drv} (hv : d.Valid) {l : List Int} (h : l ∈ d.truths) (i : Nat) : d.odo d.lo i ≤ d.odo (ofL l) i ∧ d.odo (ofL l) i ≤ d.odo d.hi i := by
  have ht := (hv.truth h).2
  exact ⟨Drv.odo_mono hv hv.lo_in (hv.truth_in h) (fun j hj => (ht j hj).1.1) i, Drv.odo_mono hv (hv.truth_in h) hv.hi_in (fun j hj => (ht j hj).1.2) i⟩
theorem opens_in {r : Rp} (hv : r.Valid) {t : List Int} (ht : t ∈ r.d.truths) : bitI .andNot .i64 (r.opn t) (bits r.d.canP r.n) = 0 ∧ bitI .andNot .i64 (bits r.d.sureP r.n) (r.opn t) = 0 := by
  have hn : r.n ≤ 60 := by have := hv.d.n6; have : r.d.n = r.n := rfl; omega
  have hin := fun i => times_in hv.d ht i
  unfold opn
  rw [bitsI_andNot _ _ hn, bitsI_andNot _ _ hn, bits_zero, bits_zero]
  constructor
  · intro i hi
    have := hin i
    simp only [Drv.canP, Drv.times_span hv.d]
    by_cases h : 0 < r.d.odo (ofL t) i
    · have : 0 < r.d.odo r.d.hi i := by omega
      simp [h, this]
    · simp [h]
  · intro i hi
    have := hin i
    simp only [Drv.sureP, Drv.times_span hv.d]
    by_cases h : 0 < r.d.odo r.d.lo i
    · have : 0 < r.d.odo (ofL t) i := by omega
      simp [h, this]
    · simp [h]
/-- What all functions tell. -/
theorem told {r : Rp} (hv : r.Valid) : ∃ e can sure sn, r.setsV = .tup [L r.setsL, .int .i64 e] ∧ r.openV = .tup [.int .i64 can, .int .i64 sure, .int .i64 e] ∧ r.soundV = .tup [.int .i64 sn, .int .i64 e] ∧
    ((e = 0 ∧ r.canF ≠ [] ∧ can = bits (anyS r.canF) 6 ∧ sure = bits (allS r.canF) 6 ∧ sn = soundN r.canF) ∨ (e = 10 ∧ r.canF = [] ∧ r.setsL = [] ∧ can = 0 ∧ sure = 0 ∧ sn = 0)) := by
  by_cases hc : r.canF = []
  · have hl := r.setsL_nil.1 hc
    exact ⟨10, 0, 0, 0, by simp [setsV, hv, hc, hl], by simp [openV, hv, hc], by simp [soundV, hv, hc], .inr ⟨rfl, hc, hl, rfl, rfl, rfl⟩⟩
  · exact ⟨0, _, _, _, setsV_ok hv hc, openV_ok hv hc, soundV_ok hv hc, .inl ⟨rfl, hc, rfl, rfl, rfl⟩⟩
theorem opensV_at {d : Drv} (hv : d.Valid) : d.opensV = .tup [.int .i64 (bits d.canP d.n), .int .i64 (bits d.sureP d.n), .int .i64 0] := by simp [Drv.opensV, hv]
def someB (l : List Int) : Int := bits (fun i => l.any fun x => inS x i) 6
def allB (n : Nat) (l : List Int) : Int := bits (fun i => decide (i < n) && l.all fun x => inS x i) 6
theorem someB_push (l : List Int) {x : Int} (hx : 0 ≤ x ∧ x < 2 ^ 6) : bitI .or .i64 (someB l) x = someB (l ++ [x]) := by
  unfold someB
  conv => lhs; rw [← bits_inS hx]
  rw [bitsI_or _ _ (by omega)]
  exact bits_congr fun i _ => by simp [bits_inS hx]
theorem allB_push (n : Nat) (l : List Int) {x : Int} (hx : 0 ≤ x ∧ x < 2 ^ 6) : bitI .and .i64 (allB n l) x = allB n (l ++ [x]) := by
  unfold allB
  conv => lhs; rw [← bits_inS hx]
  rw [bitsI_and _ _ (by omega)]
  exact bits_congr fun i _ => by simp [bits_inS hx, Bool.and_assoc]
theorem someB_all (r : Rp) : someB r.setsL = bits (anyS r.canF) 6 := by
  unfold someB anyS setsL
  exact bits_congr fun i _ => by rw [List.any_map]; rfl
theorem allB_all {r : Rp} (hv : r.Valid) (hc : r.canF ≠ []) : allB r.n r.setsL = bits (allS r.canF) 6 := by
  unfold allB
  refine bits_congr fun i _ => ?_
  have h : (r.setsL.all fun x => inS x i) = allS r.canF i := by unfold allS setsL; rw [List.all_map]; rfl
  rw [h]
  by_cases hi : i < r.n
  · simp [hi]
  · rw [allS_high hv hc (by omega)]; simp
theorem allB_nil {n : Nat} (hn : n ≤ 6) : allB n [] = 2 ^ n - 1 := by
  unfold allB
  rw [bits_more (n := n) hn fun i h1 h2 => by simp; omega, bits_congr (q := fun _ => true) fun i hi => by simp [hi], bits_all1]
theorem want_is {r : Rp} {x : Int} {m : List Int} (hl : r.setsL = x :: m) : soundN r.canF = if x = 0 then (if m = [] then 2 else 1) else 0 := by
  unfold setsL at hl
  cases hc : r.canF with
  | nil => rw [hc] at hl; simp at hl
  | cons y l =>
    rw [hc] at hl
    simp only [List.map_cons, List.cons.injEq] at hl
    obtain ⟨rfl, rfl⟩ := hl
    simp only [soundN]
    by_cases h0 : y.val = 0
    · have h0' : (y.val : Int) = 0 := by omega
      rw [if_pos h0, if_pos h0']
      by_cases hm : l = []
      · subst hm; rfl
      · rw [if_neg hm, if_neg (by simpa using hm)]
    · have h0' : ¬ (y.val : Int) = 0 := by omega
      rw [if_neg h0, if_neg h0']
end Rp

theorem law13_RapSets_ok (r : Rp) (by' : List Int) (hby : U16ok by') : APure Pg fn_law13_RapSets [r.v, U16 by'] (.bool true) := by
  have hva : r.v = .agg [L r.d.limits, LP r.d.beside, LP r.d.blows, LR r.rs] := rfl
  have hnl : r.d.limits.length = r.n := rfl
  have hnn : r.d.n = r.n := rfl
  have cL := law13_long_ok r
  rw [hva] at cL
  refine law13_RapSets.pure (by simp) ?_
  simp
  intro s
  refine PCallK.intro (PInv.func cL) ?_
  cases hlg : r.longB with
  | true =>
    simp
    refine PCallK.intro (PInv.func law13_alive_ok) ?_
    simp
    exact RetV.refl rfl
  | false =>
  have hs := Rp.longB_iff.1 hlg
  have cR := ref13_Rap_ok r hs
  rw [hva] at cR
  simp
  refine PCallK.intro (PInv.func cR) ?_
  by_cases hv : ¬ r.Valid
  · simp [hv]
    refine PCallK.intro (PInv.func law13_alive_ok) ?_
    simp
    exact RetV.refl rfl
  replace hv := Classical.not_not.1 hv
  have hn6 : r.n ≤ 6 := hv.d.n6
  have hn1 : 1 ≤ r.n := hv.d.n1
  have hbl : r.d.blows.length = r.n := hv.d.bl
  have e6 : (2 : Int) ^ 6 = 64 := by decide
  have h2p := two_pow_le hn6
  have hpp := two_pow_pos r.n
  have c1 := rap_Sets_ok r hs
  have c2 := rap_Open_ok r hs
  have c3 := rap_Sound_ok r hs
  have cO := drive_Opens_ok r.d hs.d
  obtain ⟨e, can, sure, sn, t1, t2, t3, hcase⟩ := Rp.told hv
  rw [hva, t1] at c1
  rw [hva, t2] at c2
  rw [hva, t3] at c3
  rw [Rp.opensV_at hv.d, show r.d.v = .agg [L r.d.limits, LP r.d.beside, LP r.d.blows] from rfl] at cO
  have hwS : IntKind.i64.wrap ((2 : Int) ^ r.n) = 2 ^ r.n := wrap_i64s (by omega) (by omega)
  have hlm : ∀ x ∈ r.setsL, _ := fun x hx => (Rp.mem_sets hv).1 hx
  have hll : r.setsL.length ≤ 64 := Rp.setsL_len hv
  have hlt := Rp.sets_lt hv
  have hnil : r.canF = [] ↔ r.setsL = [] := r.setsL_nil
  obtain ⟨l, hl⟩ : ∃ l, l = r.setsL := ⟨_, rfl⟩
  rw [← hl] at c1 hlm hll hlt hnil
  rcases hcase with ⟨rfl, hc, hcan, hsure, hsn⟩ | ⟨rfl, hc, hl0, rfl, rfl, rfl⟩
  all_goals simp [hv]
  all_goals refine PCallK.intro (PInv.func c1) ?_
  all_goals simp
  all_goals refine PCallK.intro (PInv.func c2) ?_
  all_goals simp
  all_goals refine PCallK.intro (PInv.func c3) ?_
  case' inr => obtain rfl : l = [] := by rw [hl]; exact hl0
  all_goals simp
  all_goals refine FCall.draws 300 (by simp) (by simp) fun s1 => ⟨by simp, ?_⟩
  all_goals simp
  case' inl => obtain ⟨E, hE⟩ : ∃ E : Int, E = 0 := ⟨_, rfl⟩
  case' inl => have hln : True := trivial
  case' inr => obtain ⟨E, hE⟩ : ∃ E : Int, E = 10 := ⟨_, rfl⟩
  case' inr => obtain ⟨can, hcan⟩ : ∃ E : Int, E = 0 := ⟨_, rfl⟩
  case' inr => obtain ⟨sure, hsure⟩ : ∃ E : Int, E = 0 := ⟨_, rfl⟩
  case' inr => obtain ⟨sn, hsn⟩ : ∃ E : Int, E = 0 := ⟨_, rfl⟩
  case' inr => obtain ⟨l, hln⟩ : ∃ l : List Int, l = [] := ⟨_, rfl⟩
  all_goals refine Lp.intro' (σ := Nat × List Int × Nat) (inv := fun x => x.1 ≤ r.n ∧ x.2.1.length = x.1 ∧ ∀ j, j < x.1 → r.d.lo j ≤ ofL x.2.1 j ∧ ofL x.2.1 j ≤ r.d.hi j) (vw := fun x => [(2, .ptr 2 0 (s+1)), (5, L l), (6, .int .i64 E), (7, .int .i64 can), (8, .int .i64 sure), (10, .int .i64 sn), (12, .func (.func fn_law13_RapSets_1) [] [.ptr 2 0 (s+1)]), (13, drawV 300 s1 by'), (14, gS 1 111 x.1 x.2.2), (92, LP r.d.blows), (93, .int .i64 r.n), (94, .int .i64 x.1)]) (hp := fun x => [(2, .row [L r.d.limits, LP r.d.beside, LP r.d.blows, LR r.rs] (s+1)), (300, .row [.int .i64 (x.1 : Nat)] s1), (111, gO x.1 (ints x.2.1) x.2.2)]) (ms := fun x => r.n - x.1) (0, [], 0) (by simp) (Sl.wk 14 .es (by simpa using ALe.nils_es) (Sl.refl ⟨rfl, by simp [hbl, hE, hcan, hsure, hsn, hln], by simp⟩)) ?_
  all_goals
    rintro ⟨i, xs, st⟩ ⟨hi, hxl, hx⟩ J hJ
    simp at hi hxl hx
    by_cases hc' : i < r.n
    · have hcb : i < r.d.blows.length := by omega
      have hlh := hv.d.lohi i
      have elo : r.d.blows[i].1 = r.d.lo i := by simp [Drv.lo, hcb]
      have ehi : r.d.blows[i].2 = r.d.hi i := by simp [Drv.hi, hcb]
      simp [hc', hcb, elo, ehi]
      refine ⟨by omega, fun s2 => ?_⟩
      (repeat first | refine And.intro (by omega) ?_ | refine And.intro (Fits.of (by omega) (by omega)) ?_)
      refine FCall.draw hby (by omega) (k := i) (by omega) (by simp) (by simp) fun q hq => ?_
      simp
      (repeat first | refine And.intro (by omega) ?_ | refine And.intro (Fits.of (by omega) (by omega)) ?_)
      intro s3 s4
      refine xApN_gS (cells := ints xs) (by simp) (by simpa using hxl) (by omega) (by omega) ?_
      simp
      (repeat first | refine And.intro (by omega) ?_ | refine And.intro (Fits.of (by omega) (by omega)) ?_)
      refine hJ.next (i + 1, xs ++ [r.d.lo i + q], s4 + 1) ⟨by simp; omega, by simp [hxl], fun j hj => ?_⟩ (by simp; omega) (by simp) ?_
      · simp only [] at hj ⊢
        rw [ofL_snoc, hxl]
        by_cases hji : j = i
        · subst hji; simp; omega
        · simp only [if_neg hji]; exact hx j (by omega)
      · simp
    obtain rfl : i = r.n := by omega
    have ht : xs ∈ r.d.truths := hv.d.mem.2 ⟨hxl, hx⟩
    have cSt := drive_Settle_ok r.d hs.d xs (by omega)
    rw [hv.truth_settle ht, show r.d.v = .agg [L r.d.limits, LP r.d.beside, LP r.d.blows] from rfl] at cSt
    have cOp := law13_opened_ok (tab r.n (r.d.odo (ofL xs))) (by simp; omega)
    rw [Rp.opn_times] at cOp
    have hob := r.opn_lt xs
    have hoL : r.opn xs ∈ l ↔ r.fitA (r.opn xs) = true := by
      first
      | rw [hl, Rp.mem_sets hv]
        exact ⟨fun h => h.2.2, fun h => ⟨hob, ⟨xs, ht, rfl⟩, h⟩⟩
      | rw [hln]
        refine ⟨fun h => by simp at h, fun h => ?_⟩
        have : r.opn xs ∈ r.setsL := (Rp.mem_sets hv).2 ⟨hob, ⟨xs, ht, rfl⟩, h⟩
        rw [hl0] at this
        simp at this
    obtain ⟨o, ho⟩ : ∃ o, o = r.opn xs := ⟨_, rfl⟩
    rw [← ho] at cOp hob hoL
    simp
    refine hJ.exitS (Sl.gSH 111 (m := r.n) (cells := ints xs) (s := st) (by omega) (by simp) (Sl.toV [(2, .ptr 2 0 (s+1)), (5, L l), (6, .int .i64 E), (7, .int .i64 can), (8, .int .i64 sure), (10, .int .i64 sn), (12, .func (.func fn_law13_RapSets_1) [] [.ptr 2 0 (s+1)]), (14, L xs)] [(2, .row [L r.d.limits, LP r.d.beside, LP r.d.blows, LR r.rs] (s+1))] (Sl.refl ⟨rfl, by simp [L, hxl, gS, show ¬ r.n = 0 by omega], by simp⟩) ?_))
    simp
    refine FCall.pure (PInv.func cSt) ?_
    simp
    refine PCallK.intro (PInv.func cOp) ?_
    simp [hxl, hwS]
    repeat first | refine And.intro (by omega) ?_ | refine And.intro (by unfold Fits; omega) ?_
    refine PCallK.intro (PInv.func cO) ?_
    simp
    have hal0 : Rp.allB r.n [] = 2 ^ r.n - 1 := Rp.allB_nil hn6
    have hso0 : Rp.someB [] = 0 := bits_zero.2 fun i _ => rfl
    refine Lp.intro (σ := Nat) (inv := fun k => k ≤ l.length) (vw := fun k => [(2, .ptr 2 0 (s+1)), (5, L l), (6, .int .i64 E), (7, .int .i64 can), (8, .int .i64 sure), (10, .int .i64 sn), (12, .func (.func fn_law13_RapSets_1) [] [.ptr 2 0 (s+1)]), (14, L xs), (20, .int .i64 o), (21, .bool ((l.take k).any fun x => decide (x = o))), (22, .int .i64 (Rp.someB (l.take k))), (23, .int .i64 (Rp.allB r.n (l.take k))), (24, .int .i64 (bits r.d.canP r.n)), (25, .int .i64 (bits r.d.sureP r.n)), (140, L l), (141, .int .i64 l.length), (142, .int .i64 k)]) (hp := fun _ => [(2, .row [L r.d.limits, LP r.d.beside, LP r.d.blows, LR r.rs] (s+1))]) (ms := fun k => l.length - k) 0 (by simp) (by simp [hal0, hso0, hnn]) (by simp) ?_
    intro k hk J2 hJ2
    by_cases hkc : k < l.length
    · obtain ⟨x, hx⟩ : ∃ x, l[k] = x := ⟨_, rfl⟩
      have hgx : l[k]? = some x := by rw [List.getElem?_eq_getElem hkc, hx]
      obtain ⟨hxb, ⟨t, htt, htx⟩, hxf⟩ := (Rp.mem_sets hv).1 (show x ∈ r.setsL by first | (rw [hln] at hkc; simp at hkc; done) | (rw [← hl, ← hx]; simp))
      have ho2 := Rp.opens_in hv htt
      rw [htx] at ho2
      have hll' : l.length ≤ 64 := by first | exact hll | (rw [hln]; simp)
      have hx0 : ¬ x < 0 := by omega
      have hxd : x / 2 ^ r.n = 0 := Int.ediv_eq_zero_of_lt hxb.1 hxb.2
      have hx6 : 0 ≤ x ∧ x < 2 ^ 6 := by omega
      have htk : l.take (k + 1) = l.take k ++ [x] := by rw [← hx, List.take_append_getElem hkc]
      have hst : (l.take (k + 1)).any (fun x => decide (x = o)) = ((l.take k).any (fun x => decide (x = o)) || decide (x = o)) := by rw [htk, List.any_append]; simp
      have hs1 := Rp.someB_push (l.take k) hx6
      have hs2 := Rp.allB_push r.n (l.take k) hx6
      rw [← htk] at hs1 hs2
      have hsr : k ≠ 0 → ¬ x ≤ l[k - 1] := fun h0 => by
        have hlt' : l.Pairwise (· < ·) := by first | exact hlt | (rw [hln]; exact List.Pairwise.nil)
        have := List.pairwise_iff_getElem.1 hlt' (k - 1) k (by omega) hkc (by omega)
        omega
      by_cases hk0 : k = 0
      · have hkp : ¬ 0 < k := by omega
        simp [hkc, hx, hgx, hx0, hxl, hxd, hkp]
        repeat first | refine And.intro (by omega) ?_ | refine And.intro (by unfold Fits; omega) ?_
        refine FCall.fits hs hv hxb (by simp [Rp.cells]) (by simp) ⟨by simp, ?_⟩
        simp [hxf, ho2]
        cases hf : (l.take k).any fun x => decide (x = o)
        all_goals simp [hs1, hs2]
        all_goals (repeat first | refine And.intro (by omega) ?_ | refine And.intro (Fits.of (by omega) (by omega)) ?_)
        all_goals exact hJ2.next (k + 1) (by omega) (by omega) (by simp [hst, hf]) (by simp [Rp.cells])
      · have hkp : 0 < k := by omega
        have hsr' := hsr hk0
        have e1 : ((k : Int) - 1).toNat = k - 1 := by omega
        have hk1 : k - 1 < l.length := by omega
        simp [hkc, hx, hgx, hx0, hxl, hxd, hkp, e1, hk1, hsr']
        repeat first | refine And.intro (by omega) ?_ | refine And.intro (by unfold Fits; omega) ?_
        refine FCall.fits hs hv hxb (by simp [Rp.cells]) (by simp) ⟨by simp, ?_⟩
        simp [hxf, ho2]
        cases hf : (l.take k).any fun x => decide (x = o)
        all_goals simp [hs1, hs2]
        all_goals (repeat first | refine And.intro (by omega) ?_ | refine And.intro (Fits.of (by omega) (by omega)) ?_)
        all_goals exact hJ2.next (k + 1) (by omega) (by omega) (by simp [hst, hf]) (by simp [Rp.cells])
    obtain rfl : k = l.length := by omega
    have hany : (l.any fun x => decide (x = o)) = r.fitA o := by
      rw [Bool.eq_iff_iff, ← hoL, List.any_eq_true]
      exact ⟨fun ⟨x, h1, h2⟩ => by simp at h2; rw [← h2]; exact h1, fun h => ⟨o, h, by simp⟩⟩
    simp
    refine hJ2.exit ?_
    simp [hany]
    refine FCall.fits hs hv hob (by simp [Rp.cells]) (by simp) ⟨by simp, ?_⟩
    simp
    first
    | have hE10 : E = 10 := hE
      simp [hE10]
      refine PCallK.intro (PInv.func law13_alive_ok) ?_
      simp
      exact RetV.refl rfl
    | have hE0 : E = 0 := hE
      obtain ⟨x, m, hxm⟩ : ∃ x m, l = x :: m := by
        cases h : l with
        | nil => exact absurd (hnil.2 h) hc
        | cons x m => exact ⟨x, m, rfl⟩
      have hw := Rp.want_is (hl ▸ hxm)
      have hso : Rp.someB l = can := by rw [hl, hcan]; exact r.someB_all
      have hal : Rp.allB r.n l = sure := by rw [hl, hsure]; exact Rp.allB_all hv hc
      rw [← hsn] at hw
      rw [hxm] at hso hal
      have hm1 : ¬ ((m.length : Int) + 1 = 0) := by omega
      by_cases hx0 : x = 0
      · subst hx0
        by_cases hm : m = []
        · subst hm
          rw [if_pos rfl, if_pos rfl] at hw
          simp [hE0, hxm, hso, hal, hw, hm1]
          refine PCallK.intro (PInv.func law13_alive_ok) ?_
          simp
          exact RetV.refl rfl
        · rw [if_pos rfl, if_neg hm] at hw
          have hml := List.length_pos_iff.2 hm
          simp [hE0, hxm, hso, hal, hw, hm1, hm, show ¬ ((m.length : Int) + 1 = 1) by omega]
          refine PCallK.intro (PInv.func law13_alive_ok) ?_
          simp
          exact RetV.refl rfl
      · rw [if_neg hx0] at hw
        simp [hE0, hxm, hso, hal, hw, hm1, hx0]
        refine PCallK.intro (PInv.func law13_alive_ok) ?_
        simp
        exact RetV.refl rfl
end Go.Cw
end
