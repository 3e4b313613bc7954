/-
  What the document's reference of layer 13 computes; laws of layer 13; how a rap is read as an argument.
-/
import Derived.Test.YtggclbdfeaaapaaGreatRa
import Derived.Test.YtggclbdfeaaapaaGreatAe
import Derived.Test.YtggclbdfeaaapaaGreatAf
import Derived.Test.YtggclbdfeaaapaaGreatRows
set_option linter.unusedVariables false
set_option linter.unusedSimpArgs false
set_option linter.unusedSectionVars false

/- What the document's reference of the rap tells: small functions. -/
section
set_option maxRecDepth 100000
set_option linter.unusedSimpArgs false
namespace Go.Cw
open Go Go.Proofs

theorem sumN_nonneg {n : Nat} {c : Nat → Int} (h : ∀ j, j < n → 0 ≤ c j) : 0 ≤ sumN n c := by
  induction n with
  | zero => exact Int.le_refl _
  | succ n ih => simp only [sumN]; have := ih fun j hj => h j (by omega); have := h n (by omega); omega

theorem sumN_le {n : Nat} {c : Nat → Int} {m : Int} (h : ∀ j, j < n → c j ≤ m) : sumN n c ≤ n * m := by
  induction n with
  | zero => simp [sumN]
  | succ n ih =>
    simp only [sumN]
    have := ih fun j hj => h j (by omega)
    have := h n (by omega)
    rw [show ((n + 1 : Nat) : Int) * m = n * m + m by rw [Int.natCast_add, Int.add_mul]; simp]
    omega

theorem ref13_in_ok (n lo hi : Int) : APure Pg fn_ref13_in [.int .i64 n, .int .i64 lo, .int .i64 hi] (.bool (decide (lo ≤ n ∧ n ≤ hi))) := by
  refine ref13_in.pure (by simp) ?_
  by_cases h : lo ≤ n <;> simp [h] <;> refine RetV.refl ?_ <;> simp_all





end Go.Cw
end

/- The reference: is a rap valid; does a seam sound dull. -/
section
set_option maxRecDepth 100000
set_option linter.unusedSimpArgs false
namespace Go.Cw
open Go Go.Proofs

theorem ref13_Rap_ok (r : Rp) (hs : r.Small) : APure Pg fn_ref13_Rap [r.v] (.bool (decide r.Valid)) := by
  have hkl : r.rs.length = r.k := rfl
  have hk40 := hs.k
  have cD := ref05_Drive_ok r.d hs.d
  have hdv : r.d.v = .agg [L r.d.limits, LP r.d.beside, LP r.d.blows] := rfl
  rw [hdv] at cD
  refine ref13_Rap.pure (by simp) ?_
  simp
  intro s
  refine PCallK.intro (PInv.func cD) ?_
  by_cases h1 : ¬ r.d.Valid
  · simp [h1]
    exact RetV.refl (by simp [show ¬ r.Valid from fun h => h1 h.d])
  replace h1 := Classical.not_not.1 h1
  by_cases h2 : ¬ r.k ≤ 10
  · simp [h1, hkl, show (10 : Int) < (r.k : Int) by omega]
    exact RetV.refl (by simp [show ¬ r.Valid from fun h => h2 h.k10])
  replace h2 := Classical.not_not.1 h2
  simp [h1, hkl, show ¬ ((10 : Int) < (r.k : Int)) by omega]
  refine Lp.intro (σ := Nat) (inv := fun k => k ≤ r.k ∧ ∀ j x, j < k → r.rs[j]? = some x → r.d.Seam x.1) (vw := fun k => [(1, .ptr 1 0 (s+1)), (3, .int .i64 k)])
    (hp := fun _ => [(1, .row [L r.d.limits, LP r.d.beside, LP r.d.blows, LR r.rs] (s+1))]) (ms := fun k => r.k - k) 0 (by simp) (by simp) (by simp) ?_
  rintro k ⟨hk, inv⟩ J hJ
  by_cases hkc : k < r.k
  · have hkl2 : k < r.rs.length := hkc
    obtain ⟨a, hak⟩ : ∃ a, r.rs[k] = a := ⟨_, rfl⟩
    have hgk : r.rs[k]? = some a := by rw [List.getElem?_eq_getElem hkl2, hak]
    have cSm := ref05_Seam_ok r.d hs.d a.1
    rw [hdv] at cSm
    simp [hkc, hkl2, hkl, hak]
    refine PCallK.intro (PInv.func cSm) ?_
    by_cases h3 : ¬ r.d.Seam a.1
    · simp [h3]
      refine hJ.ret ?_
      simp
      exact RetV.refl (by simp [show ¬ r.Valid from fun h => h3 (h.sm a (List.mem_of_getElem? hgk))])
    replace h3 := Classical.not_not.1 h3
    simp [h3]
    (repeat first | refine And.intro (by omega) ?_ | refine And.intro (Fits.of (by omega) (by omega)) ?_)
    refine hJ.next (k + 1) ⟨by omega, fun j x hj hx => ?_⟩ (by omega) (by simp) (by simp)
    by_cases hjk : j = k
    · subst hjk
      rw [hgk] at hx; cases hx; exact h3
    · exact inv j x (by omega) hx
  obtain rfl : k = r.k := by omega
  have hV : r.Valid := ⟨h1, h2, fun x hx => by
    obtain ⟨j, hj, rfl⟩ := List.getElem_of_mem hx
    exact inv j _ hj (List.getElem?_eq_getElem hj)⟩
  simp [hkl]
  refine hJ.exit ?_
  simp
  exact RetV.refl (by simp [hV])
end Go.Cw
end

/- The reference: does a seam sound dull. -/
section
set_option maxRecDepth 100000
set_option linter.unusedSimpArgs false
namespace Go.Cw
open Go Go.Proofs

/-- Does a pair let a seam sound dull? -/
def pairH (o : Int) (i : Nat) (p : Int × Int) : Bool := (decide (p.1 = (i : Int)) && inS o p.2.toNat) || (decide (p.2 = (i : Int)) && inS o p.1.toNat)


end Go.Cw
end

/- The reference's Hears tells what the program's around tells; Dull. -/
section
set_option maxRecDepth 100000
set_option linter.unusedSimpArgs false
namespace Go.Cw
open Go Go.Proofs

theorem Rp.Valid.pr {r : Rp} (hv : r.Valid) {p : Int × Int} (hp : p ∈ r.d.beside) : (0 ≤ p.1 ∧ p.1 < r.n) ∧ 0 ≤ p.2 ∧ p.2 < r.n := by
  obtain ⟨i, hi, rfl⟩ := List.getElem_of_mem hp
  have := hv.d.pr i _ (List.getElem?_eq_getElem hi)
  unfold Drv.Seam at this
  have hn : r.d.n = r.n := rfl
  omega

theorem Rp.hears_eq {r : Rp} (hv : r.Valid) (o : Int) {i : Nat} (hi : i < r.n) : (inS o i || r.d.beside.any (pairH o i)) = r.hears o i := by
  rw [Bool.eq_iff_iff]
  unfold Rp.hears Rp.near nearL pairH
  simp only [Bool.or_eq_true, List.any_eq_true, List.mem_range, Bool.and_eq_true, decide_eq_true_eq]
  constructor
  · rintro (h | ⟨p, hp, (⟨h1, h2⟩ | ⟨h1, h2⟩)⟩)
    · exact ⟨i, hi, h, .inl rfl⟩
    · have := hv.pr hp
      refine ⟨p.2.toNat, by omega, h2, .inr ⟨p, hp, .inl ?_⟩⟩
      exact Prod.ext h1 (by simp; omega)
    · have := hv.pr hp
      refine ⟨p.1.toNat, by omega, h2, .inr ⟨p, hp, .inr ?_⟩⟩
      exact Prod.ext (by simp; omega) h1
  · rintro ⟨j, hj, h, (rfl | ⟨p, hp, (rfl | rfl)⟩)⟩
    · exact .inl h
    · exact .inr ⟨_, hp, .inl ⟨rfl, by simpa using h⟩⟩
    · exact .inr ⟨_, hp, .inr ⟨rfl, by simpa using h⟩⟩


end Go.Cw
end

/- The reference's Dull. -/
section
set_option maxRecDepth 100000
set_option linter.unusedSimpArgs false
namespace Go.Cw
open Go Go.Proofs


end Go.Cw
end

/- The reference's opened: which sets open in some truth. -/
section
set_option maxRecDepth 100000
set_option linter.unusedSimpArgs false
namespace Go.Cw
open Go Go.Proofs

/-- Truth values below a number. -/
def bs (N : Nat) (f : Nat → Bool) : List AVal := (List.range N).map fun i => .bool (f i)
@[simp] theorem bs_length (N : Nat) (f : Nat → Bool) : (bs N f).length = N := by simp [bs]
theorem bs_zero (N : Nat) : List.replicate N (AVal.bool false) = bs N fun _ => false := by
  apply List.ext_getElem (by simp)
  intro i h1 h2; simp [bs]
theorem bs_at {N : Nat} {f : Nat → Bool} {i : Nat} (hi : i < N) : (bs N f)[i]? = some (.bool (f i)) := by simp [bs, hi]
theorem bs_get {N : Nat} {f : Nat → Bool} {i : Nat} (h : i < (bs N f).length) : (bs N f)[i] = .bool (f i) := by simp [bs]
theorem bs_set {N : Nat} {f : Nat → Bool} {i : Nat} (hi : i < N) (b : Bool) : (bs N f).set i (.bool b) = bs N (upd f i b) := by
  apply List.ext_getElem (by simp)
  intro j h1 h2
  simp [bs, List.getElem_set, upd]
  split <;> rename_i h
  · subst h; simp
  · rw [if_neg (fun e => h e.symm)]

namespace Rp
/-- The sets that open in some truth, in order. -/
noncomputable def opL (r : Rp) : List Nat := (List.range (2 ^ r.n)).filter fun s => r.d.truths.any fun t => decide (r.opn t = (s : Int))
end Rp


end Go.Cw
end

/- Which sets sound as was heard, in plain words. -/
section
set_option maxRecDepth 100000
set_option linter.unusedSimpArgs false
namespace Go.Cw
open Go Go.Proofs

namespace Rp
/-- Does a set sound as was heard by the raps of a set? -/
def fits (r : Rp) (q o : Int) : Bool := (List.range r.k).all fun j => !inS q j || ((r.rs[j]?.map fun x => r.hears o x.1.toNat == x.2).getD true)
theorem inS_dl (r : Rp) (x : Fin 64) {i : Nat} (hi : i < r.n) : inS (r.dl x) i = r.hears x.val i := inS_bits _ hi
theorem Valid.seam {r : Rp} (hv : r.Valid) {x : Int × Bool} (hx : x ∈ r.rs) : x.1 = (x.1.toNat : Int) ∧ x.1.toNat < r.n := by
  have hm := hv.sm x hx
  have hn : r.d.n = r.n := rfl
  unfold Drv.Seam at hm
  omega
theorem clo_fits {r : Rp} (hv : r.Valid) (q : Int) (x : Fin 64) : (r.clo q r.k).all (r.okO x) = r.fits q x.val := by
  suffices h : ∀ k, k ≤ r.k → (r.clo q k).all (r.okO x) = (List.range k).all fun j => !inS q j || ((r.rs[j]?.map fun y => r.hears x.val y.1.toNat == y.2).getD true) from h r.k (Nat.le_refl _)
  intro k hk
  induction k with
  | zero => rfl
  | succ k ih =>
    have hkl : k < r.rs.length := hk
    have hs := hv.seam (x := r.rs[k]) (by simp)
    simp only [clo, List.all_append, ih (by omega), List.range_succ, List.getElem?_eq_getElem hkl, List.all_cons, List.all_nil, Bool.and_true, Option.map_some, Option.getD_some]
    cases hq : inS q k
    · simp
    · simp [okO, r.inS_dl x hs.2]
theorem seenF_mem (r : Rp) (l : List (List Int)) (x : Fin 64) : x ∈ r.seenF l ↔ ∃ t ∈ l, r.opF t = x := by
  induction l using list_push_ind with
  | h0 => simp [seenF]
  | h1 l t ih =>
    rw [seenF_push, mem_insK, ih]
    simp only [List.mem_append, List.mem_singleton]
    constructor
    · rintro (⟨t', h1, h2⟩ | h)
      · exact ⟨t', .inl h1, h2⟩
      · exact ⟨t, .inr rfl, h.symm⟩
    · rintro ⟨t', h1 | rfl, h2⟩
      · exact .inl ⟨t', h1, h2⟩
      · exact .inr h2.symm
theorem mem_soundsF {r : Rp} (hv : r.Valid) (x : Fin 64) : x ∈ r.soundsF ↔ ∃ t ∈ r.d.truths, r.opn t = (x.val : Int) := by
  have hn6 : r.n ≤ 6 := hv.d.n6
  unfold soundsF
  rw [(sortF_perm _).mem_iff, seenF_mem]
  constructor
  · rintro ⟨t, h1, rfl⟩; exact ⟨t, h1, (r.opF_val hn6 t).symm⟩
  · rintro ⟨t, h1, h2⟩
    have := r.opF_val hn6 t
    exact ⟨t, h1, Fin.ext (by omega)⟩
theorem mem_opL (r : Rp) (s : Nat) : s ∈ r.opL ↔ s < 2 ^ r.n ∧ ∃ t ∈ r.d.truths, r.opn t = (s : Int) := by
  unfold opL
  simp only [List.mem_filter, List.mem_range, List.any_eq_true, decide_eq_true_eq]
theorem opL_lt (r : Rp) : r.opL.Pairwise (· < ·) := List.Pairwise.filter _ List.pairwise_lt_range
theorem soundsF_lt (r : Rp) : r.soundsF.Pairwise fun a b => a.val < b.val := by
  have h1 := sortF_sorted (r.seenF r.d.truths)
  have h2 : (sortF (r.seenF r.d.truths)).Nodup := (sortF_perm _).nodup_iff.2 (r.seenF_nodup _)
  unfold List.Nodup at h2
  refine List.Pairwise.imp₂ (fun a b h1 h2 => ?_) h1 h2
  have : a.val ≠ b.val := fun e => h2 (Fin.ext e)
  omega
theorem val_lt {r : Rp} (hv : r.Valid) {x : Fin 64} (hx : x ∈ r.soundsF) : (x.val : Int) < 2 ^ r.n := by
  obtain ⟨t, _, h⟩ := (mem_soundsF hv x).1 hx
  have := r.opn_lt t
  omega
theorem sounds_eq {r : Rp} (hv : r.Valid) : r.soundsF.map (fun x => x.val) = r.opL := by
  have hp : (r.soundsF.map (fun x => x.val)).Pairwise (· < ·) := List.pairwise_map.2 r.soundsF_lt
  have hm : ∀ s, s ∈ r.soundsF.map (fun x => x.val) ↔ s ∈ r.opL := fun s => by
    rw [mem_opL, List.mem_map]
    have hn6 : r.n ≤ 6 := hv.d.n6
    have h64 : (2 : Nat) ^ r.n ≤ 2 ^ 6 := Nat.pow_le_pow_right (by omega) hn6
    constructor
    · rintro ⟨x, hx, rfl⟩
      have := val_lt hv hx
      exact ⟨by exact_mod_cast this, (mem_soundsF hv x).1 hx⟩
    · rintro ⟨h1, h2⟩
      exact ⟨⟨s, by omega⟩, (mem_soundsF hv _).2 h2, rfl⟩
  refine List.Perm.eq_of_pairwise (le := (· ≤ ·)) (fun a b _ _ h1 h2 => Nat.le_antisymm h1 h2) (hp.imp fun h => Nat.le_of_lt h) (r.opL_lt.imp fun h => Nat.le_of_lt h) ?_
  refine (List.perm_ext_iff_of_nodup (hp.imp fun h => Nat.ne_of_lt h) (r.opL_lt.imp fun h => Nat.ne_of_lt h)).2 hm
/-- The sets that can be open, by the raps of a set. -/
noncomputable def refL (r : Rp) (q : Int) : List Int := (r.opL.map fun (i : Nat) => (i : Int)).filter (r.fits q)
theorem heard_eq {r : Rp} (hv : r.Valid) (q : Int) : (r.heardF q r.soundsF).map (fun x => (x.val : Int)) = r.refL q := by
  unfold refL heardF
  rw [← sounds_eq hv, List.map_map, List.filter_map]
  congr 1
  refine List.filter_congr fun x _ => ?_
  simp [clo_fits hv]
theorem sets_eq {r : Rp} (hv : r.Valid) : r.setsL = r.refL (2 ^ r.k - 1) := heard_eq hv _
theorem refL_len {r : Rp} (q : Int) : (r.refL q).length ≤ 2 ^ r.n := by
  unfold refL opL
  refine Nat.le_trans (List.length_filter_le _ _) ?_
  rw [List.length_map]
  refine Nat.le_trans (List.length_filter_le _ _) ?_
  simp
theorem refL_mem {r : Rp} {q x : Int} : x ∈ r.refL q ↔ (0 ≤ x ∧ x < 2 ^ r.n) ∧ (∃ t ∈ r.d.truths, r.opn t = x) ∧ r.fits q x = true := by
  unfold refL
  simp only [List.mem_filter, List.mem_map]
  constructor
  · rintro ⟨⟨i, hi, rfl⟩, h2⟩
    rw [mem_opL] at hi
    exact ⟨⟨by omega, by exact_mod_cast hi.1⟩, hi.2, h2⟩
  · rintro ⟨h1, h2, h3⟩
    refine ⟨⟨x.toNat, ?_, by omega⟩, h3⟩
    rw [mem_opL]
    refine ⟨?_, by obtain ⟨t, a, b⟩ := h2; exact ⟨t, a, by omega⟩⟩
    have : ((x.toNat : Nat) : Int) < ((2 ^ r.n : Nat) : Int) := by simp; omega
    exact_mod_cast this
theorem refL_lt (r : Rp) (q : Int) : (r.refL q).Pairwise (· < ·) := by
  unfold refL
  refine List.Pairwise.filter _ (List.pairwise_map.2 (r.opL_lt.imp fun h => by omega))
end Rp
end Go.Cw
end

/- The first of the least, as the reference looks for it; plain words on what is told. -/
section
set_option maxRecDepth 100000
set_option linter.unusedSimpArgs false
namespace Go.Cw
open Go Go.Proofs

theorem sumN_lt {n : Nat} {c d : Nat → Int} (h : ∀ i, i < n → c i ≤ d i) {j : Nat} (hj : j < n) (hjd : c j < d j) : sumN n c < sumN n d := by
  induction n with
  | zero => omega
  | succ n ih =>
    simp only [sumN]
    have h1 := h n (by omega)
    by_cases hjn : j = n
    · subst hjn
      have : sumN j c ≤ sumN j d := by
        have hmono : ∀ m, m ≤ j → sumN m c ≤ sumN m d := fun m => by
          induction m with
          | zero => exact fun _ => Int.le_refl _
          | succ m ihm => intro hm; simp only [sumN]; have := ihm (by omega); have := h m (by omega); omega
        exact hmono j (Nat.le_refl _)
      omega
    · have := ih (fun i hi => h i (by omega)) (by omega)
      omega
theorem inS_high {s : Int} (h0 : 0 ≤ s) {n i : Nat} (h1 : s < 2 ^ n) (hi : n ≤ i) : inS s i = false := by
  unfold inS
  have hp : (2 : Int) ^ n ≤ 2 ^ i := by
    have := Nat.pow_le_pow_right (n := 2) (by omega) hi
    exact_mod_cast this
  rw [Int.ediv_eq_zero_of_lt h0 (by omega)]; rfl
theorem sizeS_n {s : Int} {n : Nat} (hn : n ≤ 60) (h : 0 ≤ s ∧ s < 2 ^ n) : sizeS s = sumN n fun i => if inS s i then 1 else 0 :=
  sumN_ext hn fun i hi => by rw [inS_high h.1 h.2 hi]; rfl
theorem inS_all {n i : Nat} (hi : i < n) : inS (2 ^ n - 1) i = true := by rw [← bits_all1, inS_bits _ hi]
theorem sizeS_lt {s : Int} {n : Nat} (hn : n ≤ 60) (h : 0 ≤ s ∧ s < 2 ^ n) (hne : s ≠ 2 ^ n - 1) : sizeS s < sizeS (2 ^ n - 1) := by
  have hp := two_pow_pos n
  rw [sizeS_n hn h, sizeS_n hn ⟨by omega, by omega⟩]
  obtain ⟨i, hi, hf⟩ : ∃ i, i < n ∧ inS s i = false := by
    refine Classical.byContradiction fun hc => hne ?_
    rw [← bits_inS h, ← bits_all1]
    refine bits_congr fun i hi => ?_
    cases hb : inS s i
    · exact absurd ⟨i, hi, hb⟩ hc
    · rfl
  refine sumN_lt (fun j hj => ?_) hi ?_
  · simp only [inS_all hj]
    split <;> simp
  · simp only [inS_all hi, hf]
    simp

/-- What was found, or another one. -/
def refB (m : Int) (B : Option (Int × Int)) : Int := (B.map Prod.fst).getD m
theorem tab_nat (k : Nat) : tab (k + 1) (fun i => (i : Int)) = tab k (fun i => (i : Int)) ++ [(k : Int)] := tab_succ _ _
theorem bestC_sz {g : Int → Int × Bool} (hg : ∀ y, (g y).1 = sizeS y) (k : Nat) : ∀ b, bestC g (tab k fun i => (i : Int)) = some b → b.2 = sizeS b.1 ∧ 0 ≤ b.1 ∧ b.1 < k ∧ (g b.1).2 = true := by
  induction k with
  | zero => intro b h; simp [tab, bestC] at h
  | succ k ih =>
    intro b h
    rw [tab_nat, bestC_push] at h
    obtain ⟨B, hB⟩ : ∃ B, bestC g (tab k fun i => (i : Int)) = B := ⟨_, rfl⟩
    rw [hB] at h ih
    have keep : B = some b → b.2 = sizeS b.1 ∧ 0 ≤ b.1 ∧ b.1 < ((k + 1 : Nat) : Int) ∧ (g b.1).2 = true := fun e => by
      obtain ⟨h1, h2, h3, h4⟩ := ih b e
      exact ⟨h1, h2, by omega, h4⟩
    have new : (g k).2 = true → some ((k : Int), (g k).1) = some b → b.2 = sizeS b.1 ∧ 0 ≤ b.1 ∧ b.1 < ((k + 1 : Nat) : Int) ∧ (g b.1).2 = true := fun h1 e => by
      cases e
      exact ⟨hg _, by simp, by simp; omega, h1⟩
    unfold betC at h
    by_cases h2 : (g k).2 = true
    · rw [if_pos h2] at h
      cases B with
      | none => exact new h2 h
      | some c =>
        simp only at h
        split at h
        · exact new h2 h
        · exact keep h
    · rw [if_neg h2] at h
      exact keep h
theorem refB_step {g : Int → Int × Bool} (hg : ∀ y, (g y).1 = sizeS y) {n k : Nat} (hn : n ≤ 60) (hk : k < 2 ^ n) :
    refB (2 ^ n - 1) (bestC g (tab (k + 1) fun i => (i : Int))) = if sizeS k < sizeS (refB (2 ^ n - 1) (bestC g (tab k fun i => (i : Int)))) ∧ (g k).2 = true then (k : Int) else refB (2 ^ n - 1) (bestC g (tab k fun i => (i : Int))) := by
  have hkp : (k : Int) < 2 ^ n := by exact_mod_cast hk
  have hi := bestC_sz hg k
  rw [tab_nat, bestC_push]
  obtain ⟨B, hB⟩ : ∃ B, bestC g (tab k fun i => (i : Int)) = B := ⟨_, rfl⟩
  rw [hB] at hi ⊢
  unfold betC
  by_cases h2 : (g k).2 = true
  · rw [if_pos h2]
    cases B with
    | none =>
      simp only [h2, and_true]
      show (k : Int) = if sizeS k < sizeS (2 ^ n - 1) then (k : Int) else 2 ^ n - 1
      by_cases he : (k : Int) = 2 ^ n - 1
      · rw [if_neg (by rw [he]; omega)]; exact he
      · rw [if_pos (sizeS_lt hn ⟨by omega, hkp⟩ he)]
    | some c =>
      obtain ⟨h3, _⟩ := hi c rfl
      simp only [h2, and_true, hg, h3]
      show refB (2 ^ n - 1) (if sizeS k < sizeS c.1 then some ((k : Int), sizeS k) else some c) = if sizeS k < sizeS c.1 then (k : Int) else c.1
      split <;> rfl
  · rw [if_neg h2, if_neg fun h => h2 h.2]
theorem bestC_some {g : Int → Int × Bool} {l : List Int} {x : Int} (hx : x ∈ l) (h : (g x).2 = true) : (bestC g l).isSome = true := by
  induction l using list_push_ind with
  | h0 => simp at hx
  | h1 l y ih =>
    rw [bestC_push]
    unfold betC
    rcases List.mem_append.1 hx with h1 | h1
    · have := ih h1
      obtain ⟨c, hc⟩ := Option.isSome_iff_exists.1 this
      rw [hc]
      simp only
      split
      · split <;> rfl
      · rfl
    · simp only [List.mem_singleton] at h1
      subst h1
      rw [if_pos h]
      cases bestC g l with
      | none => rfl
      | some c => simp only; split <;> rfl

namespace Rp
theorem hears_self {r : Rp} {o : Int} {i : Nat} (hi : i < r.n) (h : inS o i = true) : r.hears o i = true := by
  unfold hears
  exact List.any_eq_true.2 ⟨i, List.mem_range.2 hi, by simp [h, near, nearL]⟩
theorem dull_and {r : Rp} (hn : r.n ≤ 60) (x : Fin 64) {q : Int} (hq : 0 ≤ q ∧ q < 2 ^ r.n) : decide (bitI .and .u64 (r.dl x) q = 0) = !((List.range r.n).any fun s => inS q s && r.hears x.val s) := by
  have h1 : bitI .and .u64 (r.dl x) q = bits (fun i => r.hears x.val i && inS q i) r.n := by
    conv => lhs; rw [← bits_inS hq]
    exact bitsU_and _ _ hn
  rw [h1, Bool.eq_iff_iff]
  simp only [decide_eq_true_eq, Bool.not_eq_true', List.any_eq_false, List.mem_range, bits_zero]
  constructor
  · intro h i hi; have := h i hi; rw [Bool.and_comm]; simpa using this
  · intro h i hi; have := h i hi; rw [Bool.and_comm]; simpa using this
/-- Does no set of some but the empty one sound sharp at all seams of a set? -/
def showsP (r : Rp) (l : List Int) (q : Int) : Bool := l.all fun x => decide (x = 0) || (List.range r.n).any fun s => inS q s && r.hears x s
theorem few_shows {r : Rp} (hn : r.n ≤ 60) (l : List (Fin 64)) {q : Int} (hq : 0 ≤ q ∧ q < 2 ^ r.n) : (fewG r.dl l q).2 = r.showsP (l.map fun x => (x.val : Int)) q := by
  have e : hidP r.dl q = fun x : Fin 64 => !((fun x : Int => decide (x = 0) || (List.range r.n).any fun s => inS q s && r.hears x s) ∘ fun x : Fin 64 => (x.val : Int)) x := funext fun x => by
    simp only [hidP, dull_and hn x hq, Function.comp_apply, Bool.not_or]
  unfold showsP
  show (!l.any (hidP r.dl q)) = _
  rw [e, List.all_map, List.all_eq_not_any_not]
theorem shows_all {r : Rp} {q : Int} : r.showsP (r.refL q) (2 ^ r.n - 1) = true := by
  unfold showsP
  rw [List.all_eq_true]
  intro x hx
  obtain ⟨h1, _⟩ := refL_mem.1 hx
  by_cases h0 : x = 0
  · simp [h0]
  · obtain ⟨i, hi, hb⟩ : ∃ i, i < r.n ∧ inS x i = true := by
      refine Classical.byContradiction fun hc => h0 ?_
      rw [← bits_inS h1]
      refine bits_zero.2 fun i hi => ?_
      cases hb : inS x i
      · rfl
      · exact absurd ⟨i, hi, hb⟩ hc
    simp only [Bool.or_eq_true]
    exact .inr (List.any_eq_true.2 ⟨i, List.mem_range.2 hi, by simp [inS_all hi, hears_self hi hb]⟩)
theorem cnt_eq (r : Rp) (l : List (Fin 64)) {s : Nat} (hs : s < r.n) : cntD r.dl l s = ((l.map fun x => (x.val : Int)).filter fun x => r.hears x s).length := by
  unfold cntD
  rw [List.filter_map, List.length_map]
  congr 1
  refine List.filter_congr fun x _ => ?_
  exact r.inS_dl x hs
theorem rest_sub {r : Rp} {q : Int} (hq : 0 ≤ q ∧ q < 2 ^ r.k) : r.restS q = 2 ^ r.k - 1 - q := by
  have h : ∀ n, bits (fun i => !inS q i) n + bits (inS q) n = 2 ^ n - 1 := fun n => by
    induction n with
    | zero => rfl
    | succ n ih =>
      simp only [bits, Int.pow_succ]
      by_cases h : inS q n = true <;> simp [h] <;> omega
  have := h r.k
  rw [bits_inS hq] at this
  unfold restS
  omega
end Rp
end Go.Cw
end

/- The reference: what of some sets was heard; Sets. -/
section
set_option maxRecDepth 100000
set_option linter.unusedSimpArgs false
namespace Go.Cw
open Go Go.Proofs



end Go.Cw
end

/- The reference: Open, Sound; does a set show that the hull is sound. -/
section
set_option maxRecDepth 100000
set_option linter.unusedSimpArgs false
namespace Go.Cw
open Go Go.Proofs

namespace Rp
/-- In how many of some sets is a seam? -/
def cntS (l : List Int) (i : Nat) : Nat := (l.filter fun x => inS x i).length
theorem cntS_push (l : List Int) (x : Int) (i : Nat) : cntS (l ++ [x]) i = cntS l i + (if inS x i then 1 else 0) := by
  unfold cntS
  rw [List.filter_append, List.length_append]
  congr 1
  cases h : inS x i
  · rw [List.filter_cons_of_neg (by simp [h])]; rfl
  · rw [List.filter_cons_of_pos (by simp [h])]; rfl
theorem cntS_le (l : List Int) (i : Nat) : cntS l i ≤ l.length := List.length_filter_le _ _
theorem cntS_any (l : List (Fin 64)) (i : Nat) : decide (0 < cntS (l.map fun x => (x.val : Int)) i) = anyS l i := by
  unfold cntS anyS
  rw [List.filter_map, List.length_map, Bool.eq_iff_iff, decide_eq_true_eq, List.length_pos_iff, List.any_eq_true]
  constructor
  · intro h
    obtain ⟨x, hx⟩ := List.exists_mem_of_ne_nil _ h
    rw [List.mem_filter] at hx
    exact ⟨x, hx.1, hx.2⟩
  · rintro ⟨x, h1, h2⟩
    exact List.ne_nil_of_mem (List.mem_filter.2 ⟨h1, h2⟩)
theorem cntS_all (l : List (Fin 64)) (i : Nat) : decide (cntS (l.map fun x => (x.val : Int)) i = l.length) = allS l i := by
  unfold cntS allS
  rw [List.filter_map, List.length_map, Bool.eq_iff_iff, decide_eq_true_eq, List.length_filter_eq_length_iff, List.all_eq_true]
  rfl
theorem canF_mem {r : Rp} {x : Fin 64} (h : x ∈ r.canF) : x ∈ r.soundsF := by
  unfold canF heardF at h
  exact (List.mem_filter.1 h).1
theorem anyS_high {r : Rp} (hv : r.Valid) {i : Nat} (hi : r.n ≤ i) : anyS r.canF i = false := by
  unfold anyS
  rw [List.any_eq_false]
  intro x hx
  rw [inS_high (by omega) (val_lt hv (canF_mem hx)) hi]; simp
theorem allS_high {r : Rp} (hv : r.Valid) (hc : r.canF ≠ []) {i : Nat} (hi : r.n ≤ i) : allS r.canF i = false := by
  obtain ⟨x, hx⟩ := List.exists_mem_of_ne_nil _ hc
  unfold allS
  rw [List.all_eq_false]
  refine ⟨x, hx, ?_⟩
  rw [inS_high (by omega) (val_lt hv (canF_mem hx)) hi]; simp
theorem setsL_mem {r : Rp} (hv : r.Valid) {x : Int} (h : x ∈ r.setsL) : 0 ≤ x ∧ x < 2 ^ r.n := by
  rw [sets_eq hv] at h
  exact (refL_mem.1 h).1
theorem setsL_nil (r : Rp) : r.canF = [] ↔ r.setsL = [] := by unfold setsL; simp
theorem setsL_length (r : Rp) : r.setsL.length = r.canF.length := by unfold setsL; simp
theorem setsL_len {r : Rp} (hv : r.Valid) : r.setsL.length ≤ 64 := by
  rw [sets_eq hv]
  have := r.refL_len (2 ^ r.k - 1)
  have h6 : (2 : Nat) ^ r.n ≤ 2 ^ 6 := Nat.pow_le_pow_right (by omega) hv.d.n6
  omega
end Rp




end Go.Cw
end

/- The reference: Fewest and Next. -/
section
set_option maxRecDepth 100000
set_option linter.unusedSimpArgs false
namespace Go.Cw
open Go Go.Proofs


namespace Rp
/-- What the reference has found. -/
def refN (m : Int) (B : Option (Int × Int)) : Int × Int := B.getD (0, m)
theorem refN_lt (dl : Fin 64 → Int) (l : List (Fin 64)) (k : Nat) : ∀ b, bestC (nextG dl l) (tab k fun i => (i : Int)) = some b → b.2 < l.length ∧ 0 ≤ b.1 ∧ b.1 < k := by
  induction k with
  | zero => intro b h; simp [tab, bestC] at h
  | succ k ih =>
    intro b h
    rw [tab_nat, bestC_push] at h
    obtain ⟨B, hB⟩ : ∃ B, bestC (nextG dl l) (tab k fun i => (i : Int)) = B := ⟨_, rfl⟩
    rw [hB] at h ih
    have keep : B = some b → b.2 < l.length ∧ 0 ≤ b.1 ∧ b.1 < ((k + 1 : Nat) : Int) := fun e => by
      obtain ⟨h1, h2, h3⟩ := ih b e
      exact ⟨h1, h2, by omega⟩
    have new : (nextG dl l k).2 = true → some ((k : Int), (nextG dl l k).1) = some b → b.2 < l.length ∧ 0 ≤ b.1 ∧ b.1 < ((k + 1 : Nat) : Int) := fun h1 e => by
      cases e
      refine ⟨?_, by simp, by simp; omega⟩
      unfold nextG at h1 ⊢
      simp only [decide_eq_true_eq] at h1 ⊢
      omega
    unfold betC at h
    by_cases h2 : (nextG dl l k).2 = true
    · rw [if_pos h2] at h
      cases B with
      | none => exact new h2 h
      | some c =>
        simp only at h
        split at h
        · exact new h2 h
        · exact keep h
    · rw [if_neg h2] at h
      exact keep h
theorem refN_step (dl : Fin 64 → Int) (l : List (Fin 64)) (k : Nat) :
    refN l.length (bestC (nextG dl l) (tab (k + 1) fun i => (i : Int))) = if max (cntD dl l k : Int) (l.length - cntD dl l k) < (refN l.length (bestC (nextG dl l) (tab k fun i => (i : Int)))).2 then ((k : Int), max (cntD dl l k : Int) (l.length - cntD dl l k)) else refN l.length (bestC (nextG dl l) (tab k fun i => (i : Int))) := by
  have hi := refN_lt dl l k
  have hcl : cntD dl l k ≤ l.length := List.length_filter_le _ _
  rw [tab_nat, bestC_push]
  obtain ⟨B, hB⟩ : ∃ B, bestC (nextG dl l) (tab k fun i => (i : Int)) = B := ⟨_, rfl⟩
  rw [hB] at hi ⊢
  have hg1 : (nextG dl l k).1 = max (cntD dl l k : Int) (l.length - cntD dl l k) := rfl
  have hg2 : (nextG dl l k).2 = decide (1 ≤ (cntD dl l k : Int) ∧ (cntD dl l k : Int) ≤ l.length - 1) := rfl
  unfold betC
  by_cases h2 : 1 ≤ (cntD dl l k : Int) ∧ (cntD dl l k : Int) ≤ l.length - 1
  · rw [if_pos (by rw [hg2]; simpa using h2), hg1]
    cases B with
    | none =>
      show ((k : Int), max (cntD dl l k : Int) (l.length - cntD dl l k)) = if max (cntD dl l k : Int) (l.length - cntD dl l k) < (l.length : Int) then _ else _
      rw [if_pos (by omega)]
    | some c =>
      show refN l.length (if max (cntD dl l k : Int) (l.length - cntD dl l k) < c.2 then some ((k : Int), max (cntD dl l k : Int) (l.length - cntD dl l k)) else some c) = if max (cntD dl l k : Int) (l.length - cntD dl l k) < c.2 then _ else c
      split <;> rfl
  · rw [if_neg (by rw [hg2]; simpa using h2)]
    rw [if_neg]
    cases B with
    | none => show ¬ max (cntD dl l k : Int) (l.length - cntD dl l k) < (l.length : Int); omega
    | some c =>
      have := (hi c rfl).1
      show ¬ max (cntD dl l k : Int) (l.length - cntD dl l k) < c.2
      omega
end Rp


end Go.Cw
end

/- The reference: Wrong, Ints; the laws' own small functions. -/
section
set_option maxRecDepth 100000
set_option linter.unusedSimpArgs false
namespace Go.Cw
open Go Go.Proofs

namespace Rp
theorem opL_all {r : Rp} : ∀ x ∈ (r.opL.map fun (i : Nat) => (i : Int)), 0 ≤ x ∧ x < 2 ^ r.n := fun x hx => by
  obtain ⟨i, hi, rfl⟩ := List.mem_map.1 hx
  have := (r.mem_opL i).1 hi
  exact ⟨by omega, by exact_mod_cast this.1⟩
theorem opL_len {r : Rp} (hv : r.Valid) : (r.opL.map fun (i : Nat) => (i : Int)).length ≤ 1000 := by
  have hn6 : r.n ≤ 6 := hv.d.n6
  have : r.opL.length ≤ 2 ^ r.n := by
    unfold opL; refine Nat.le_trans (List.length_filter_le _ _) ?_; simp
  have h6 : (2 : Nat) ^ r.n ≤ 2 ^ 6 := Nat.pow_le_pow_right (by omega) hn6
  simp; omega
theorem opL_ne {r : Rp} (hv : r.Valid) : r.opL ≠ [] := by
  obtain ⟨t, ht⟩ := List.exists_mem_of_ne_nil _ hv.d.truths_ne
  have h := r.opn_lt t
  refine List.ne_nil_of_mem (a := (r.opn t).toNat) ((r.mem_opL _).2 ⟨?_, t, ht, by omega⟩)
  have : (((r.opn t).toNat : Nat) : Int) < ((2 ^ r.n : Nat) : Int) := by simp; omega
  exact_mod_cast this
theorem inS_zero (i : Nat) : inS 0 i = false := by simp [inS]
theorem fits_zero (r : Rp) (o : Int) : r.fits 0 o = true := by
  unfold fits
  rw [List.all_eq_true]
  intro j _
  simp [inS_zero]
theorem wr_ok {r : Rp} (hv : r.Valid) {q : Int} (hq : 0 ≤ q ∧ q < 2 ^ r.k) : (r.wrG q).2 = decide (r.refL (2 ^ r.k - 1 - q) ≠ []) := by
  have h := heard_eq hv (2 ^ r.k - 1 - q)
  unfold wrG
  simp only [rest_sub hq]
  rw [Bool.eq_iff_iff, decide_eq_true_eq, decide_eq_true_eq, ← h]
  simp [List.length_pos_iff]
end Rp


theorem ref13_Ints_ok (a b : List Int) (ha : a.length ≤ 100000) (hb : b.length ≤ 100000) : APure Pg fn_ref13_Ints [L a, L b] (.bool (decide (a = b))) := by
  refine ref13_Ints.pure (by simp) ?_
  simp
  refine FCall.pure (PInv.func (ref05_Ints_ok a b ha hb)) ?_
  simp
  exact RetV.refl rfl
theorem law13_ints_ok (a b : List Int) (ha : a.length ≤ 100000) (hb : b.length ≤ 100000) : APure Pg fn_law13_ints [L a, L b] (.bool (decide (a = b))) := by
  refine law13_ints.pure (by simp) ?_
  simp
  refine FCall.pure (PInv.func (ref13_Ints_ok a b ha hb)) ?_
  simp
  exact RetV.refl rfl
theorem law13_find_ok (a : Int) (b : Bool) : APure Pg fn_law13_find [.int .i64 a, .bool b] (.agg [.int .i64 a, .bool b]) := by
  refine law13_find.pure (by simp) ?_
  simp
  intro s
  exact RetV.refl rfl
theorem law13_span_ok (a b : Int) : APure Pg fn_law13_span [.int .i64 a, .int .i64 b] (SP2 (a, b)) := by
  refine law13_span.pure (by simp) ?_
  simp
  intro s
  exact RetV.refl (by simp [SP2])
/-- Is there far too much of something? -/
def Rp.longB (r : Rp) : Bool := decide ¬ (r.d.limits.length ≤ 40 ∧ r.d.beside.length ≤ 40 ∧ r.d.blows.length ≤ 40 ∧ r.rs.length ≤ 40)
theorem Rp.longB_iff {r : Rp} : r.longB = false ↔ r.Small := by
  unfold Rp.longB
  simp only [decide_eq_false_iff_not, Classical.not_not]
  exact ⟨fun ⟨a, b, c, d⟩ => ⟨⟨a, b, c⟩, d⟩, fun h => ⟨h.d.l, h.d.p, h.d.b, h.k⟩⟩
theorem law13_long_ok (r : Rp) : APure Pg fn_law13_long [r.v] (.bool r.longB) := by
  refine law13_long.pure (by simp) ?_
  simp
  intro s
  refine RetV.refl ?_
  unfold Rp.longB
  congr 2
  rw [Bool.eq_iff_iff]
  simp
  omega
end Go.Cw
end

/- What the document fixes of its example is met. -/
section
set_option maxRecDepth 100000
set_option linter.unusedSimpArgs false
namespace Go.Cw
open Go Go.Proofs

namespace Drv
def runLs (d : Drv) (order : List Nat) : Nat → List Int → Option (List Nat × List Int)
  | 0, _ => none
  | f + 1, l => match d.firstCan order (ofL l) with
    | none => some ([], l)
    | some i => match runLs d order f (tab d.n (d.fire i (ofL l))) with
      | some (all, l') => some (i :: all, l')
      | none => none

theorem fire_tab {d : Drv} (hv : d.Valid) {i : Nat} (hi : i < d.n) {l : List Int} (hl : l.length = d.n) : ofL (tab d.n (d.fire i (ofL l))) = d.fire i (ofL l) := by
  funext j
  by_cases hj : j < d.n
  · simp [ofL, hj]
  · rw [ofL_none _ (by simp; omega)]
    unfold fire
    rw [ofL_none l (by omega), cnt_none hv i (by omega), if_neg (by omega)]
    rfl

theorem runLs_ok {d : Drv} (hv : d.Valid) {order : List Nat} (ho : ∀ i ∈ order, i < d.n) : ∀ {f : Nat} {l l' : List Int} {all : List Nat}, l.length = d.n → d.runLs order f l = some (all, l') → d.Runs order (ofL l) all (ofL l') ∧ l'.length = d.n
  | 0, _, _, _, _, h => by simp [runLs] at h
  | f + 1, l, l', all, hl, h => by
    simp only [runLs] at h
    split at h
    · rename_i hf
      simp only [Option.some.injEq, Prod.mk.injEq] at h
      obtain ⟨rfl, rfl⟩ := h
      exact ⟨.stop hf, hl⟩
    · rename_i i hf
      split at h
      · rename_i all' l'' hr
        simp only [Option.some.injEq, Prod.mk.injEq] at h
        obtain ⟨rfl, rfl⟩ := h
        obtain ⟨h1, h2⟩ := runLs_ok hv ho (by simp) hr
        rw [fire_tab hv (ho i (firstCan_some hf).1) hl] at h1
        exact ⟨.step hf h1, h2⟩
      · cases h

theorem run_of {d : Drv} (hv : d.Valid) {f : Nat} {l l' : List Int} {all : List Nat} (hl : l.length = d.n) (h : d.runLs (List.range d.n) f l = some (all, l')) : d.left (ofL l) = ofL l' ∧ d.odo (ofL l) = times all := by
  have r := (runLs_ok hv (by simp) hl h).1
  unfold left odo
  rw [r.eq]
  exact ⟨rfl, rfl⟩
end Drv

/-- The drive of the document's example, and a rap of it. -/
def smd : Drv := ⟨[3, 3, 3, 3], [(0, 1), (1, 2), (2, 3)], [(2, 3), (0, 0), (0, 0), (1, 3)]⟩
def smr (rs : List (Int × Bool)) : Rp := ⟨smd, rs⟩
theorem smd_valid : smd.Valid := by
  refine ⟨by decide, by decide, by decide, fun i p hp => ?_, fun i l s hl hs => ?_⟩
  · match i with
    | 0 =>
      simp [smd] at hp
      subst hp
      refine ⟨by decide, by decide, by decide, fun k hk => absurd hk (by omega)⟩
    | 1 =>
      simp [smd] at hp
      subst hp
      refine ⟨by decide, by decide, by decide, fun k hk => ?_⟩
      obtain rfl : k = 0 := by omega
      decide
    | 2 =>
      simp [smd] at hp
      subst hp
      refine ⟨by decide, by decide, by decide, fun k hk => ?_⟩
      rcases (show k = 0 ∨ k = 1 by omega) with rfl | rfl <;> decide
    | i + 3 => simp [smd] at hp
  · match i with
    | 0 => simp [smd] at hl hs; subst hl hs; decide
    | 1 => simp [smd] at hl hs; subst hl hs; decide
    | 2 => simp [smd] at hl hs; subst hl hs; decide
    | 3 => simp [smd] at hl hs; subst hl hs; decide
    | i + 4 => simp [smd] at hl
theorem smr_small (rs : List (Int × Bool)) (h : rs.length ≤ 10) : (smr rs).Small := ⟨⟨by simp [smr, smd], by simp [smr, smd], by simp [smr, smd]⟩, by simp [smr]; omega⟩
theorem smr_valid (rs : List (Int × Bool)) (h : rs.length ≤ 10 ∧ ∀ x ∈ rs, 0 ≤ x.1 ∧ x.1 < 4) : (smr rs).Valid := ⟨smd_valid, h.1, fun x hx => h.2 x hx⟩
theorem smd_truths : smd.truths = [[2, 0, 0, 1], [2, 0, 0, 2], [2, 0, 0, 3], [3, 0, 0, 1], [3, 0, 0, 2], [3, 0, 0, 3]] := by decide
theorem smr_opn (rs : List (Int × Bool)) {l l' : List Int} {all : List Nat} (hl : l.length = 4) (h : smd.runLs [0, 1, 2, 3] 60 l = some (all, l')) : (smr rs).opn l = bits (fun k => decide (0 < times all k)) 4 := by
  have e := (Drv.run_of smd_valid (f := 60) hl h).2
  unfold Rp.opn
  show bits (fun k => decide (0 < smd.odo (ofL l) k)) 4 = _
  rw [e]
theorem smr_opL (rs : List (Int × Bool)) : (smr rs).opL = [0, 1, 8, 9] := by
  have e1 : (smr rs).opn [2, 0, 0, 1] = 0 := smr_opn rs (all := []) (l' := [2, 0, 0, 1]) rfl (by decide)
  have e2 : (smr rs).opn [2, 0, 0, 2] = 0 := smr_opn rs (all := []) (l' := [2, 0, 0, 2]) rfl (by decide)
  have e3 : (smr rs).opn [2, 0, 0, 3] = 8 := smr_opn rs (all := [3]) (l' := [2, 0, 1, 0]) rfl (by decide)
  have e4 : (smr rs).opn [3, 0, 0, 1] = 1 := smr_opn rs (all := [0]) (l' := [0, 1, 0, 1]) rfl (by decide)
  have e5 : (smr rs).opn [3, 0, 0, 2] = 1 := smr_opn rs (all := [0]) (l' := [0, 1, 0, 2]) rfl (by decide)
  have e6 : (smr rs).opn [3, 0, 0, 3] = 9 := smr_opn rs (all := [0, 3]) (l' := [0, 1, 1, 0]) rfl (by decide)
  unfold Rp.opL
  have : (fun s : Nat => (smr rs).d.truths.any fun t => decide ((smr rs).opn t = (s : Int))) = fun s : Nat => decide ((0 : Int) = s) || decide ((8 : Int) = s) || decide ((1 : Int) = s) || decide ((9 : Int) = s) := by
    funext s
    show (smd.truths.any fun t => decide ((smr rs).opn t = (s : Int))) = _
    rw [smd_truths]
    simp only [List.any_cons, List.any_nil, e1, e2, e3, e4, e5, e6, Bool.or_false]
    cases decide ((0 : Int) = s) <;> cases decide ((8 : Int) = s) <;> cases decide ((1 : Int) = s) <;> cases decide ((9 : Int) = s) <;> rfl
  rw [this]
  show (List.range (2 ^ smd.n)).filter _ = _
  decide
theorem smr_sounds (rs : List (Int × Bool)) (h : rs.length ≤ 10 ∧ ∀ x ∈ rs, 0 ≤ x.1 ∧ x.1 < 4) : (smr rs).soundsF = [0, 1, 8, 9] := by
  have e := Rp.sounds_eq (smr_valid rs h)
  rw [smr_opL] at e
  have e2 : ([0, 1, 8, 9] : List (Fin 64)).map (fun x => x.val) = [0, 1, 8, 9] := rfl
  rw [← e2] at e
  exact (List.map_inj_right (fun x y h => Fin.ext h)).1 e
theorem smr_can (rs : List (Int × Bool)) (h : rs.length ≤ 10 ∧ ∀ x ∈ rs, 0 ≤ x.1 ∧ x.1 < 4) (l : List (Fin 64)) (hl : (smr rs).heardF (2 ^ (smr rs).k - 1) [0, 1, 8, 9] = l) : (smr rs).canF = l := by
  unfold Rp.canF
  rw [smr_sounds rs h, hl]
theorem smr_dull (q w : Int) (hq : 0 ≤ q ∧ q < 16) (hw : (smr []).dullS q = w) : (smr []).dullV q = .tup [.int .i64 w, .int .i64 0] := by
  unfold Rp.dullV
  rw [if_pos (smr_valid [] (by decide)), if_pos (show 0 ≤ q ∧ q < 2 ^ (smr []).n from hq), hw]
section
variable (rs : List (Int × Bool)) (h : rs.length ≤ 10 ∧ ∀ x ∈ rs, 0 ≤ x.1 ∧ x.1 < 4) {l : List (Fin 64)} (hl : (smr rs).heardF (2 ^ (smr rs).k - 1) [0, 1, 8, 9] = l)
include h hl
theorem smr_sets (hne : l ≠ []) (m : List Int) (hm : l.map (fun x => (x.val : Int)) = m) : (smr rs).setsV = .tup [L m, .int .i64 0] := by
  unfold Rp.setsV Rp.setsL
  rw [smr_can rs h l hl, if_pos (smr_valid rs h), if_neg hne, hm]
theorem smr_open (hne : l ≠ []) (a b : Int) (ha : bits (anyS l) 6 = a) (hb : bits (allS l) 6 = b) : (smr rs).openV = .tup [.int .i64 a, .int .i64 b, .int .i64 0] := by
  unfold Rp.openV
  rw [smr_can rs h l hl, if_pos (smr_valid rs h), if_neg hne, ha, hb]
theorem smr_sound (hne : l ≠ []) (a : Int) (ha : Rp.soundN l = a) : (smr rs).soundV = .tup [.int .i64 a, .int .i64 0] := by
  unfold Rp.soundV
  rw [smr_can rs h l hl, if_pos (smr_valid rs h), if_neg hne, ha]
theorem smr_few (hne : l ≠ []) (b : Int × Int) (hb : bestC (Rp.fewG (smr rs).dl l) (tab (2 ^ (smr rs).n) fun i => (i : Int)) = some b) : (smr rs).fewV = .tup [.int .i64 b.2, .int .i64 b.1, .int .i64 0] := by
  unfold Rp.fewV Rp.fewB
  rw [smr_can rs h l hl, if_pos (smr_valid rs h), if_neg hne, hb]
theorem smr_next (hne : l ≠ []) (h1 : ¬ l.length ≤ 1) (b : Int × Int) (hb : bestC (Rp.nextG (smr rs).dl l) (tab (smr rs).n fun i => (i : Int)) = some b) : (smr rs).nextV = .tup [.int .i64 b.1, .int .i64 b.2, .int .i64 0] := by
  unfold Rp.nextV Rp.nextB
  rw [smr_can rs h l hl, if_pos (smr_valid rs h), if_neg hne, if_neg h1, hb]
theorem smr_next1 (hne : l ≠ []) (h1 : l.length ≤ 1) : (smr rs).nextV = .tup [.int .i64 0, .int .i64 0, .int .i64 11] := by
  unfold Rp.nextV
  rw [smr_can rs h l hl, if_pos (smr_valid rs h), if_neg hne, if_pos h1]
theorem smr_clash (he : l = []) : (smr rs).setsV = .tup [L [], .int .i64 10] := by
  unfold Rp.setsV
  rw [smr_can rs h l hl, if_pos (smr_valid rs h), if_pos he]
omit hl in
theorem smr_wrong (b : Int × Int) (hb : bestC (fun q => (sizeS q, decide (0 < (((smr rs).heardF ((smr rs).restS q) [0, 1, 8, 9]).length : Int)))) (tab (2 ^ (smr rs).k) fun i => (i : Int)) = some b) : (smr rs).wrV = if b.1 = 0 then .tup [.int .i64 0, .int .i64 4] else .tup [.int .i64 b.1, .int .i64 0] := by
  unfold Rp.wrV Rp.wrB Rp.wrG
  rw [smr_sounds rs h, if_pos (smr_valid rs h), hb]
end

theorem law13_sample_ok (rs : List (Int × Bool)) : APure Pg fn_law13_sample [LR rs] (smr rs).v := by
  refine law13_sample.pure (by simp) ?_
  simp
  intro s1 s2 s3
  refine PCallK.intro (PInv.func (law13_span_ok _ _)) ?_
  simp [SP2]
  refine PCallK.intro (PInv.func (law13_span_ok _ _)) ?_
  simp [SP2]
  refine PCallK.intro (PInv.func (law13_span_ok _ _)) ?_
  simp [SP2]
  refine PCallK.intro (PInv.func (law13_span_ok _ _)) ?_
  simp [SP2]
  intro s4
  refine RetV.frz 3 rfl (RetV.frz 7 rfl (RetV.frz 12 rfl (RetV.refl ?_)))
  simp [smr, smd, L, LP, prs]
theorem law13_sample_nil : PInv Pg (.func (.func fn_law13_sample) [] []) [.nils] (smr []).v := fun h =>
  AInvoke.ale (args' := [LR []]) (ALe.refl _) ⟨ALe.nils_vl, trivial⟩ (PInv.func (first := []) (cap := []) (args := [LR []]) (law13_sample_ok []) h)

theorem law13_alive_ok : APure Pg fn_law13_alive [] (.bool true) := by
  refine law13_alive.pure (by simp) ?_
  simp
  refine FCall.pure law13_sample_nil ?_
  simp
  refine PCallK.intro (PInv.func (rap_Dull_ok (smr []) (smr_small _ (by decide)) 9)) ?_
  rw [smr_dull 9 15 (by decide) (by decide +kernel)]
  simp
  refine FCall.pure law13_sample_nil ?_
  simp
  refine PCallK.intro (PInv.func (rap_Sets_ok (smr []) (smr_small _ (by decide)))) ?_
  rw [smr_sets [] (by decide) (l := [0, 1, 8, 9]) (by decide +kernel) (by decide) [0, 1, 8, 9] (by decide)]
  simp
  refine FCall.pure law13_sample_nil ?_
  simp
  refine PCallK.intro (PInv.func (rap_Open_ok (smr []) (smr_small _ (by decide)))) ?_
  rw [smr_open [] (by decide) (l := [0, 1, 8, 9]) (by decide +kernel) (by decide) 9 0 (by decide +kernel) (by decide +kernel)]
  simp
  refine PCallK.intro (PInv.func (law13_find_ok _ _)) ?_
  simp
  refine PCallK.intro (PInv.func (law13_find_ok _ _)) ?_
  simp
  intro s37
  refine FCall.frz1 37 rfl (v := (smr [(0, false), (3, false)]).v) ?_ trivial ?_
  · have := PInv.func (first := []) (cap := []) (args := [LR [(0, false), (3, false)]]) (law13_sample_ok [(0, false), (3, false)])
    simpa [LR, rfs, fl, rfC] using this
  simp
  refine PCallK.intro (PInv.func (rap_Sound_ok (smr [(0, false), (3, false)]) (smr_small _ (by decide)))) ?_
  rw [smr_sound [(0, false), (3, false)] (by decide) (l := [0]) (by decide +kernel) (by decide) 2 (by decide +kernel)]
  simp
  refine FCall.pure law13_sample_nil ?_
  simp
  refine PCallK.intro (PInv.func (rap_Fewest_ok (smr []) (smr_small _ (by decide)))) ?_
  rw [smr_few [] (by decide) (l := [0, 1, 8, 9]) (by decide +kernel) (by decide) (5, 2) (by decide +kernel)]
  simp
  refine FCall.pure law13_sample_nil ?_
  simp
  refine PCallK.intro (PInv.func (rap_Next_ok (smr []) (smr_small _ (by decide)))) ?_
  rw [smr_next [] (by decide) (l := [0, 1, 8, 9]) (by decide +kernel) (by decide) (by decide) (0, 2) (by decide +kernel)]
  simp
  refine PCallK.intro (PInv.func (law13_find_ok _ _)) ?_
  simp
  refine PCallK.intro (PInv.func (law13_find_ok _ _)) ?_
  simp
  intro s57
  refine FCall.frz1 57 rfl (v := (smr [(0, true), (1, false)]).v) ?_ trivial ?_
  · have := PInv.func (first := []) (cap := []) (args := [LR [(0, true), (1, false)]]) (law13_sample_ok [(0, true), (1, false)])
    simpa [LR, rfs, fl, rfC] using this
  simp
  refine PCallK.intro (PInv.func (rap_Wrong_ok (smr [(0, true), (1, false)]) (smr_small _ (by decide)))) ?_
  rw [smr_wrong [(0, true), (1, false)] (by decide) (1, 1) (by decide +kernel)]
  simp
  intro s70
  refine FCall.frz1 70 rfl (v := .bool true) ?_ (by simp) ?_
  · have := PInv.func (first := []) (cap := []) (args := [L [0, 1, 8, 9], L [0, 1, 8, 9]]) (law13_ints_ok [0, 1, 8, 9] [0, 1, 8, 9] (by simp) (by simp))
    simpa [L] using this
  simp
  exact RetV.refl rfl
end Go.Cw
end

/- The laws Tells, Wrongs and Dull; which seams opened, and which sound dull, by the laws' own words. -/
section
set_option maxRecDepth 100000
set_option linter.unusedSimpArgs false
namespace Go.Cw
open Go Go.Proofs

/-- One of the numbers that are told of a set. -/
theorem inS_and1 {s : Int} (hs : 0 ≤ s ∧ s < 2 ^ 62) (i : Nat) : bitI .and .i64 (s / 2 ^ i) 1 = if inS s i then 1 else 0 := by
  have h0 := two_pow_pos i
  have h2 : 0 ≤ s / 2 ^ i := Int.ediv_nonneg hs.1 (by omega)
  have h3 : s / 2 ^ i ≤ s := Int.ediv_le_self _ hs.1
  rw [bitI_and1 h2 (by omega)]
  unfold inS
  simp only [decide_eq_true_eq]
  split <;> omega




namespace Rp
variable (r : Rp)
theorem dullV_form (q : Int) : ∃ a e, r.dullV q = .tup [.int .i64 a, .int .i64 e] := by
  unfold dullV; split
  · split <;> exact ⟨_, _, rfl⟩
  · exact ⟨_, _, rfl⟩
theorem setsV_form (hs : r.Small) : ∃ l e, r.setsV = .tup [L l, .int .i64 e] ∧ l.length ≤ 100000 := by
  unfold setsV; split
  · rename_i hv
    split
    · exact ⟨_, _, rfl, by simp⟩
    · exact ⟨_, _, rfl, by have := setsL_len hv; omega⟩
  · exact ⟨_, _, rfl, by simp⟩
theorem openV_form : ∃ a b e, r.openV = .tup [.int .i64 a, .int .i64 b, .int .i64 e] := by
  unfold openV; split
  · split <;> exact ⟨_, _, _, rfl⟩
  · exact ⟨_, _, _, rfl⟩
theorem soundV_form : ∃ a e, r.soundV = .tup [.int .i64 a, .int .i64 e] := by
  unfold soundV; split
  · split <;> exact ⟨_, _, rfl⟩
  · exact ⟨_, _, rfl⟩
theorem fewV_form : ∃ a b e, r.fewV = .tup [.int .i64 a, .int .i64 b, .int .i64 e] := by
  unfold fewV; split
  · split
    · exact ⟨_, _, _, rfl⟩
    · split <;> exact ⟨_, _, _, rfl⟩
  · exact ⟨_, _, _, rfl⟩
theorem nextV_form : ∃ a b e, r.nextV = .tup [.int .i64 a, .int .i64 b, .int .i64 e] := by
  unfold nextV; split
  · split
    · exact ⟨_, _, _, rfl⟩
    · split
      · exact ⟨_, _, _, rfl⟩
      · split <;> exact ⟨_, _, _, rfl⟩
  · exact ⟨_, _, _, rfl⟩
end Rp


end Go.Cw
end

/- How a rap is read as an argument. -/
section
set_option maxRecDepth 100000
namespace Go.Cw
open Go Go.Proofs

section
variable {w : World} {μ : Mu}

theorem opens_int : Opens Pg w μ 3 fun av => ∃ n, (Lit.int .i64 n).wf = true ∧ av = [.int .i64 n] := Opens.int Tryz.underlying3 (by kernel_rfl)
theorem opens_bool : Opens Pg w μ 4 fun av => ∃ b, av = [.bool b] := Opens.bool Tryz.underlying4 (by kernel_rfl)
theorem opens_ints : Opens Pg w μ 22 fun av => ∃ l : List Int, av = [L l] := Opens.ints Tryz.underlying22 (by kernel_rfl) Tryz.underlying3 (by kernel_rfl)
theorem opens_pairs : Opens Pg w μ 23 fun av => ∃ l : List (Int × Int), av = [LP l] :=
  Opens.prs Tryz.underlying23 (by kernel_rfl) (by kernel_rfl) (Opens.two Tryz.underlying61 (by kernel_rfl) Tryz.underlying3 (by kernel_rfl))
theorem opens_span : Opens Pg w μ 46 fun av => ∃ p : Int × Int, av = [.int .i64 p.1, .int .i64 p.2] := by
  refine (Opens.struct (Vs := [_, _]) Tryz.underlying46 (by kernel_rfl) ⟨rfl, opens_int, by kernel_rfl, opens_int, trivial⟩).mono ?_
  rintro av ⟨ass, h, rfl⟩
  obtain ⟨a, b, rfl, ⟨n, _, rfl⟩, ⟨m, _, rfl⟩⟩ := h.two
  exact ⟨(n, m), rfl⟩
theorem opens_spans : Opens Pg w μ 24 fun av => ∃ l : List (Int × Int), av = [LP l] := Opens.prs Tryz.underlying24 (by kernel_rfl) (by kernel_rfl) opens_span
theorem opens_drive : Opens Pg w μ 26 fun av => ∃ d : Drv, av = d.cells := by
  refine (Opens.struct (Vs := [_, _, _]) Tryz.underlying26 (by kernel_rfl) ⟨rfl, opens_ints, by kernel_rfl, opens_pairs, by kernel_rfl, opens_spans, trivial⟩).mono ?_
  rintro av ⟨ass, h, rfl⟩
  obtain ⟨a, b, c, rfl, ⟨l, rfl⟩, ⟨p, rfl⟩, ⟨q, rfl⟩⟩ := h.three
  exact ⟨⟨l, p, q⟩, rfl⟩
theorem opens_find : Opens Pg w μ 51 fun av => ∃ a : Int × Bool, av = rfC a := by
  refine (Opens.struct (Vs := [_, _]) Tryz.underlying51 (by kernel_rfl) ⟨rfl, opens_int, by kernel_rfl, opens_bool, trivial⟩).mono ?_
  rintro av ⟨ass, h, rfl⟩
  obtain ⟨a, b, rfl, ⟨n, _, rfl⟩, ⟨m, rfl⟩⟩ := h.two
  exact ⟨(n, m), rfl⟩
theorem c51 : 0 < Pg.cellsOf 51 := by rw [show Pg.cellsOf 51 = 2 by kernel_rfl]; omega
theorem opens_rap : Opens Pg w μ 29 fun av => ∃ r : Rp, av = r.cells := by
  refine (Opens.struct (Vs := [_, _]) Tryz.underlying29 (by kernel_rfl) ⟨rfl, opens_drive, by kernel_rfl, Opens.fl Tryz.underlying27 (by kernel_rfl) c51 opens_find, trivial⟩).mono ?_
  rintro av ⟨ass, h, rfl⟩
  obtain ⟨a, b, rfl, ⟨n, rfl⟩, ⟨m, rfl⟩⟩ := h.two
  exact ⟨⟨n, m⟩, rfl⟩
theorem opens_u16s : Opens Pg w μ 42 fun av => ∃ l : List Int, U16ok l ∧ av = [U16 l] :=
  (Opens.intsK (k := .u16) Tryz.underlying42 (by kernel_rfl) Tryz.underlying59 (by kernel_rfl)).mono fun av ⟨l, h1, h2, h3⟩ =>
    ⟨l, ⟨Nat.le_trans h1 (by decide +kernel), fun x hx => bounds_u16 (h2 x hx)⟩, h3⟩
theorem opens_u8 : Opens Pg w μ 5 fun av => ∃ n : Int, (0 ≤ n ∧ n ≤ 255) ∧ av = [.int .u8 n] :=
  (Opens.int Tryz.underlying5 (by kernel_rfl)).mono fun av ⟨n, h1, h2⟩ => ⟨n, bounds_u8 h1, h2⟩
theorem opens_u16 : Opens Pg w μ 59 fun av => ∃ n : Int, (0 ≤ n ∧ n ≤ 65535) ∧ av = [.int .u16 n] :=
  (Opens.int Tryz.underlying59 (by kernel_rfl)).mono fun av ⟨n, h1, h2⟩ => ⟨n, bounds_u16 h1, h2⟩
end

theorem kids : Kids Pg (· < Pg.types.size) := kids_rows (by kernel_rfl) (by kernel_rfl)
theorem slices_full : ∀ t e, t < Pg.types.size → Pg.underlying t = some (.slice e) → 0 < Pg.cellsOf e := slices_full_of Pg (by kernel_rfl)
theorem ownKnobNone : ownKnob Pg.godebug = none := by kernel_rfl

end Go.Cw
end

/- Plain words on what raps tell, for the laws. -/
section
set_option maxRecDepth 100000
set_option linter.unusedSimpArgs false
namespace Go.Cw
open Go Go.Proofs

theorem bitsI_andNot (p q : Nat → Bool) {n : Nat} (hn : n ≤ 60) : bitI .andNot .i64 (bits p n) (bits q n) = bits (fun i => p i && !q i) n := by
  have ha := natB_lt62 p hn
  have hb := natB_lt62 q hn
  have hc := natB_lt62 (fun i => p i && !q i) hn
  rw [bits_natB, bits_natB, bits_natB]
  have key : (BitVec.ofNat 64 (natB p n) &&& ~~~(BitVec.ofNat 64 (natB q n))).toNat = natB (fun i => p i && !q i) n := by
    apply Nat.eq_of_testBit_eq
    intro i
    rw [← BitVec.getLsbD, BitVec.getLsbD_and, BitVec.getLsbD_not, BitVec.getLsbD_ofNat, BitVec.getLsbD_ofNat, natB_bit, natB_bit, natB_bit]
    by_cases hi : i < n
    · have : i < 64 := by omega
      simp [hi, this]
    · simp [hi]
  show IntKind.i64.wrap (Int.ofNat (BitVec.ofInt 64 (natB p n : Nat) &&& ~~~(BitVec.ofInt 64 (natB q n : Nat))).toNat) = _
  rw [BitVec.ofInt_natCast, BitVec.ofInt_natCast, key]
  have hh : ((natB (fun i => p i && !q i) n : Nat) : Int) < 2 ^ 62 := by exact_mod_cast hc
  simp [IntKind.wrap, IntKind.signed, IntKind.bits]
  omega
theorem and_all {m : Int} (hm : 0 ≤ m ∧ m < 2 ^ 60) {n : Nat} (hn : n ≤ 60) : ∃ o, bitI .and .i64 m (2 ^ n - 1) = o ∧ 0 ≤ o ∧ o < 2 ^ n := by
  refine ⟨_, rfl, ?_⟩
  have h1 : m = bits (inS m) 60 := (bits_inS hm).symm
  have h2 : (2 : Int) ^ n - 1 = bits (fun i => decide (i < n)) 60 := by
    rw [bits_more (n := n) hn fun i h1 h2 => by simpa using h1, bits_congr (q := fun _ => true) fun i hi => by simpa using hi, bits_all1]
  rw [h2, h1, bitsI_and _ _ (by omega), bits_more (n := n) hn fun i h1 h2 => by simp; omega]
  exact bits_lt _ _

theorem bestC_min (g : Int → Int × Bool) (k : Nat) : ∀ b, bestC g (tab k fun i => (i : Int)) = some b → b.2 = (g b.1).1 ∧ 0 ≤ b.1 ∧ b.1 < k ∧ (g b.1).2 = true ∧ ∀ y : Nat, y < k → (g y).2 = true → b.2 < (g y).1 ∨ (b.2 = (g y).1 ∧ b.1 ≤ y) := by
  induction k with
  | zero => intro b h; simp [tab, bestC] at h
  | succ k ih =>
    intro b h
    rw [tab_nat, bestC_push] at h
    have hn : bestC g (tab k fun i => (i : Int)) = none → ∀ y : Nat, y < k → (g y).2 = false := fun e y hy => by
      cases h2 : (g y).2
      · rfl
      · have := bestC_some (g := g) (l := tab k fun i => (i : Int)) (x := (y : Int)) (List.mem_map.2 ⟨y, List.mem_range.2 hy, rfl⟩) h2
        rw [e] at this; cases this
    obtain ⟨B, hB⟩ : ∃ B, bestC g (tab k fun i => (i : Int)) = B := ⟨_, rfl⟩
    rw [hB] at h ih hn
    unfold betC at h
    by_cases h2 : (g k).2 = true
    · rw [if_pos h2] at h
      cases B with
      | none =>
        cases h
        refine ⟨rfl, by simp, by simp; omega, h2, fun y hy hy2 => ?_⟩
        by_cases hyk : y = k
        · subst hyk; exact .inr ⟨rfl, Int.le_refl _⟩
        · have := hn rfl y (by omega)
          rw [this] at hy2; cases hy2
      | some c =>
        obtain ⟨a1, a2, a3, a4, a5⟩ := ih c rfl
        simp only at h
        split at h
        · rename_i hlt
          cases h
          refine ⟨rfl, by simp, by simp; omega, h2, fun y hy hy2 => ?_⟩
          by_cases hyk : y = k
          · subst hyk; exact .inr ⟨rfl, Int.le_refl _⟩
          · have := a5 y (by omega) hy2
            simp only
            omega
        · rename_i hlt
          cases h
          refine ⟨a1, a2, by omega, a4, fun y hy hy2 => ?_⟩
          by_cases hyk : y = k
          · subst hyk
            by_cases he : b.2 = (g y).1
            · exact .inr ⟨he, by omega⟩
            · exact .inl (by omega)
          · exact a5 y (by omega) hy2
    · rw [if_neg h2] at h
      subst h
      obtain ⟨a1, a2, a3, a4, a5⟩ := ih b rfl
      refine ⟨a1, a2, by omega, a4, fun y hy hy2 => ?_⟩
      by_cases hyk : y = k
      · subst hyk; exact absurd hy2 h2
      · exact a5 y (by omega) hy2
theorem bestC_none {g : Int → Int × Bool} {k : Nat} (h : bestC g (tab k fun i => (i : Int)) = none) {y : Nat} (hy : y < k) : (g y).2 = false := by
  cases h2 : (g y).2
  · rfl
  · have := bestC_some (g := g) (l := tab k fun i => (i : Int)) (x := (y : Int)) (List.mem_map.2 ⟨y, List.mem_range.2 hy, rfl⟩) h2
    rw [h] at this; cases this

namespace Rp
/-- Does a set sound as was heard by all raps? -/
def fitA (r : Rp) (o : Int) : Bool := r.rs.all fun x => r.hears o x.1.toNat == x.2
theorem fits_every (r : Rp) (o : Int) : r.fits (2 ^ r.k - 1) o = r.fitA o := by
  unfold fits fitA
  rw [Bool.eq_iff_iff, List.all_eq_true, List.all_eq_true]
  constructor
  · intro h x hx
    obtain ⟨j, hj, rfl⟩ := List.getElem_of_mem hx
    have := h j (List.mem_range.2 hj)
    rw [inS_all (show j < r.k from hj), List.getElem?_eq_getElem hj] at this
    simpa using this
  · intro h j hj
    have hj' : j < r.rs.length := List.mem_range.1 hj
    rw [List.getElem?_eq_getElem hj']
    have := h r.rs[j] (List.getElem_mem hj')
    simp only [Option.map_some, Option.getD_some, this, Bool.or_true]
theorem mem_sets {r : Rp} (hv : r.Valid) {x : Int} : x ∈ r.setsL ↔ (0 ≤ x ∧ x < 2 ^ r.n) ∧ (∃ t ∈ r.d.truths, r.opn t = x) ∧ r.fitA x = true := by
  rw [sets_eq hv, refL_mem, fits_every]
theorem sets_lt {r : Rp} (hv : r.Valid) : r.setsL.Pairwise (· < ·) := by rw [sets_eq hv]; exact r.refL_lt _
/-- Other raps of the same drive. -/
def of (r : Rp) (l : List (Int × Bool)) : Rp := ⟨r.d, l⟩
theorem Valid.of {r : Rp} (hv : r.Valid) {l : List (Int × Bool)} (h : l.length ≤ 10) (hs : ∀ x ∈ l, r.d.Seam x.1) : (r.of l).Valid := ⟨hv.d, h, hs⟩
theorem Small.of {r : Rp} (hs : r.Small) {l : List (Int × Bool)} (h : l.length ≤ 40) : (r.of l).Small := ⟨hs.d, h⟩
theorem fitA_of (r : Rp) (l : List (Int × Bool)) (o : Int) : (r.of l).fitA o = l.all fun x => r.hears o x.1.toNat == x.2 := rfl

theorem hears_iff {r : Rp} {o : Int} {i : Nat} : r.hears o i = true ↔ ∃ j, j < r.n ∧ inS o j = true ∧ r.near i j = true := by
  unfold hears
  simp only [List.any_eq_true, List.mem_range, Bool.and_eq_true]
theorem hears_or {r : Rp} (hn : r.n ≤ 60) {x y : Int} (hx : 0 ≤ x ∧ x < 2 ^ r.n) (hy : 0 ≤ y ∧ y < 2 ^ r.n) (i : Nat) : r.hears (bitI .or .i64 x y) i = (r.hears x i || r.hears y i) := by
  rw [Bool.eq_iff_iff, Bool.or_eq_true, hears_iff, hears_iff, hears_iff]
  have h : ∀ j, j < r.n → inS (bitI .or .i64 x y) j = (inS x j || inS y j) := fun j hj => by
    conv => lhs; rw [← bits_inS hx, ← bits_inS hy]
    rw [bitsI_or _ _ hn, inS_bits _ hj]
  constructor
  · rintro ⟨j, hj, h1, h2⟩
    rw [h j hj, Bool.or_eq_true] at h1
    rcases h1 with h1 | h1
    · exact .inl ⟨j, hj, h1, h2⟩
    · exact .inr ⟨j, hj, h1, h2⟩
  · rintro (⟨j, hj, h1, h2⟩ | ⟨j, hj, h1, h2⟩)
    · exact ⟨j, hj, by rw [h j hj, h1]; rfl, h2⟩
    · exact ⟨j, hj, by rw [h j hj, h1]; simp, h2⟩
theorem dull_or {r : Rp} (hn : r.n ≤ 60) {x y : Int} (hx : 0 ≤ x ∧ x < 2 ^ r.n) (hy : 0 ≤ y ∧ y < 2 ^ r.n) : r.dullS (bitI .or .i64 x y) = bitI .or .i64 (r.dullS x) (r.dullS y) := by
  unfold dullS
  rw [bitsI_or _ _ hn]
  exact bits_congr fun i _ => hears_or hn hx hy i
theorem or_lt {n : Nat} (hn : n ≤ 60) {x y : Int} (hx : 0 ≤ x ∧ x < 2 ^ n) (hy : 0 ≤ y ∧ y < 2 ^ n) : 0 ≤ bitI .or .i64 x y ∧ bitI .or .i64 x y < 2 ^ n := by
  rw [← bits_inS hx, ← bits_inS hy, bitsI_or _ _ hn]
  exact bits_lt _ _
theorem dull_self {r : Rp} (hn : r.n ≤ 60) {x : Int} (hx : 0 ≤ x ∧ x < 2 ^ r.n) : bitI .andNot .i64 x (r.dullS x) = 0 := by
  conv => lhs; rw [← bits_inS hx]
  unfold dullS
  rw [bitsI_andNot _ _ hn, bits_zero]
  intro i hi
  cases h : inS x i
  · rfl
  · rw [bits_inS hx, hears_self hi h]; rfl
theorem andNot_all {n : Nat} (hn : n ≤ 60) {x : Int} (hx : 0 ≤ x ∧ x < 2 ^ n) : bitI .andNot .i64 x (2 ^ n - 1) = 0 := by
  rw [← bits_inS hx, ← bits_all1, bitsI_andNot _ _ hn, bits_zero]
  intro i _; simp
theorem dullV_at {r : Rp} (hv : r.Valid) {q : Int} (hq : 0 ≤ q ∧ q < 2 ^ r.n) : r.dullV q = .tup [.int .i64 (r.dullS q), .int .i64 0] := by simp [dullV, hv, hq]
theorem dullV_out {r : Rp} (hv : r.Valid) {q : Int} (hq : ¬ (0 ≤ q ∧ q < 2 ^ r.n)) : r.dullV q = .tup [.int .i64 0, .int .i64 2] := by
  unfold dullV; rw [if_pos hv, if_neg hq]
end Rp


end Go.Cw
end

/- Numbers that are drawn; rows of raps that grow. -/
section
set_option maxRecDepth 100000
set_option linter.unusedSimpArgs false
namespace Go.Cw
open Go Go.Proofs






theorem Sl.toV {n : Nat} {K : KT} {tm : TM} {df : DF} {h : Heap} (l : List (Nat × AVal)) (k : List (Nat × AObj)) (en : Sl n (fun tm' df' h' => df' = df ∧ Vw l tm' ∧ Hw k h') tm df h) (hK : K (tmV l) df (hpV k)) : Sl n K tm df h := by
  obtain ⟨tm₁, df₁, h₁, a, rfl, hv, hh⟩ := en
  exact ⟨_, _, _, a.trans (SLe.view hv hh), hK⟩
@[simp] theorem frzL_rfs (r s : Nat) (cells : List AVal) (l : List (Int × Bool)) : frzL r s cells (rfs l) = rfs l := by
  induction l with
  | nil => rfl
  | cons a l ih =>
    show frzL r s cells (rfC a ++ rfs l) = rfC a ++ rfs l
    simp [rfC, ih]
theorem rfs_push (l : List (Int × Bool)) (a : Int × Bool) : rfs l ++ [.int .i64 a.1, .bool a.2] = rfs (l ++ [a]) := by simp [rfs, fl, rfC]

/-- A grown row of raps in a rap becomes a value. -/
theorem Sl.raps {n : Nat} {K : KT} {tm : TM} {df : DF} {h : Heap} {a b c : AVal} (x R : Nat) {sx st : Nat} {l : List (Int × Bool)} (hx : h x = .row [a, b, c, gS 2 R l.length st] sx) (hR : h R = gO l.length (rfs l) st)
    (k1 : l = [] → Sl n K tm df (upd h x (.row [a, b, c, LR l] sx))) (k2 : 0 < l.length → Sl n K (frzT R st (rfs l) tm) df (frzH R st (rfs l) (upd h R .dead))) : Sl n K tm df h := by
  cases l with
  | nil =>
    refine Sl.rowLe (cells := [a, b, c, gS 2 R 0 st]) (s := sx) x [a, b, c, LR []] (by simpa using hx) ⟨ALe.refl _, ALe.refl _, ALe.refl _, ?_, trivial⟩ (k1 rfl)
    exact ALe.es_vl
  | cons y l => exact Sl.gSH R (m := (y :: l).length) (cells := rfs (y :: l)) (s := st) (by simp) hR (k2 (by simp))

namespace Rp
theorem Valid.truth_settle {r : Rp} (hv : r.Valid) {t : List Int} (ht : t ∈ r.d.truths) : r.d.settleV t = .tup [L (tab r.n (r.d.left (ofL t))), L (tab r.n (r.d.odo (ofL t))), .int .i64 0] := by
  obtain ⟨h1, h2⟩ := hv.d.truth ht
  have hb : r.d.Blows t := by
    refine ⟨h1, fun x hx => ?_⟩
    obtain ⟨i, hi, rfl⟩ := List.getElem_of_mem hx
    have := (h2 i (by omega)).2
    rw [ofL_at t hi]
    omega
  have hvd := hv.d
  simp only [Drv.settleV, hvd, hb, if_true]
  rfl
theorem opn_times {r : Rp} (t : List Int) : bits (fun k => decide (0 < ofL (tab r.n (r.d.odo (ofL t))) k)) (tab r.n (r.d.odo (ofL t))).length = r.opn t := by
  rw [tab_length]
  unfold opn
  refine bits_congr fun i hi => ?_
  simp [ofL, hi]
end Rp
end Go.Cw
end

/- The law True. -/
section
set_option maxRecDepth 100000
set_option linter.unusedSimpArgs false
namespace Go.Cw
open Go Go.Proofs

namespace Rp
theorem mem_canF {r : Rp} {o : Int} (ho : o ∈ r.setsL) : ∃ x ∈ r.canF, (x.val : Int) = o := List.mem_map.1 ho
theorem canF_lt (r : Rp) : r.canF.Pairwise fun a b => a.val < b.val := by
  unfold canF heardF
  exact List.Pairwise.filter _ r.soundsF_lt
theorem lt64 {r : Rp} (hv : r.Valid) {o : Int} (ho : 0 ≤ o ∧ o < 2 ^ r.n) : 0 ≤ o ∧ o < 2 ^ 6 := by
  have := two_pow_le (show r.n ≤ 6 from hv.d.n6)
  omega
theorem can_sub {r : Rp} (hv : r.Valid) {o : Int} (ho : o ∈ r.setsL) : bitI .andNot .i64 o (bits (anyS r.canF) 6) = 0 := by
  have h6 := lt64 hv (setsL_mem hv ho)
  obtain ⟨x, hx, hxo⟩ := mem_canF ho
  conv => lhs; rw [← bits_inS h6]
  rw [bitsI_andNot _ _ (by omega), bits_zero]
  intro i hi
  cases h : inS o i
  · rfl
  · have : anyS r.canF i = true := List.any_eq_true.2 ⟨x, hx, by rw [hxo]; exact h⟩
    rw [this]; rfl
theorem sure_sub {r : Rp} (hv : r.Valid) {o : Int} (ho : o ∈ r.setsL) : bitI .andNot .i64 (bits (allS r.canF) 6) o = 0 := by
  have h6 := lt64 hv (setsL_mem hv ho)
  obtain ⟨x, hx, hxo⟩ := mem_canF ho
  conv => lhs; rw [← bits_inS h6]
  rw [bitsI_andNot _ _ (by omega), bits_zero]
  intro i hi
  cases h : allS r.canF i
  · rfl
  · have := List.all_eq_true.1 h x hx
    rw [hxo] at this
    rw [this]; rfl
theorem sound_is {r : Rp} {o : Int} (ho : o ∈ r.setsL) : (soundN r.canF = 2 → o = 0) ∧ (soundN r.canF = 0 → o ≠ 0) := by
  obtain ⟨x, hx, rfl⟩ := mem_canF ho
  have hlt := r.canF_lt
  cases hc : r.canF with
  | nil => rw [hc] at hx; simp at hx
  | cons y l =>
    rw [hc] at hx hlt
    have hge : y.val ≤ x.val := by
      rcases List.mem_cons.1 hx with rfl | h
      · exact Nat.le_refl _
      · exact Nat.le_of_lt (List.rel_of_pairwise_cons hlt h)
    simp only [soundN]
    constructor
    · intro h
      by_cases h0 : y.val = 0
      · rw [if_pos h0] at h
        by_cases hl : l = []
        · subst hl
          simp only [List.mem_singleton] at hx
          subst hx; omega
        · rw [if_neg hl] at h; omega
      · rw [if_neg h0] at h; omega
    · intro h
      by_cases h0 : y.val = 0
      · rw [if_pos h0] at h
        split at h <;> omega
      · omega
theorem few_some {r : Rp} (hv : r.Valid) (hc : r.canF ≠ []) : ∃ b, r.fewB = some b ∧ r.fewV = .tup [.int .i64 b.2, .int .i64 b.1, .int .i64 0] ∧ b.2 = sizeS b.1 ∧ (0 ≤ b.1 ∧ b.1 < 2 ^ r.n) ∧ r.showsP r.setsL b.1 = true ∧
    ∀ q, 0 ≤ q ∧ q < 2 ^ r.n → r.showsP r.setsL q = true → b.2 < sizeS q ∨ (b.2 = sizeS q ∧ b.1 ≤ q) := by
  have hn6 : r.n ≤ 6 := hv.d.n6
  have hp := two_pow_pos r.n
  obtain ⟨N, hN⟩ : ∃ N : Nat, N = 2 ^ r.n := ⟨_, rfl⟩
  have hNi : (N : Int) = 2 ^ r.n := by rw [hN]; simp
  have hsh : ∀ q, 0 ≤ q ∧ q < 2 ^ r.n → (fewG r.dl r.canF q).2 = r.showsP r.setsL q := fun q hq => few_shows (by omega) _ hq
  have hsome : r.fewB.isSome = true := by
    unfold fewB
    rw [← hN]
    refine bestC_some (x := 2 ^ r.n - 1) ?_ ?_
    · have : (2 : Int) ^ r.n - 1 = ((N - 1 : Nat) : Int) := by omega
      rw [this]
      exact List.mem_map.2 ⟨N - 1, List.mem_range.2 (by omega), rfl⟩
    · rw [hsh _ (by omega), sets_eq hv]
      exact shows_all
  obtain ⟨b, hb⟩ := Option.isSome_iff_exists.1 hsome
  have hb' := hb
  unfold fewB at hb'
  rw [← hN] at hb'
  obtain ⟨h1, h2, h3, h4, h5⟩ := bestC_min _ N b hb'
  have hbr : 0 ≤ b.1 ∧ b.1 < 2 ^ r.n := by omega
  refine ⟨b, hb, by simp [fewV, hv, hc, hb], h1, hbr, by rw [← hsh _ hbr]; exact h4, fun q hq hs => ?_⟩
  obtain ⟨k, rfl⟩ : ∃ k : Nat, q = k := ⟨q.toNat, by omega⟩
  have := h5 k (by omega) (by rw [hsh _ hq]; exact hs)
  exact this
theorem sizeS_zero : sizeS 0 = 0 := by rw [sizeS_n (n := 0) (by omega) ⟨by omega, by decide⟩]; rfl
theorem sizeS_nonneg (q : Int) : 0 ≤ sizeS q := sumN_nonneg fun j _ => by split <;> omega
theorem wr_none {r : Rp} (hv : r.Valid) (hc : r.setsL ≠ []) : r.wrV = .tup [.int .i64 0, .int .i64 4] := by
  have hp := two_pow_pos r.k
  obtain ⟨N, hN⟩ : ∃ N : Nat, N = 2 ^ r.k := ⟨_, rfl⟩
  have hNi : (N : Int) = 2 ^ r.k := by rw [hN]; simp
  have h0 : (r.wrG 0).2 = true := by
    rw [wr_ok hv ⟨by omega, by omega⟩, decide_eq_true_eq, Int.sub_zero, ← sets_eq hv]; exact hc
  have hsome : r.wrB.isSome = true := by
    unfold wrB
    rw [← hN]
    exact bestC_some (x := 0) (List.mem_map.2 ⟨0, List.mem_range.2 (by omega), rfl⟩) h0
  obtain ⟨b, hb⟩ := Option.isSome_iff_exists.1 hsome
  have hb' := hb
  unfold wrB at hb'
  rw [← hN] at hb'
  obtain ⟨h1, h2, h3, h4, h5⟩ := bestC_min _ N b hb'
  have h6 := h5 0 (by omega) h0
  have e1 : (r.wrG b.1).1 = sizeS b.1 := rfl
  have e2 : (r.wrG ((0 : Nat) : Int)).1 = sizeS 0 := rfl
  rw [e2, sizeS_zero] at h6
  have := sizeS_nonneg b.1
  have hb0 : b.1 = 0 := by rw [h1, e1] at h6; simp at h6; omega
  simp [wrV, hv, hb, hb0]
theorem openV_ok {r : Rp} (hv : r.Valid) (hc : r.canF ≠ []) : r.openV = .tup [.int .i64 (bits (anyS r.canF) 6), .int .i64 (bits (allS r.canF) 6), .int .i64 0] := by simp [openV, hv, hc]
theorem soundV_ok {r : Rp} (hv : r.Valid) (hc : r.canF ≠ []) : r.soundV = .tup [.int .i64 (soundN r.canF), .int .i64 0] := by simp [soundV, hv, hc]
theorem setsV_ok {r : Rp} (hv : r.Valid) (hc : r.canF ≠ []) : r.setsV = .tup [L r.setsL, .int .i64 0] := by simp [setsV, hv, hc]
theorem soundN_01 (l : List (Fin 64)) : soundN l = 0 ∨ soundN l = 1 ∨ soundN l = 2 := by
  cases l with
  | nil => exact .inl rfl
  | cons x l => simp only [soundN]; split <;> (try split) <;> simp
end Rp


end Go.Cw
end

/- The law Sets. -/
section
set_option maxRecDepth 100000
set_option linter.unusedSimpArgs false
namespace Go.Cw
open Go Go.Proofs



namespace Rp
theorem times_in {d : Drv} (hv : d.Valid) {l : List Int} (h : l ∈ d.truths) (i : Nat) : d.odo d.lo i ≤ d.odo (ofL l) i ∧ d.odo (ofL l) i ≤ d.odo d.hi i := by
  have ht := (hv.truth h).2
  exact ⟨Drv.odo_mono hv hv.lo_in (hv.truth_in h) (fun j hj => (ht j hj).1.1) i, Drv.odo_mono hv (hv.truth_in h) hv.hi_in (fun j hj => (ht j hj).1.2) i⟩
theorem opens_in {r : Rp} (hv : r.Valid) {t : List Int} (ht : t ∈ r.d.truths) : bitI .andNot .i64 (r.opn t) (bits r.d.canP r.n) = 0 ∧ bitI .andNot .i64 (bits r.d.sureP r.n) (r.opn t) = 0 := by
  have hn : r.n ≤ 60 := by have := hv.d.n6; have : r.d.n = r.n := rfl; omega
  have hin := fun i => times_in hv.d ht i
  unfold opn
  rw [bitsI_andNot _ _ hn, bitsI_andNot _ _ hn, bits_zero, bits_zero]
  constructor
  · intro i hi
    have := hin i
    simp only [Drv.canP, Drv.times_span hv.d]
    by_cases h : 0 < r.d.odo (ofL t) i
    · have : 0 < r.d.odo r.d.hi i := by omega
      simp [h, this]
    · simp [h]
  · intro i hi
    have := hin i
    simp only [Drv.sureP, Drv.times_span hv.d]
    by_cases h : 0 < r.d.odo r.d.lo i
    · have : 0 < r.d.odo (ofL t) i := by omega
      simp [h, this]
    · simp [h]
/-- What all functions tell. -/
theorem told {r : Rp} (hv : r.Valid) : ∃ e can sure sn, r.setsV = .tup [L r.setsL, .int .i64 e] ∧ r.openV = .tup [.int .i64 can, .int .i64 sure, .int .i64 e] ∧ r.soundV = .tup [.int .i64 sn, .int .i64 e] ∧
    ((e = 0 ∧ r.canF ≠ [] ∧ can = bits (anyS r.canF) 6 ∧ sure = bits (allS r.canF) 6 ∧ sn = soundN r.canF) ∨ (e = 10 ∧ r.canF = [] ∧ r.setsL = [] ∧ can = 0 ∧ sure = 0 ∧ sn = 0)) := by
  by_cases hc : r.canF = []
  · have hl := r.setsL_nil.1 hc
    exact ⟨10, 0, 0, 0, by simp [setsV, hv, hc, hl], by simp [openV, hv, hc], by simp [soundV, hv, hc], .inr ⟨rfl, hc, hl, rfl, rfl, rfl⟩⟩
  · exact ⟨0, _, _, _, setsV_ok hv hc, openV_ok hv hc, soundV_ok hv hc, .inl ⟨rfl, hc, rfl, rfl, rfl⟩⟩
theorem opensV_at {d : Drv} (hv : d.Valid) : d.opensV = .tup [.int .i64 (bits d.canP d.n), .int .i64 (bits d.sureP d.n), .int .i64 0] := by simp [Drv.opensV, hv]
def someB (l : List Int) : Int := bits (fun i => l.any fun x => inS x i) 6
def allB (n : Nat) (l : List Int) : Int := bits (fun i => decide (i < n) && l.all fun x => inS x i) 6
theorem someB_push (l : List Int) {x : Int} (hx : 0 ≤ x ∧ x < 2 ^ 6) : bitI .or .i64 (someB l) x = someB (l ++ [x]) := by
  unfold someB
  conv => lhs; rw [← bits_inS hx]
  rw [bitsI_or _ _ (by omega)]
  exact bits_congr fun i _ => by simp [bits_inS hx]
theorem allB_push (n : Nat) (l : List Int) {x : Int} (hx : 0 ≤ x ∧ x < 2 ^ 6) : bitI .and .i64 (allB n l) x = allB n (l ++ [x]) := by
  unfold allB
  conv => lhs; rw [← bits_inS hx]
  rw [bitsI_and _ _ (by omega)]
  exact bits_congr fun i _ => by simp [bits_inS hx, Bool.and_assoc]
theorem someB_all (r : Rp) : someB r.setsL = bits (anyS r.canF) 6 := by
  unfold someB anyS setsL
  exact bits_congr fun i _ => by rw [List.any_map]; rfl
theorem allB_all {r : Rp} (hv : r.Valid) (hc : r.canF ≠ []) : allB r.n r.setsL = bits (allS r.canF) 6 := by
  unfold allB
  refine bits_congr fun i _ => ?_
  have h : (r.setsL.all fun x => inS x i) = allS r.canF i := by unfold allS setsL; rw [List.all_map]; rfl
  rw [h]
  by_cases hi : i < r.n
  · simp [hi]
  · rw [allS_high hv hc (by omega)]; simp
theorem allB_nil {n : Nat} (hn : n ≤ 6) : allB n [] = 2 ^ n - 1 := by
  unfold allB
  rw [bits_more (n := n) hn fun i h1 h2 => by simp; omega, bits_congr (q := fun _ => true) fun i hi => by simp [hi], bits_all1]
theorem want_is {r : Rp} {x : Int} {m : List Int} (hl : r.setsL = x :: m) : soundN r.canF = if x = 0 then (if m = [] then 2 else 1) else 0 := by
  unfold setsL at hl
  cases hc : r.canF with
  | nil => rw [hc] at hl; simp at hl
  | cons y l =>
    rw [hc] at hl
    simp only [List.map_cons, List.cons.injEq] at hl
    obtain ⟨rfl, rfl⟩ := hl
    simp only [soundN]
    by_cases h0 : y.val = 0
    · have h0' : (y.val : Int) = 0 := by omega
      rw [if_pos h0, if_pos h0']
      by_cases hm : l = []
      · subst hm; rfl
      · rw [if_neg hm, if_neg (by simpa using hm)]
    · have h0' : ¬ (y.val : Int) = 0 := by omega
      rw [if_neg h0, if_neg h0']
end Rp


end Go.Cw
end

/- Copies of raps that grow; the law Fewest. -/
section
set_option maxRecDepth 100000
set_option linter.unusedSimpArgs false
namespace Go.Cw
open Go Go.Proofs

@[simp] theorem renL_rfs (r nm : Nat) (l : List (Int × Bool)) : renL r nm (rfs l) = rfs l := by
  induction l with
  | nil => rfl
  | cons a l ih =>
    show renL r nm (rfC a ++ rfs l) = rfC a ++ rfs l
    simp [rfC, ih]
/-- A copy of raps, in a rap, becomes a row that can grow. -/
theorem Sl.cpRaps {n : Nat} {K : KT} {tm : TM} {df : DF} {h : Heap} {a b c : AVal} (x R1 R2 : Nat) {sx r0 s0 s1 : Nat} {l : List (Int × Bool)} (hx : h x = .row [a, b, c, cpV 2 r0 s0 R1 s1 l.length] sx) (hR : h R1 = cpO l.length (rfs l) s1)
    (k1 : l = [] → Sl n K tm df (upd h x (.row [a, b, c, .es] sx))) (k2 : 0 < l.length → Sl n K (renT R1 R2 tm) df (renH R1 R2 (upd (upd h R1 .dead) R2 (.row (rfs l) s1)))) : Sl n K tm df h := by
  cases l with
  | nil =>
    refine Sl.rowLe (cells := [a, b, c, .sl r0 0 s0 0 (.ex 0)]) (s := sx) x [a, b, c, .es] (by simpa [cpV] using hx) ⟨ALe.refl _, ALe.refl _, ALe.refl _, ?_, trivial⟩ (k1 rfl)
    exact ALe.sl_es _ _ _
  | cons y l =>
    refine Sl.moveH R1 R2 ?_
    rw [hR]
    exact k2 (by simp)

namespace Rp
/-- Sharp raps on the first seams of a set. -/
def sharp (q : Int) (k : Nat) : List (Int × Bool) := ((List.range k).filter fun i => inS q i).map fun (i : Nat) => ((i : Int), false)
theorem sharp_succ (q : Int) (k : Nat) : sharp q (k + 1) = sharp q k ++ (if inS q k then [((k : Int), false)] else []) := by
  unfold sharp
  rw [List.range_succ, List.filter_append, List.map_append]
  congr 1
  by_cases h : inS q k = true
  · rw [if_pos h, List.filter_cons_of_pos h]; rfl
  · rw [if_neg h, List.filter_cons_of_neg h]; rfl
theorem sharp_len (q : Int) (k : Nat) : (sharp q k).length ≤ k := by
  unfold sharp
  rw [List.length_map]
  have := List.length_filter_le (fun i => inS q i) (List.range k)
  simpa using this
theorem mem_sharp {q : Int} {k : Nat} {x : Int × Bool} : x ∈ sharp q k ↔ ∃ i : Nat, i < k ∧ inS q i = true ∧ x = ((i : Int), false) := by
  unfold sharp
  simp only [List.mem_map, List.mem_filter, List.mem_range]
  constructor
  · rintro ⟨i, ⟨h1, h2⟩, rfl⟩; exact ⟨i, h1, h2, rfl⟩
  · rintro ⟨i, h1, h2, rfl⟩; exact ⟨i, ⟨h1, h2⟩, rfl⟩
/-- With sharp raps, too. -/
def shr (r : Rp) (q : Int) : Rp := r.of (r.rs ++ sharp q r.n)
theorem shr_valid {r : Rp} (hv : r.Valid) (h4 : r.k ≤ 4) (q : Int) : (r.shr q).Valid := by
  have hn6 : r.n ≤ 6 := hv.d.n6
  have hl := sharp_len q r.n
  refine hv.of ?_ fun x hx => ?_
  · have : r.rs.length = r.k := rfl
    rw [List.length_append]; omega
  · rcases List.mem_append.1 hx with h | h
    · exact hv.sm x h
    · obtain ⟨i, hi, _, rfl⟩ := mem_sharp.1 h
      have : r.d.n = r.n := rfl
      unfold Drv.Seam; simp; omega
theorem mem_shr {r : Rp} (hv : r.Valid) (h4 : r.k ≤ 4) (q o : Int) : o ∈ (r.shr q).setsL ↔ o ∈ r.setsL ∧ ∀ i, i < r.n → inS q i = true → r.hears o i = false := by
  rw [mem_sets (shr_valid hv h4 q), mem_sets hv]
  have e1 : (r.shr q).n = r.n := rfl
  have e2 : ∀ t, (r.shr q).opn t = r.opn t := fun t => rfl
  have e3 : (r.shr q).d = r.d := rfl
  have e4 : (r.shr q).fitA o = (r.fitA o && (sharp q r.n).all fun x => r.hears o x.1.toNat == x.2) := by
    unfold shr
    rw [fitA_of, List.all_append]; rfl
  rw [e1, e3, e4, Bool.and_eq_true, List.all_eq_true]
  constructor
  · rintro ⟨h1, h2, h3, h5⟩
    refine ⟨⟨h1, h2, h3⟩, fun i hi hq => ?_⟩
    have := h5 _ (mem_sharp.2 ⟨i, hi, hq, rfl⟩)
    simpa using this
  · rintro ⟨⟨h1, h2, h3⟩, h5⟩
    refine ⟨h1, h2, h3, fun x hx => ?_⟩
    obtain ⟨i, hi, hq, rfl⟩ := mem_sharp.1 hx
    simp [h5 i hi hq]
theorem shr_shows {r : Rp} (hv : r.Valid) (h4 : r.k ≤ 4) (q : Int) : r.showsP r.setsL q = decide ((r.shr q).canF = [] ∨ soundN (r.shr q).canF = 2) := by
  have hsv := shr_valid hv h4 q
  have key : r.showsP r.setsL q = true ↔ ∀ o ∈ (r.shr q).setsL, o = 0 := by
    unfold showsP
    rw [List.all_eq_true]
    constructor
    · intro h o ho
      obtain ⟨h1, h2⟩ := (mem_shr hv h4 q o).1 ho
      have := h o h1
      by_cases h0 : o = 0
      · exact h0
      · simp only [h0, decide_false, Bool.false_or, List.any_eq_true, List.mem_range, Bool.and_eq_true] at this
        obtain ⟨i, hi, a, b⟩ := this
        rw [h2 i hi a] at b; cases b
    · intro h o ho
      by_cases h0 : o = 0
      · simp [h0]
      · simp only [h0, decide_false, Bool.false_or, List.any_eq_true, List.mem_range, Bool.and_eq_true]
        refine Classical.byContradiction fun hc => h0 (h o ((mem_shr hv h4 q o).2 ⟨ho, fun i hi a => ?_⟩))
        cases hh : r.hears o i
        · rfl
        · exact absurd ⟨i, hi, a, hh⟩ hc
  rw [Bool.eq_iff_iff, key, decide_eq_true_eq]
  have hlt := (r.shr q).canF_lt
  unfold setsL
  cases hcf : (r.shr q).canF with
  | nil => simp
  | cons y m =>
    rw [hcf] at hlt
    simp only [List.mem_map, soundN]
    constructor
    · intro h
      have hy0 : y.val = 0 := by
        have := h (y.val : Int) ⟨y, by simp, rfl⟩
        omega
      have hm : m = [] := by
        cases m with
        | nil => rfl
        | cons z m =>
          have h1 := h (z.val : Int) ⟨z, by simp, rfl⟩
          have h2 := List.rel_of_pairwise_cons hlt (show z ∈ z :: m by simp)
          omega
      right; rw [if_pos hy0, if_pos hm]
    · rintro (h | h)
      · cases h
      · by_cases hy0 : y.val = 0
        · rw [if_pos hy0] at h
          by_cases hm : m = []
          · subst hm
            rintro o ⟨x, hx, rfl⟩
            simp only [List.mem_singleton] at hx
            subst hx; omega
          · rw [if_neg hm] at h; omega
        · rw [if_neg hy0] at h; omega
end Rp



/-- A set without one of its seams is smaller. -/
theorem less_one {n : Nat} (hn : n ≤ 60) {q : Int} (hq : 0 ≤ q ∧ q < 2 ^ n) {i : Nat} (hi : i < n) (hqi : inS q i = true) : ∃ p, bitI .andNot .i64 q (2 ^ i) = p ∧ (0 ≤ p ∧ p < 2 ^ n) ∧ sizeS p < sizeS q := by
  have e1 : bitI .andNot .i64 q (2 ^ i) = bits (fun j => inS q j && !decide (j = i)) n := by
    conv => lhs; rw [← bits_inS hq, ← bits_pow hi]
    exact bitsI_andNot _ _ hn
  refine ⟨_, e1, bits_lt _ _, ?_⟩
  rw [sizeS_n hn (bits_lt _ _), sizeS_n hn hq]
  refine sumN_lt (fun j hj => ?_) hi ?_
  · rw [inS_bits _ hj]
    cases inS q j <;> by_cases hji : j = i <;> simp [hji]
  · rw [inS_bits _ hi, hqi]; simp


end Go.Cw
end

/- The law Next. -/
section
set_option maxRecDepth 100000
set_option linter.unusedSimpArgs false
namespace Go.Cw
open Go Go.Proofs

theorem filter_both {α : Type} (p : α → Bool) (l : List α) : (l.filter p).length + (l.filter fun x => !p x).length = l.length := by
  induction l with
  | nil => rfl
  | cons a l ih =>
    cases h : p a
    · rw [List.filter_cons_of_neg (by simp [h]), List.filter_cons_of_pos (by simp [h])]; simp; omega
    · rw [List.filter_cons_of_pos h, List.filter_cons_of_neg (by simp [h])]; simp; omega
namespace Rp
theorem sets_fit {r : Rp} (hv : r.Valid) : r.setsL = (r.opL.map fun (i : Nat) => (i : Int)).filter r.fitA := by
  rw [sets_eq hv]
  unfold refL
  exact List.filter_congr fun x _ => r.fits_every x
theorem sets_of {r : Rp} (hv : r.Valid) {m : List (Int × Bool)} (hm : (r.of (r.rs ++ m)).Valid) : (r.of (r.rs ++ m)).setsL = r.setsL.filter fun o => m.all fun x => r.hears o x.1.toNat == x.2 := by
  rw [sets_fit hm, sets_fit hv, List.filter_filter]
  refine List.filter_congr fun o _ => ?_
  rw [fitA_of, List.all_append, Bool.and_comm]
  rfl
/-- With one rap more. -/
def one (r : Rp) (i : Nat) (d : Bool) : Rp := r.of (r.rs ++ [((i : Int), d)])
theorem one_valid {r : Rp} (hv : r.Valid) (hk : r.k < 10) {i : Nat} (hi : i < r.n) (d : Bool) : (r.one i d).Valid := by
  refine hv.of ?_ fun x hx => ?_
  · have : r.rs.length = r.k := rfl
    rw [List.length_append]; simp; omega
  · rcases List.mem_append.1 hx with h | h
    · exact hv.sm x h
    · simp only [List.mem_singleton] at h
      subst h
      have : r.d.n = r.n := rfl
      unfold Drv.Seam; simp; omega
theorem one_sets {r : Rp} (hv : r.Valid) (hk : r.k < 10) {i : Nat} (hi : i < r.n) (d : Bool) : (r.one i d).setsL = r.setsL.filter fun o => r.hears o i == d := by
  unfold one
  rw [sets_of hv (one_valid hv hk hi d)]
  refine List.filter_congr fun o _ => ?_
  simp
theorem one_true {r : Rp} (hv : r.Valid) (hk : r.k < 10) {i : Nat} (hi : i < r.n) : (r.one i true).setsL.length = cntD r.dl r.canF i := by
  rw [one_sets hv hk hi, r.cnt_eq _ hi]
  show _ = (r.setsL.filter fun x => r.hears x i).length
  congr 1
  refine List.filter_congr fun o _ => by simp
theorem one_false {r : Rp} (hv : r.Valid) (hk : r.k < 10) {i : Nat} (hi : i < r.n) : (r.one i false).setsL.length = r.setsL.length - cntD r.dl r.canF i := by
  have h := filter_both (fun o => r.hears o i) r.setsL
  have h1 := one_true hv hk hi
  rw [one_sets hv hk hi] at h1 ⊢
  have e1 : (r.setsL.filter fun o => r.hears o i == true) = r.setsL.filter fun o => r.hears o i := List.filter_congr fun o _ => by simp
  have e2 : (r.setsL.filter fun o => r.hears o i == false) = r.setsL.filter fun o => !r.hears o i := List.filter_congr fun o _ => by simp
  rw [e1] at h1
  rw [e2]
  omega
theorem setsV_e (r : Rp) (hv : r.Valid) : ∃ e, r.setsV = .tup [L r.setsL, .int .i64 e] ∧ (e = 0 ∨ e = 10) ∧ (e = 0 ↔ r.setsL ≠ []) := by
  by_cases hc : r.canF = []
  · have hl := r.setsL_nil.1 hc
    exact ⟨10, by simp [setsV, hv, hc, hl], .inr rfl, by simp [hl]⟩
  · exact ⟨0, setsV_ok hv hc, .inl rfl, by simp; exact mt r.setsL_nil.2 hc⟩
/-- How many sets can be open behind a rap, at worst. -/
noncomputable def aft (r : Rp) (i : Nat) : Int := max (cntD r.dl r.canF i : Int) (r.setsL.length - cntD r.dl r.canF i)
theorem cntD_le (dl : Fin 64 → Int) (l : List (Fin 64)) (i : Nat) : cntD dl l i ≤ l.length := List.length_filter_le _ _
end Rp



namespace Rp
theorem aft_g {r : Rp} (i : Nat) : (nextG r.dl r.canF (i : Int)).1 = r.aft i ∧ ((nextG r.dl r.canF (i : Int)).2 = true ↔ r.aft i < r.setsL.length) := by
  have hln : r.setsL.length = r.canF.length := r.setsL_length
  have hcl := cntD_le r.dl r.canF i
  unfold nextG aft
  simp only [Int.toNat_natCast, decide_eq_true_eq, hln]
  constructor
  · trivial
  · omega
/-- What Next tells. -/
theorem next_told {r : Rp} (hv : r.Valid) (hc : r.canF ≠ []) :
    (r.nextV = .tup [.int .i64 0, .int .i64 0, .int .i64 11] ∧ r.setsL.length = 1) ∨
    (r.nextV = .tup [.int .i64 0, .int .i64 0, .int .i64 4] ∧ 1 < r.setsL.length ∧ ∀ i, i < r.n → r.aft i = r.setsL.length) ∨
    (∃ (j : Nat) (m : Int), r.nextV = .tup [.int .i64 j, .int .i64 m, .int .i64 0] ∧ 1 < r.setsL.length ∧ j < r.n ∧ m < r.setsL.length ∧ r.aft j = m ∧ ∀ i, i < r.n → m < r.aft i ∨ (m = r.aft i ∧ j ≤ i)) := by
  have hln : r.setsL.length = r.canF.length := r.setsL_length
  have hpos := List.length_pos_iff.2 hc
  by_cases h1 : r.canF.length ≤ 1
  · exact .inl ⟨by simp [nextV, hv, hc, h1], by omega⟩
  have haft : ∀ i, r.aft i ≤ r.setsL.length := fun i => by have := cntD_le r.dl r.canF i; unfold aft; omega
  cases hB : r.nextB with
  | none =>
    refine .inr (.inl ⟨by simp [nextV, hv, hc, h1, hB], by omega, fun i hi => ?_⟩)
    have := bestC_none hB hi
    have h2 := (r.aft_g i).2
    rw [this] at h2
    have h3 := haft i
    have : ¬ r.aft i < r.setsL.length := fun h => by have := h2.2 h; cases this
    omega
  | some b =>
    obtain ⟨a1, a2, a3, a4, a5⟩ := bestC_min _ r.n b hB
    obtain ⟨j, hj⟩ : ∃ j : Nat, b.1 = j := ⟨b.1.toNat, by omega⟩
    have g1 := r.aft_g j
    rw [hj] at a1 a3 a4
    refine .inr (.inr ⟨j, b.2, by simp [nextV, hv, hc, h1, hB, hj], by omega, by omega, ?_, by rw [a1, g1.1], fun i hi => ?_⟩)
    · rw [a1, g1.1]; exact g1.2.1 a4
    · by_cases hlt : r.aft i < r.setsL.length
      · have := a5 i hi ((r.aft_g i).2.2 hlt)
        rw [(r.aft_g i).1, hj] at this
        omega
      · have := g1.2.1 a4
        rw [← g1.1, ← a1] at this
        omega
end Rp


end Go.Cw
end

/- The law Wrong. -/
section
set_option maxRecDepth 100000
set_option linter.unusedSimpArgs false
namespace Go.Cw
open Go Go.Proofs

namespace Rp
/-- The first raps that are not in a set. -/
def keep (r : Rp) (q : Int) : Nat → List (Int × Bool)
  | 0 => []
  | k + 1 => r.keep q k ++ (match r.rs[k]? with
    | some a => if inS q k then [] else [a]
    | none => [])
theorem keep_len (r : Rp) (q : Int) (k : Nat) : (r.keep q k).length ≤ k := by
  induction k with
  | zero => simp [keep]
  | succ k ih =>
    simp only [keep, List.length_append]
    cases r.rs[k]? with
    | none => simp; omega
    | some a => simp only; split <;> simp <;> omega
theorem keep_mem {r : Rp} {q : Int} {k : Nat} {x : Int × Bool} (h : x ∈ r.keep q k) : x ∈ r.rs := by
  induction k with
  | zero => simp [keep] at h
  | succ k ih =>
    simp only [keep, List.mem_append] at h
    rcases h with h | h
    · exact ih h
    · cases hk : r.rs[k]? with
      | none => simp [hk] at h
      | some a =>
        simp only [hk] at h
        split at h
        · simp at h
        · simp only [List.mem_singleton] at h
          subst h
          exact List.mem_of_getElem? hk
theorem keep_valid {r : Rp} (hv : r.Valid) (q : Int) : (r.of (r.keep q r.k)).Valid :=
  hv.of (by have := r.keep_len q r.k; have := hv.k10; omega) fun x hx => hv.sm x (keep_mem hx)
theorem inS_rest {r : Rp} {q : Int} (hq : 0 ≤ q ∧ q < 2 ^ r.k) {j : Nat} (hj : j < r.k) : inS (2 ^ r.k - 1 - q) j = !inS q j := by
  rw [← rest_sub hq]
  exact inS_bits _ hj
theorem keep_fit {r : Rp} {q : Int} (hq : 0 ≤ q ∧ q < 2 ^ r.k) (o : Int) : (r.of (r.keep q r.k)).fitA o = r.fits (2 ^ r.k - 1 - q) o := by
  rw [fitA_of]
  suffices h : ∀ k, k ≤ r.k → ((r.keep q k).all fun x => r.hears o x.1.toNat == x.2) = (List.range k).all fun j => !inS (2 ^ r.k - 1 - q) j || ((r.rs[j]?.map fun x => r.hears o x.1.toNat == x.2).getD true) from h r.k (Nat.le_refl _)
  intro k hk
  induction k with
  | zero => rfl
  | succ k ih =>
    have hkl : k < r.rs.length := hk
    simp only [keep, List.all_append, ih (by omega), List.range_succ, List.getElem?_eq_getElem hkl, List.all_cons, List.all_nil, Bool.and_true, Option.map_some, Option.getD_some, inS_rest hq (show k < r.k from hk), Bool.not_not]
    cases inS q k <;> simp
/-- Can some set be open, without some raps? -/
noncomputable def canB (r : Rp) (q : Int) : Bool := decide (r.refL (2 ^ r.k - 1 - q) ≠ [])
theorem keep_sets {r : Rp} (hv : r.Valid) {q : Int} (hq : 0 ≤ q ∧ q < 2 ^ r.k) : (r.of (r.keep q r.k)).setsL = r.refL (2 ^ r.k - 1 - q) := by
  rw [sets_fit (keep_valid hv q)]
  unfold refL
  exact List.filter_congr fun o _ => keep_fit hq o
theorem canB_all {r : Rp} (hv : r.Valid) (hc : r.setsL ≠ []) (q : Int) : r.canB q = true := by
  unfold canB
  rw [decide_eq_true_eq]
  obtain ⟨o, ho⟩ := List.exists_mem_of_ne_nil _ hc
  obtain ⟨h1, h2, h3⟩ := (mem_sets hv).1 ho
  refine List.ne_nil_of_mem (refL_mem.2 ⟨h1, h2, ?_⟩)
  unfold fits fitA at *
  rw [List.all_eq_true] at h3 ⊢
  intro j hj
  have hj' : j < r.rs.length := List.mem_range.1 hj
  rw [List.getElem?_eq_getElem hj']
  have := h3 r.rs[j] (List.getElem_mem hj')
  simp only [Option.map_some, Option.getD_some, this, Bool.or_true]
theorem canB_every {r : Rp} (hv : r.Valid) : r.canB (2 ^ r.k - 1) = true := by
  unfold canB
  rw [decide_eq_true_eq, Int.sub_self]
  obtain ⟨i, hi⟩ := List.exists_mem_of_ne_nil _ (opL_ne hv)
  refine List.ne_nil_of_mem (a := (i : Int)) ?_
  unfold refL
  exact List.mem_filter.2 ⟨List.mem_map.2 ⟨i, hi, rfl⟩, r.fits_zero _⟩
theorem wr_some {r : Rp} (hv : r.Valid) (hc : r.setsL = []) : ∃ b : Int, r.wrV = .tup [.int .i64 b, .int .i64 0] ∧ 1 ≤ b ∧ b < 2 ^ r.k ∧ r.canB b = true ∧ ∀ q, 0 ≤ q ∧ q < 2 ^ r.k → r.canB q = true → sizeS b < sizeS q ∨ (sizeS b = sizeS q ∧ b ≤ q) := by
  have hp := two_pow_pos r.k
  obtain ⟨N, hN⟩ : ∃ N : Nat, N = 2 ^ r.k := ⟨_, rfl⟩
  have hNi : (N : Int) = 2 ^ r.k := by rw [hN]; simp
  have hg : ∀ q, 0 ≤ q ∧ q < 2 ^ r.k → (r.wrG q).2 = r.canB q := fun q hq => wr_ok hv hq
  have hsome : r.wrB.isSome = true := by
    unfold wrB
    rw [← hN]
    refine bestC_some (x := 2 ^ r.k - 1) ?_ ?_
    · have : (2 : Int) ^ r.k - 1 = ((N - 1 : Nat) : Int) := by omega
      rw [this]
      exact List.mem_map.2 ⟨N - 1, List.mem_range.2 (by omega), rfl⟩
    · rw [hg _ (by omega)]; exact canB_every hv
  obtain ⟨b, hb⟩ := Option.isSome_iff_exists.1 hsome
  have hb' := hb
  unfold wrB at hb'
  rw [← hN] at hb'
  obtain ⟨h1, h2, h3, h4, h5⟩ := bestC_min _ N b hb'
  have hbr : 0 ≤ b.1 ∧ b.1 < 2 ^ r.k := by omega
  rw [hg _ hbr] at h4
  have hb0 : b.1 ≠ 0 := fun e => by
    rw [e] at h4
    unfold canB at h4
    rw [Int.sub_zero, ← sets_eq hv, hc] at h4
    simp at h4
  refine ⟨b.1, by simp [wrV, hv, hb, hb0], by omega, hbr.2, h4, fun q hq hs => ?_⟩
  obtain ⟨k, rfl⟩ : ∃ k : Nat, q = k := ⟨q.toNat, by omega⟩
  have := h5 k (by omega) (by rw [hg _ hq]; exact hs)
  have e1 : (r.wrG b.1).1 = sizeS b.1 := rfl
  have e2 : (r.wrG (k : Int)).1 = sizeS k := rfl
  rw [h1, e1, e2] at this
  exact this
end Rp




end Go.Cw
end

/- Seams of a drive that are numbered from the other end. -/
section
set_option maxRecDepth 100000
set_option linter.unusedSimpArgs false
namespace Go.Cw
open Go Go.Proofs

/-- Nothing from n on. -/
def Zn (n : Nat) (c : Nat → Int) : Prop := ∀ j, n ≤ j → c j = 0
theorem Zn.eq {n : Nat} {c : Nat → Int} (h : Zn n c) : ofL (tab n c) = c := by
  funext j
  by_cases hj : j < n
  · rw [← ofL_at _ (by simpa using hj)]; simp
  · rw [ofL_none _ (by simp; omega), h j (by omega)]
theorem Zn.ofL {n : Nat} {l : List Int} (h : l.length = n) : Zn n (ofL l) := fun j hj => ofL_none l (by omega)

namespace Drv
theorem Valid.nodup {d : Drv} (hv : d.Valid) : d.beside.Nodup := by
  rw [List.Nodup, List.pairwise_iff_getElem]
  intro i j hi hj hij he
  exact (hv.pr j d.beside[j] (by simp [hj])).2.2.2 i hij (by simp [hi, he])
/-- Blows, numbered from the other end. -/
def mirC (n : Nat) (c : Nat → Int) : Nat → Int := fun j => if j < n then c (n - 1 - j) else 0
def mir (d : Drv) : Drv := ⟨tab d.n (fun j => d.lim (d.n - 1 - j)), d.beside.map fun p => ((d.n : Int) - 1 - p.2, (d.n : Int) - 1 - p.1), (List.range d.n).map fun j => (d.lo (d.n - 1 - j), d.hi (d.n - 1 - j))⟩

theorem mir_n (d : Drv) : d.mir.n = d.n := by simp [mir, n]
theorem mirC_zn (n : Nat) (c : Nat → Int) : Zn n (mirC n c) := fun j hj => if_neg (by omega)
theorem mirC_at {n : Nat} {c : Nat → Int} {j : Nat} (hj : j < n) : mirC n c (n - 1 - j) = c j := by
  unfold mirC; rw [if_pos (by omega), show n - 1 - (n - 1 - j) = j by omega]
theorem mirC_lt {n : Nat} {c : Nat → Int} {j : Nat} (hj : j < n) : mirC n c j = c (n - 1 - j) := if_pos hj
theorem mirC_mirC {n : Nat} {c : Nat → Int} (hz : Zn n c) : mirC n (mirC n c) = c := by
  funext j
  by_cases hj : j < n
  · rw [mirC_lt hj, mirC_lt (by omega), show n - 1 - (n - 1 - j) = j by omega]
  · rw [mirC_zn n _ j (by omega), hz j (by omega)]

theorem mir_lim (d : Drv) {j : Nat} (hj : j < d.n) : d.mir.lim j = d.lim (d.n - 1 - j) := by
  simp [lim, mir, List.getD_eq_getElem?_getD, hj]
theorem mir_lo {d : Drv} : d.mir.lo = mirC d.n d.lo ∧ d.mir.hi = mirC d.n d.hi := by
  constructor <;> funext j <;> simp only [Drv.lo, Drv.hi, mir, List.getD_eq_getElem?_getD, List.getElem?_map] <;> by_cases hj : j < d.n
  · rw [mirC_lt hj, List.getElem?_range hj]; rfl
  · rw [mirC_zn _ _ _ (by omega), List.getElem?_eq_none (by simp; omega)]; rfl
  · rw [mirC_lt hj, List.getElem?_range hj]; rfl
  · rw [mirC_zn _ _ _ (by omega), List.getElem?_eq_none (by simp; omega)]; rfl

theorem mir_cnt {d : Drv} {i j : Nat} (hi : i < d.n) (hj : j < d.n) : d.mir.cnt i j = d.cnt (d.n - 1 - i) (d.n - 1 - j) := by
  unfold cnt cntL mir
  simp only [List.countP_map]
  refine List.countP_congr fun p _ => ?_
  simp only [Function.comp, Bool.or_eq_true, decide_eq_true_eq, Prod.ext_iff]
  constructor
  · rintro (⟨h1, h2⟩ | ⟨h1, h2⟩)
    · right; constructor <;> omega
    · left; constructor <;> omega
  · rintro (⟨h1, h2⟩ | ⟨h1, h2⟩)
    · right; constructor <;> omega
    · left; constructor <;> omega

theorem mir_deg {d : Drv} {j : Nat} (hj : j < d.n) : d.mir.deg j = d.deg ((d.n - 1 - j : Nat) : Int) := by
  unfold deg mir
  simp only [List.countP_map]
  refine List.countP_congr fun p _ => ?_
  simp only [Function.comp, Bool.or_eq_true, decide_eq_true_eq]
  constructor
  · rintro (h | h)
    · right; omega
    · left; omega
  · rintro (h | h)
    · right; omega
    · left; omega

theorem mir_valid {d : Drv} (hv : d.Valid) : d.mir.Valid := by
  have hn := mir_n d
  have hn1 := hv.n1
  have hnd : d.mir.beside.Nodup := by
    show List.Pairwise (· ≠ ·) (d.beside.map _)
    rw [List.pairwise_map]
    refine List.Pairwise.imp ?_ hv.nodup
    intro a b hab h
    simp only [Prod.ext_iff] at h
    exact hab (Prod.ext (by omega) (by omega))
  refine ⟨by rw [hn]; exact hv.n1, by rw [hn]; exact hv.n6, by rw [hn]; simp [mir], fun i p hp => ?_, fun i l s hl hs => ?_⟩
  · have hm : p ∈ d.mir.beside := List.mem_of_getElem? hp
    obtain ⟨q, hq, rfl⟩ := List.mem_map.1 hm
    obtain ⟨k, hk, rfl⟩ := List.getElem_of_mem hq
    obtain ⟨h1, h2, h3, _⟩ := hv.pr k d.beside[k] (by simp [hk])
    unfold Seam at h1 h2 ⊢
    rw [hn]
    refine ⟨by simp only; omega, by simp only; omega, by simp only; omega, fun j hj he => ?_⟩
    have := List.pairwise_iff_getElem.1 hnd j i (List.getElem?_eq_some_iff.1 he).1 (List.getElem?_eq_some_iff.1 hp).1 hj
    exact this ((List.getElem?_eq_some_iff.1 he).2.trans (List.getElem?_eq_some_iff.1 hp).2.symm)
  · have hi : i < d.n := by
      have := (List.getElem?_eq_some_iff.1 hl).1
      simpa [mir] using this
    have h0 : d.n - 1 - i < d.n := by omega
    simp only [mir, tab_get, if_pos hi, Option.some.injEq] at hl
    simp only [mir, List.getElem?_map, List.getElem?_range hi, Option.map_some, Option.some.injEq] at hs
    subst hl; subst hs
    rw [mir_deg hi]
    have hlm := hv.lim_pos h0
    have hlh := hv.lohi (d.n - 1 - i)
    have hsm := hv.sm (d.n - 1 - i) (d.lim (d.n - 1 - i)) (d.lo (d.n - 1 - i), d.hi (d.n - 1 - i)) (d.lim_get h0) (by
      have : d.n - 1 - i < d.blows.length := by rw [hv.bl]; exact h0
      simp [Drv.lo, Drv.hi, this])
    exact hsm

theorem mir_small {d : Drv} (hd : d.Small) : d.mir.Small := ⟨by have := hd.l; simp [mir]; exact this, by have := hd.p; simpa [mir] using this, by have := hd.l; simp [mir]; exact this⟩

theorem mir_fire {d : Drv} (hv : d.Valid) {i : Nat} (hi : i < d.n) (c : Nat → Int) : d.mir.fire (d.n - 1 - i) (mirC d.n c) = mirC d.n (d.fire i c) := by
  have hw := mir_valid hv
  funext j
  unfold fire
  by_cases hj : j < d.n
  · rw [mirC_lt hj, mirC_lt hj, mir_cnt (by omega) hj, show d.n - 1 - (d.n - 1 - i) = i by omega]
    by_cases h : j = d.n - 1 - i
    · rw [if_pos h, if_pos (by omega), mir_lim d (by omega), show d.n - 1 - (d.n - 1 - i) = i by omega]
    · rw [if_neg h, if_neg (by omega)]
  · rw [mirC_zn _ _ _ (by omega), mirC_zn _ _ _ (by omega), if_neg (by omega), cnt_none hw _ (by rw [mir_n]; omega)]; rfl

theorem mir_seq {d : Drv} (hv : d.Valid) {c c' : Nat → Int} {l : List Nat} (s : Seq d c l c') : Seq d.mir (mirC d.n c) (l.map fun i => d.n - 1 - i) (mirC d.n c') := by
  induction s with
  | nil => exact .nil
  | @cons c c' i l hi hc r ih =>
    refine .cons (by show d.n - 1 - i < d.mir.n; rw [mir_n]; omega) ?_ ?_
    · show d.mir.lim (d.n - 1 - i) ≤ mirC d.n c (d.n - 1 - i)
      rw [mir_lim d (show d.n - 1 - i < d.n by omega), mirC_at hi, show d.n - 1 - (d.n - 1 - i) = i by omega]; exact hc
    · rw [mir_fire hv hi]; exact ih

theorem mir_in {d : Drv} (hv : d.Valid) {c : Nat → Int} {m : Int} (hm : 0 ≤ m) (h : ∀ j, j < d.n → 0 ≤ c j ∧ c j ≤ m) : d.mir.In (6 * m) (mirC d.n c) :=
  In.of_le (mir_valid hv) (fun j hj => by rw [mir_n] at hj; rw [mirC_lt hj]; exact h _ (by omega)) hm

theorem mir_rest {d : Drv} (hv : d.Valid) {c : Nat → Int} {m : Int} (hm : 0 ≤ m) (h : ∀ j, j < d.n → 0 ≤ c j ∧ c j ≤ m) : d.mir.left (mirC d.n c) = mirC d.n (d.left c) ∧ ∀ j, j < d.n → d.mir.odo (mirC d.n c) (d.n - 1 - j) = d.odo c j := by
  have hin := In.of_le hv h hm
  obtain ⟨l, s, st, ho⟩ := hin.rest hv
  have hst : d.mir.Stable (mirC d.n (d.left c)) := fun j hj => by
    rw [mir_n] at hj
    rw [mirC_lt hj, mir_lim d hj]
    exact st _ (by omega)
  obtain ⟨h1, h2⟩ := (mir_seq hv s).rest (mir_valid hv) (mir_in hv hm h) hst
  refine ⟨h2.symm, fun j hj => ?_⟩
  rw [← h1, ho]
  unfold times
  rw [List.countP_map]
  congr 1
  refine List.countP_congr fun i hi => ?_
  have := s.mem i hi
  simp only [Function.comp, beq_iff_eq]
  omega

theorem mir_truth {d : Drv} (hv : d.Valid) {l : List Int} (h : l ∈ d.truths) : tab d.n (mirC d.n (ofL l)) ∈ d.mir.truths := by
  obtain ⟨h1, h2⟩ := hv.mem.1 h
  refine (mir_valid hv).mem.2 ⟨by simp [mir_n], fun j hj => ?_⟩
  rw [mir_n] at hj
  rw [mir_lo.1, mir_lo.2, (mirC_zn d.n (ofL l)).eq, mirC_lt hj, mirC_lt hj, mirC_lt hj]
  exact h2 _ (by omega)

theorem lohi_zn {d : Drv} (hv : d.Valid) : Zn d.n d.lo ∧ Zn d.n d.hi := by
  constructor <;> intro j hj <;> have : d.blows.length ≤ j := (by rw [hv.bl]; exact hj) <;> simp [Drv.lo, Drv.hi, this]

theorem truth_mir {d : Drv} (hv : d.Valid) {l : List Int} (h : l ∈ d.mir.truths) : ∃ l', l' ∈ d.truths ∧ ofL l = mirC d.n (ofL l') := by
  obtain ⟨h1, h2⟩ := (mir_valid hv).mem.1 h
  rw [mir_n] at h1 h2
  have hz : Zn d.n (ofL l) := Zn.ofL h1
  refine ⟨tab d.n (mirC d.n (ofL l)), hv.mem.2 ⟨by simp, fun j hj => ?_⟩, ?_⟩
  · rw [(mirC_zn d.n (ofL l)).eq, mirC_lt hj]
    have := h2 (d.n - 1 - j) (by omega)
    rw [mir_lo.1, mir_lo.2, mirC_at hj, mirC_at hj] at this
    exact this
  · rw [(mirC_zn d.n (ofL l)).eq, mirC_mirC hz]
end Drv
end Go.Cw
end

/- Raps of seams that are numbered from the other end. -/
section
set_option maxRecDepth 100000
set_option linter.unusedSimpArgs false
namespace Go.Cw
open Go Go.Proofs

theorem sumN_front (n : Nat) (c : Nat → Int) : sumN (n + 1) c = c 0 + sumN n fun i => c (i + 1) := by
  induction n with
  | zero => simp [sumN]
  | succ n ih =>
    rw [sumN, ih]
    simp only [sumN]
    omega
theorem sumN_eq {n : Nat} {c d : Nat → Int} (h : ∀ i, i < n → c i = d i) : sumN n c = sumN n d := by
  induction n with
  | zero => rfl
  | succ n ih => simp only [sumN]; rw [ih fun i hi => h i (by omega), h n (by omega)]
theorem sumN_rev (n : Nat) : ∀ c : Nat → Int, sumN n (fun i => c (n - 1 - i)) = sumN n c := by
  induction n with
  | zero => intro c; rfl
  | succ n ih =>
    intro c
    rw [sumN_front n c, ← ih fun i => c (i + 1)]
    simp only [sumN]
    rw [show n + 1 - 1 - n = 0 by omega, Int.add_comm]
    congr 1
    refine sumN_eq fun i hi => ?_
    rw [show n + 1 - 1 - i = n - 1 - i + 1 by omega]

/-- A set of seams that are numbered from the other end. -/
def revS (n : Nat) (q : Int) : Int := bits (fun i => inS q (n - 1 - i)) n
theorem revS_lt (n : Nat) (q : Int) : 0 ≤ revS n q ∧ revS n q < 2 ^ n := bits_lt _ _
theorem inS_revS {n : Nat} (q : Int) {i : Nat} (hi : i < n) : inS (revS n q) i = inS q (n - 1 - i) := inS_bits _ hi
theorem inS_revS' {n : Nat} (q : Int) {i : Nat} (hi : i < n) : inS (revS n q) (n - 1 - i) = inS q i := by
  rw [inS_revS q (by omega), show n - 1 - (n - 1 - i) = i by omega]
theorem revS_revS {n : Nat} {q : Int} (hq : 0 ≤ q ∧ q < 2 ^ n) : revS n (revS n q) = q := by
  conv => rhs; rw [← bits_inS hq]
  exact bits_congr fun i hi => inS_revS' q hi
theorem revS_zero (n : Nat) : revS n 0 = 0 := bits_zero.2 fun i _ => Rp.inS_zero _
theorem revS_size {n : Nat} (hn : n ≤ 60) {q : Int} (hq : 0 ≤ q ∧ q < 2 ^ n) : sizeS (revS n q) = sizeS q := by
  rw [sizeS_n hn (revS_lt n q), sizeS_n hn hq, ← sumN_rev n fun i => if inS q i then 1 else 0]
  exact sumN_eq fun i hi => by rw [inS_revS q hi]

namespace Rp
/-- The rap with its seams numbered from the other end. -/
def turn (r : Rp) : Rp := ⟨r.d.mir, r.rs.map fun x => ((r.n : Int) - 1 - x.1, x.2)⟩
theorem turn_n (r : Rp) : r.turn.n = r.n := r.d.mir_n
theorem turn_valid {r : Rp} (hv : r.Valid) : r.turn.Valid := by
  refine ⟨Drv.mir_valid hv.d, by have := hv.k10; unfold k turn at *; simpa using this, fun x hx => ?_⟩
  obtain ⟨y, hy, rfl⟩ := List.mem_map.1 hx
  have := hv.seam hy
  have e : r.turn.d.n = r.n := r.d.mir_n
  unfold Drv.Seam
  rw [e]
  simp only
  omega
theorem turn_small {r : Rp} (hs : r.Small) : r.turn.Small := ⟨Drv.mir_small hs.d, by have := hs.k; unfold turn; simpa using this⟩
theorem turn_near {r : Rp} {i j : Nat} (hi : i < r.n) (hj : j < r.n) : r.turn.near (r.n - 1 - i) (r.n - 1 - j) = r.near i j := by
  have e : r.d.n = r.n := rfl
  unfold near nearL turn Drv.mir
  rw [Bool.eq_iff_iff]
  simp only [Bool.or_eq_true, decide_eq_true_eq, List.any_eq_true, List.mem_map]
  constructor
  · rintro (h | ⟨p, ⟨q, hq, rfl⟩, h⟩)
    · exact .inl (by omega)
    · refine .inr ⟨q, hq, ?_⟩
      simp only [Prod.ext_iff] at h ⊢
      rcases h with h | h
      · exact .inr (by omega)
      · exact .inl (by omega)
  · rintro (h | ⟨q, hq, h⟩)
    · exact .inl (by omega)
    · refine .inr ⟨_, ⟨q, hq, rfl⟩, ?_⟩
      simp only [Prod.ext_iff] at h ⊢
      rcases h with h | h
      · exact .inr (by omega)
      · exact .inl (by omega)
theorem turn_hears {r : Rp} (o : Int) {i : Nat} (hi : i < r.n) : r.turn.hears (revS r.n o) (r.n - 1 - i) = r.hears o i := by
  rw [Bool.eq_iff_iff, hears_iff, hears_iff, turn_n]
  constructor
  · rintro ⟨j, hj, h1, h2⟩
    refine ⟨r.n - 1 - j, by omega, by rw [← inS_revS o hj]; exact h1, ?_⟩
    rw [← turn_near hi (show r.n - 1 - j < r.n by omega), show r.n - 1 - (r.n - 1 - j) = j by omega]
    exact h2
  · rintro ⟨j, hj, h1, h2⟩
    exact ⟨r.n - 1 - j, by omega, by rw [inS_revS' o hj]; exact h1, by rw [turn_near hi hj]; exact h2⟩
theorem turn_opn {r : Rp} (hv : r.Valid) {t : List Int} (ht : t ∈ r.d.truths) : r.turn.opn (tab r.n (Drv.mirC r.n (ofL t))) = revS r.n (r.opn t) := by
  have e : r.d.n = r.n := rfl
  have h := (Drv.mir_rest hv.d (m := 12) (c := ofL t) (by omega) fun j hj => ((hv.d.truth ht).2 j hj).2).2
  unfold opn revS
  rw [turn_n]
  refine bits_congr fun i hi => ?_
  rw [inS_bits _ (show r.n - 1 - i < r.n by omega)]
  have h1 := h (r.n - 1 - i) (by omega)
  rw [e, show r.n - 1 - (r.n - 1 - i) = i by omega] at h1
  rw [(Drv.mirC_zn r.n (ofL t)).eq]
  show decide (0 < r.d.mir.odo (Drv.mirC r.n (ofL t)) i) = _
  rw [h1]
theorem turn_fit {r : Rp} (hv : r.Valid) (o : Int) : r.turn.fitA (revS r.n o) = r.fitA o := by
  unfold fitA turn
  rw [List.all_map]
  have key : ∀ x ∈ r.rs, (r.turn.hears (revS r.n o) ((r.n : Int) - 1 - x.1).toNat == x.2) = (r.hears o x.1.toNat == x.2) := fun x hx => by
    have := hv.seam hx
    rw [show ((r.n : Int) - 1 - x.1).toNat = r.n - 1 - x.1.toNat by omega, turn_hears o this.2]
  rw [Bool.eq_iff_iff, List.all_eq_true, List.all_eq_true]
  exact ⟨fun h x hx => by rw [← key x hx]; exact h x hx, fun h x hx => by have := h x hx; rw [← key x hx] at this; exact this⟩
theorem turn_mem {r : Rp} (hv : r.Valid) {o : Int} (ho : o ∈ r.setsL) : revS r.n o ∈ r.turn.setsL := by
  obtain ⟨h1, ⟨t, ht, hto⟩, h3⟩ := (mem_sets hv).1 ho
  refine (mem_sets (turn_valid hv)).2 ⟨by rw [turn_n]; exact revS_lt _ _, ⟨_, Drv.mir_truth hv.d ht, ?_⟩, by rw [turn_fit hv]; exact h3⟩
  rw [← hto]
  exact turn_opn hv ht
theorem mem_turn {r : Rp} (hv : r.Valid) {o : Int} (ho : o ∈ r.turn.setsL) : revS r.n o ∈ r.setsL ∧ revS r.n (revS r.n o) = o := by
  obtain ⟨h1, ⟨t, ht, hto⟩, h3⟩ := (mem_sets (turn_valid hv)).1 ho
  rw [turn_n] at h1
  have hoo := revS_revS h1
  obtain ⟨t', ht', e⟩ := Drv.truth_mir hv.d ht
  have hlen := ((Drv.mir_valid hv.d).truth ht).1
  have het : t = tab r.n (Drv.mirC r.n (ofL t')) := by
    rw [Drv.mir_n] at hlen
    have hlen' : t.length = r.n := hlen
    have e' : ofL t = Drv.mirC r.n (ofL t') := e
    rw [← e', ← hlen', ofL_tab]
  have h4 := turn_opn hv ht'
  rw [← het, hto] at h4
  have h5 : revS r.n o = r.opn t' := by rw [h4, revS_revS (r.opn_lt t')]
  refine ⟨(mem_sets hv).2 ⟨revS_lt _ _, ⟨t', ht', h5.symm⟩, ?_⟩, hoo⟩
  rw [← turn_fit hv, hoo]; exact h3
theorem turn_perm {r : Rp} (hv : r.Valid) : r.turn.setsL.Perm (r.setsL.map (revS r.n)) := by
  have n1 : r.turn.setsL.Nodup := (sets_lt (turn_valid hv)).imp fun h => Int.ne_of_lt h
  have n2 : (r.setsL.map (revS r.n)).Nodup := by
    refine List.pairwise_map.2 (List.Pairwise.imp_of_mem (fun {x y} hx hy hlt h => ?_) (sets_lt hv))
    have := congrArg (revS r.n) h
    rw [revS_revS (setsL_mem hv hx), revS_revS (setsL_mem hv hy)] at this
    omega
  refine (List.perm_ext_iff_of_nodup n1 n2).2 fun o => ?_
  rw [List.mem_map]
  constructor
  · intro h
    have := mem_turn hv h
    exact ⟨_, this.1, this.2⟩
  · rintro ⟨x, hx, rfl⟩; exact turn_mem hv hx
theorem turn_len {r : Rp} (hv : r.Valid) : r.turn.setsL.length = r.setsL.length := by
  rw [(turn_perm hv).length_eq, List.length_map]
theorem sound_mem {r : Rp} (hv : r.Valid) (hc : r.setsL ≠ []) : soundN r.canF = if (0 : Int) ∈ r.setsL then (if r.setsL.length = 1 then 2 else 1) else 0 := by
  obtain ⟨x, m, hxm⟩ : ∃ x m, r.setsL = x :: m := by
    cases h : r.setsL with
    | nil => exact absurd h hc
    | cons x m => exact ⟨x, m, rfl⟩
  have hlt := sets_lt hv
  have hx := setsL_mem hv (show x ∈ r.setsL by rw [hxm]; simp)
  rw [want_is hxm]
  rw [hxm] at hlt ⊢
  have h0 : (0 : Int) ∈ x :: m ↔ x = 0 := by
    constructor
    · intro h
      rcases List.mem_cons.1 h with h | h
      · exact h.symm
      · have := List.rel_of_pairwise_cons hlt h; omega
    · rintro rfl; simp
  by_cases hx0 : x = 0
  · rw [if_pos hx0, if_pos (h0.2 hx0)]
    cases m <;> simp
  · rw [if_neg hx0, if_neg (mt h0.1 hx0)]
theorem turn_sound {r : Rp} (hv : r.Valid) : r.turn.soundV = r.soundV := by
  have hvt := turn_valid hv
  have hl := turn_len hv
  have h0 : (0 : Int) ∈ r.turn.setsL ↔ (0 : Int) ∈ r.setsL := by
    constructor
    · intro h; have := (mem_turn hv h).1; rwa [revS_zero] at this
    · intro h; have := turn_mem hv h; rwa [revS_zero] at this
  by_cases hc : r.canF = []
  · have hs := r.setsL_nil.1 hc
    have hs2 : r.turn.setsL = [] := List.eq_nil_of_length_eq_zero (by rw [hl, hs]; rfl)
    simp [soundV, hv, hvt, hc, r.turn.setsL_nil.2 hs2]
  · have hs := mt r.setsL_nil.2 hc
    have hs2 : r.turn.setsL ≠ [] := fun h => hs (List.eq_nil_of_length_eq_zero (by rw [← hl, h]; rfl))
    rw [soundV_ok hv hc, soundV_ok hvt (mt r.turn.setsL_nil.1 hs2), sound_mem hv hs, sound_mem hvt hs2, hl]
    simp only [h0]
theorem turn_shows {r : Rp} (hv : r.Valid) (q : Int) : r.turn.showsP r.turn.setsL (revS r.n q) = r.showsP r.setsL q := by
  have hone : ∀ o, (decide (revS r.n o = 0) = decide (o = 0)) → ((decide (revS r.n o = 0) || (List.range r.turn.n).any fun s => inS (revS r.n q) s && r.turn.hears (revS r.n o) s) = (decide (o = 0) || (List.range r.n).any fun s => inS q s && r.hears o s)) := fun o h0 => by
    rw [h0, turn_n]
    congr 1
    rw [Bool.eq_iff_iff, List.any_eq_true, List.any_eq_true]
    constructor
    · rintro ⟨s, hs, h⟩
      have hs' := List.mem_range.1 hs
      refine ⟨r.n - 1 - s, List.mem_range.2 (by omega), ?_⟩
      rw [← inS_revS q hs', ← turn_hears o (show r.n - 1 - s < r.n by omega), show r.n - 1 - (r.n - 1 - s) = s by omega]
      exact h
    · rintro ⟨s, hs, h⟩
      have hs' := List.mem_range.1 hs
      refine ⟨r.n - 1 - s, List.mem_range.2 (by omega), ?_⟩
      rw [inS_revS' q hs', turn_hears o hs']
      exact h
  have hz : ∀ o, 0 ≤ o ∧ o < 2 ^ r.n → decide (revS r.n o = 0) = decide (o = 0) := fun o ho => by
    rw [Bool.eq_iff_iff, decide_eq_true_eq, decide_eq_true_eq]
    constructor
    · intro h; have := congrArg (revS r.n) h; rwa [revS_revS ho, revS_zero] at this
    · rintro rfl; exact revS_zero _
  unfold showsP
  rw [Bool.eq_iff_iff, List.all_eq_true, List.all_eq_true]
  constructor
  · intro h o ho
    have := h _ (turn_mem hv ho)
    rwa [hone o (hz o (setsL_mem hv ho))] at this
  · intro h o ho
    obtain ⟨h1, h2⟩ := mem_turn hv ho
    have := h _ h1
    rw [← hone _ (hz _ (setsL_mem hv h1)), h2] at this
    exact this
theorem turn_few {r : Rp} (hv : r.Valid) : ∃ a b c e, r.fewV = .tup [.int .i64 a, .int .i64 b, .int .i64 e] ∧ r.turn.fewV = .tup [.int .i64 a, .int .i64 c, .int .i64 e] ∧ ∃ l, r.setsV = .tup [l, .int .i64 e] := by
  have hvt := turn_valid hv
  have hl := turn_len hv
  by_cases hc : r.canF = []
  · have hs := r.setsL_nil.1 hc
    have hs2 : r.turn.setsL = [] := List.eq_nil_of_length_eq_zero (by rw [hl, hs]; rfl)
    exact ⟨0, 0, 0, 10, by simp [fewV, hv, hc], by simp [fewV, hvt, r.turn.setsL_nil.2 hs2], _, by simp [setsV, hv, hc]; rfl⟩
  · have hs := mt r.setsL_nil.2 hc
    have hs2 : r.turn.setsL ≠ [] := fun h => hs (List.eq_nil_of_length_eq_zero (by rw [← hl, h]; rfl))
    have hn6 : r.n ≤ 6 := hv.d.n6
    obtain ⟨b, _, b2, b3, b4, b5, b6⟩ := few_some hv hc
    obtain ⟨c, _, c2, c3, c4, c5, c6⟩ := few_some hvt (mt r.turn.setsL_nil.1 hs2)
    rw [turn_n] at c4 c6
    have k1 := c6 (revS r.n b.1) (revS_lt _ _) (by rw [turn_shows hv]; exact b5)
    have k2 := b6 (revS r.n c.1) (revS_lt _ _) (by rw [← turn_shows hv, revS_revS c4]; exact c5)
    rw [revS_size (by omega) b4] at k1
    rw [revS_size (by omega) c4] at k2
    have : b.2 = c.2 := by omega
    exact ⟨b.2, b.1, c.1, 0, b2, by rw [c2, this], _, setsV_ok hv hc⟩
end Rp
end Go.Cw
end

/- Sets as a row that can be written; plain words for the law Turned. -/
section
set_option maxRecDepth 100000
set_option linter.unusedSimpArgs false
namespace Go.Cw
open Go Go.Proofs

theorem rap_Sets_gen (r : Rp) (hs : r.Small) (hv : r.Valid) (hc : r.canF ≠ []) (K : AEnd → Heap → Prop)
    (hK : ∀ s', K (.ret (.tup [.sl 900 0 s' r.setsL.length (.gr 1), .int .i64 0])) (hpV [(900, .row (ints r.setsL) s')])) : ACalls Pg fn_rap_Sets [r.v] (hpV [(900, .dead)]) K := by
  obtain ⟨l, hl⟩ : ∃ l, l = r.canF := ⟨_, rfl⟩
  obtain ⟨H, hH⟩ : ∃ H, H = r.H := ⟨_, rfl⟩
  have hl729 : l.length ≤ 729 := by rw [hl]; exact r.canF_len hv
  have hlp : 0 < l.length := by rw [hl]; exact List.length_pos_iff.2 hc
  have cO := rap_open_ok r hs hv
  have cC := rap_hull_can_ok r hs hv hc
  rw [← hH] at cO cC
  rw [← hl] at cC
  refine rap_Sets.enter 0 (by simp) ?_
  simp
  intro s1 s2
  refine FCall.pure (PInv.func cO) ?_
  simp
  refine FCall.pure (PInv.func cC) ?_
  simp
  obtain ⟨g, hg⟩ : ∃ g : Nat → List Int, g = fun k => (l.take k).map fun x => (x.val : Int) := ⟨_, rfl⟩
  have hgl : ∀ k, k ≤ l.length → (g k).length = k := fun k hk => by rw [hg]; simp; omega
  have hg0 : g 0 = [] := by rw [hg]; rfl
  refine Lp.intro' (σ := Nat × Nat) (inv := fun x => x.1 ≤ l.length)
    (vw := fun x => [(2, .nils), (3, .ptr 3 0 (s2+1)), (4, gS 1 21 (g x.1).length x.2), (10, LF r.dl l), (11, .int .i64 l.length), (12, .int .i64 x.1)])
    (hp := fun x => [(3, .row [.int .i64 0] (s2+1)), (21, gO (g x.1).length (ints (g x.1)) x.2)]) (ms := fun x => l.length - x.1) (0, 0) (by simp) (Sl.wk 4 .es (by simpa using ALe.nils_es) (Sl.refl ⟨rfl, by simp [hg0], by simp [hg0]⟩)) ?_
  rintro ⟨k, st⟩ hkk J hJ
  simp at hkk
  by_cases hkc : k < l.length
  · obtain ⟨x, hx⟩ : ∃ x, l[k] = x := ⟨_, rfl⟩
    have hgs : g (k + 1) = g k ++ [(x.val : Int)] := by
      rw [hg]; simp only [← List.take_append_getElem hkc, List.map_append, hx, List.map_cons, List.map_nil]
    have hk1 := hgl k (by omega)
    have hw : IntKind.i64.wrap (x.val : Int) = x.val := wrap_i64s (by omega) (by omega)
    simp [hkc, hx, hw]
    refine ⟨by omega, fun s3 => ⟨by unfold Fits; omega, fun s4 s5 => ?_⟩⟩
    refine xApN_gS (cells := ints (g k)) (by simp) (by simp) (by omega) (by omega) ?_
    simp
    (repeat first | refine And.intro (by omega) ?_ | refine And.intro (Fits.of (by omega) (by omega)) ?_)
    exact hJ.next (k + 1, s5 + 1) (by simp; omega) (by simp; omega) (by simp [hgs]) (by simp [hgs])
  · obtain rfl : k = l.length := by omega
    have hgk : g l.length = r.setsL := by rw [hg]; simp only [List.take_length, hl]; rfl
    have hgn : (g l.length).length = l.length := hgl _ (Nat.le_refl _)
    have hne : ¬ (g l.length).length = 0 := by omega
    simp
    refine hJ.exit ?_
    simp
    refine RetD.ret rfl rap_Sets_1.recClo ((rap_said_nil _ _).mono ?_)
    rintro e h' ⟨rfl, rfl⟩
    simp [gS, gO, hne]
    refine RetV.move 21 900 (RetV.view [(900, .row (ints (g l.length)) st)] (by simp) ?_)
    rw [hgk]
    simpa using hK st
/-- Sets are told in a row. -/
theorem FCall.sets {F n₀ : Nat} {inr : Bool} {keep : List Nat} {fa fl : List It} {t : Option Nat} {K : KT} {Q : Post} {tm : TM} {df : DF} {h : Heap} {r : Rp} (hs : r.Small) (hv : r.Valid) (hc : r.canF ≠ []) (hr : h 900 = .dead) (f : FaOk F fa tm h)
    (next : ∀ s : Nat, FlOk fl (putD tm t (.tup [.sl 900 0 s r.setsL.length (.gr 1), .int .i64 0])) (upd h 900 (.row (ints r.setsL) s)) ∧ K (putD tm t (.tup [.sl 900 0 s r.setsL.length (.gr 1), .int .i64 0])) df (upd h 900 (.row (ints r.setsL) s))) :
    FCall ⟨Pg, F, n₀, inr, keep⟩ (.func (.func fn_rap_Sets) [] []) [r.v] fa fl t K Q tm df h := by
  refine FCall.cps [(900, .dead)] (fun s : Nat => .tup [.sl 900 0 s r.setsL.length (.gr 1), .int .i64 0]) (fun s => [(900, .row (ints r.setsL) s)]) (fun _ => True) (fun K' hK' => AInvoke.func ?_) (by simpa using hr) (fun _ => rfl) f (fun s _ => by simpa using next s)
  exact rap_Sets_gen r hs hv hc K' fun s' => hK' s' trivial

namespace Rp
/-- With one rap more no set can be open that could not, and no more seams are needed. -/
theorem one_few {r : Rp} (hv : r.Valid) (hk : r.k < 10) {i : Nat} (hi : i < r.n) (d : Bool) {many : Int} {b e : Int} (hf : r.fewV = .tup [.int .i64 many, .int .i64 b, .int .i64 e]) :
    ∃ a c g, (r.one i d).setsV = .tup [L (r.one i d).setsL, .int .i64 g] ∧ (r.one i d).fewV = .tup [.int .i64 a, .int .i64 c, .int .i64 g] ∧ (g = 0 ∨ g = 10) ∧ (g = 0 → e = 0 ∧ a ≤ many) := by
  have hvo := one_valid hv hk hi d
  have hso := one_sets hv hk hi d
  by_cases hc : (r.one i d).canF = []
  · have hs := (r.one i d).setsL_nil.1 hc
    exact ⟨0, 0, 10, by simp [setsV, hvo, hc, hs], by simp [fewV, hvo, hc], .inr rfl, by simp⟩
  · have hs := mt (r.one i d).setsL_nil.2 hc
    have hs2 : r.setsL ≠ [] := fun h => hs (by rw [hso, h]; rfl)
    obtain ⟨b0, _, b2, b3, b4, b5, b6⟩ := few_some hv (mt r.setsL_nil.1 hs2)
    obtain ⟨c0, _, c2, c3, c4, c5, c6⟩ := few_some hvo hc
    rw [b2] at hf
    simp only [AVal.tup.injEq, List.cons.injEq, AVal.int.injEq, true_and, and_true] at hf
    have h1 := c6 b0.1 b4 (by
      unfold showsP at b5 ⊢
      rw [List.all_eq_true] at b5 ⊢
      intro o ho
      rw [hso] at ho
      exact b5 o (List.mem_filter.1 ho).1)
    exact ⟨c0.2, c0.1, 0, setsV_ok hvo hc, c2, .inl rfl, fun _ => ⟨hf.2.2.symm, by omega⟩⟩
theorem one_sub {r : Rp} (hv : r.Valid) (hk : r.k < 10) {i : Nat} (hi : i < r.n) (d : Bool) {o : Int} (ho : o ∈ (r.one i d).setsL) : o ∈ r.setsL := by
  rw [one_sets hv hk hi] at ho
  exact (List.mem_filter.1 ho).1
/-- The order of raps, and repeated ones, make no difference. -/
theorem same_sets {r : Rp} (hv : r.Valid) {m : List (Int × Bool)} (hl : m.length ≤ 10) (hm : ∀ x, x ∈ m ↔ x ∈ r.rs) : (r.of m).setsL = r.setsL ∧ (r.of m).Valid ∧ (r.of m).setsV = r.setsV := by
  have hvm : (r.of m).Valid := hv.of hl fun x hx => hv.sm x ((hm x).1 hx)
  have hs : (r.of m).setsL = r.setsL := by
    rw [sets_fit hvm, sets_fit hv]
    refine List.filter_congr fun o _ => ?_
    rw [fitA_of]
    unfold fitA
    rw [Bool.eq_iff_iff, List.all_eq_true, List.all_eq_true]
    exact ⟨fun h x hx => h x ((hm x).2 hx), fun h x hx => h x ((hm x).1 hx)⟩
  refine ⟨hs, hvm, ?_⟩
  have e : (r.of m).canF = [] ↔ r.canF = [] := by rw [setsL_nil, setsL_nil, hs]
  unfold setsV
  rw [if_pos hvm, if_pos hv, hs]
  by_cases hc : r.canF = []
  · rw [if_pos hc, if_pos (e.2 hc)]
  · rw [if_neg hc, if_neg (mt e.1 hc)]
end Rp
end Go.Cw
end

/- The law Turned: what is compared in the end. -/
section
set_option maxRecDepth 100000
set_option linter.unusedSimpArgs false
namespace Go.Cw
open Go Go.Proofs

theorem ref05_Ints_row_ok (r : Nat) (a b : List Int) (ha : a.length ≤ 100000) (hb : b.length ≤ 100000) (s : Nat) (K : AEnd → Heap → Prop)
    (hK : K (.ret (.bool (decide (a = b)))) (hpV [(r, .row (ints a) s)])) : ACalls Pg fn_ref05_Ints [.sl r 0 s a.length (.gr 1), L b] (hpV [(r, .row (ints a) s)]) K := by
  refine ref05_Ints.enter 0 (by simp) ?_
  by_cases h : a.length = b.length
  · simp [h]
    refine Lp.intro (σ := Nat) (inv := fun k => k ≤ a.length ∧ a.take k = b.take k) (vw := fun k => [(0, .sl r 0 s a.length (.gr 1)), (1, L b), (5, .int .i64 k)]) (hp := fun _ => [(r, .row (ints a) s)]) (ms := fun k => a.length - k) 0 (by simp) (by simp [h]) (by simp) ?_
    rintro k ⟨hk, inv⟩ J hJ
    by_cases hkc : k < a.length
    · have hkb : k < b.length := by omega
      by_cases q : a[k] = b[k]
      · simp [hkc, hkb, q]
        (repeat first | refine And.intro (by omega) ?_ | refine And.intro (Fits.of (by omega) (by omega)) ?_)
        refine hJ.next (k + 1) ⟨by omega, ?_⟩ (by omega) (by simp) (by simp)
        rw [← List.take_append_getElem hkc, ← List.take_append_getElem hkb, inv, q]
      · simp [hkc, hkb, q]
        refine hJ.ret ?_
        simp
        refine RetV.view [(r, .row (ints a) s)] (by simp) ?_
        have : ¬ a = b := by rintro rfl; exact q rfl
        simpa [this] using hK
    · simp [hkc, h, show ¬ k < b.length by omega]
      refine hJ.exit ?_
      simp
      refine RetV.view [(r, .row (ints a) s)] (by simp) ?_
      rw [List.take_of_length_le (by omega), List.take_of_length_le (by omega)] at inv
      simpa [inv] using hK
  · simp [h]
    refine RetV.view [(r, .row (ints a) s)] (by simp) ?_
    have : ¬ a = b := by rintro rfl; exact h rfl
    simpa [this] using hK
theorem ref13_Ints_row_ok (r : Nat) (a b : List Int) (ha : a.length ≤ 100000) (hb : b.length ≤ 100000) (s : Nat) (K : AEnd → Heap → Prop)
    (hK : K (.ret (.bool (decide (a = b)))) (hpV [(r, .row (ints a) s)])) : ACalls Pg fn_ref13_Ints [.sl r 0 s a.length (.gr 1), L b] (hpV [(r, .row (ints a) s)]) K := by
  refine ref13_Ints.enter 0 (by simp) ?_
  simp
  refine FCall.cps [(r, .row (ints a) s)] (fun _ : Unit => .bool (decide (a = b))) (fun _ => [(r, .row (ints a) s)]) (fun _ => True) (fun K' hK' => AInvoke.func ?_) (by simp) (fun _ => rfl) trivial (fun _ _ => ⟨trivial, ?_⟩)
  · exact ref05_Ints_row_ok r a b ha hb s K' (hK' () trivial)
  simp
  exact RetV.view [(r, .row (ints a) s)] (by simp) hK
theorem law13_ints_row_ok (r : Nat) (a b : List Int) (ha : a.length ≤ 100000) (hb : b.length ≤ 100000) (s : Nat) (K : AEnd → Heap → Prop)
    (hK : K (.ret (.bool (decide (a = b)))) (hpV [(r, .row (ints a) s)])) : ACalls Pg fn_law13_ints [.sl r 0 s a.length (.gr 1), L b] (hpV [(r, .row (ints a) s)]) K := by
  refine law13_ints.enter 0 (by simp) ?_
  simp
  refine FCall.cps [(r, .row (ints a) s)] (fun _ : Unit => .bool (decide (a = b))) (fun _ => [(r, .row (ints a) s)]) (fun _ => True) (fun K' hK' => AInvoke.func ?_) (by simp) (fun _ => rfl) trivial (fun _ _ => ⟨trivial, ?_⟩)
  · exact ref13_Ints_row_ok r a b ha hb s K' (hK' () trivial)
  simp
  exact RetV.view [(r, .row (ints a) s)] (by simp) hK

/-- The first seams of a set that are numbered from the other end. -/
def revK (n : Nat) (q : Int) (k : Nat) : Int := bits (fun j => decide (n ≤ k + j) && inS q (n - 1 - j)) n
theorem revK_zero (n : Nat) (q : Int) : revK n q 0 = 0 := bits_zero.2 fun j hj => by simp; omega
theorem revK_all (n : Nat) (q : Int) : revK n q n = revS n q := bits_congr fun j hj => by simp
theorem revK_step {n : Nat} (hn : n ≤ 60) (q : Int) {k : Nat} (hk : k < n) : bitI .or .i64 (revK n q k) (if inS q k then 2 ^ (n - 1 - k) else 0) = revK n q (k + 1) := by
  have hz : (0 : Int) = bits (fun _ => false) n := (bits_zero.2 fun _ _ => rfl).symm
  unfold revK
  by_cases hq : inS q k = true
  · rw [if_pos hq, ← bits_pow (show n - 1 - k < n by omega), bitsI_or _ _ hn]
    refine bits_congr fun j hj => ?_
    by_cases hj2 : j = n - 1 - k
    · subst hj2
      rw [show n - 1 - (n - 1 - k) = k by omega, hq]
      simp; omega
    · by_cases h1 : n ≤ k + j
      · have : n ≤ k + 1 + j := by omega
        simp [hj2, h1, this]
      · have : ¬ n ≤ k + 1 + j := by omega
        simp [hj2, h1, this]
  · rw [if_neg hq, hz, bitsI_or _ _ hn]
    refine bits_congr fun j hj => ?_
    by_cases hj2 : j = n - 1 - k
    · subst hj2
      rw [show n - 1 - (n - 1 - k) = k by omega]
      simp [hq]
    · by_cases h1 : n ≤ k + j
      · have : n ≤ k + 1 + j := by omega
        simp [h1, this]
      · have : ¬ n ≤ k + 1 + j := by omega
        simp [h1, this]

end Go.Cw
end

/- The law Turned: from the turned raps on. -/
section
set_option maxRecDepth 100000
set_option linter.unusedSimpArgs false
namespace Go.Cw
open Go Go.Proofs

/-- From the call with the raps in another order on, if some set can be open. -/
theorem law13_RapTurned_t43B (r : Rp) (hs : r.Small) (hv : r.Valid) (hc : r.canF ≠ []) (ys : List (Int × Bool)) (hyl : ys.length ≤ 10) (hym : ∀ x, x ∈ ys ↔ x ∈ r.rs) (many b : Int) (hfew : r.fewV = .tup [.int .i64 many, .int .i64 b, .int .i64 0]) (s3 s9 s10 s900 : Nat) :
    AW ⟨Pg, 0, 443, false, []⟩ (.seq (.cut (.ops law13_RapTurned.r43)) (.seq (.ops law13_RapTurned.r44) (.seq (.ops law13_RapTurned.r45) (.seq (.ops law13_RapTurned.r46) (.seq (.ops law13_RapTurned.r47) (.seq (.seq (.ops law13_RapTurned.r48) (.cond (.t 364) (.seq (.ops law13_RapTurned.r49) .ret) .skip)) (.seq (.seq (.ops law13_RapTurned.r50) (.block 10 (.loop (.seq (.ops law13_RapTurned.r51) (.seq (.cond (.t 368) .skip (.exit 10)) (.seq (.block 11 (.seq (.ops law13_RapTurned.r52) (.seq (.ops law13_RapTurned.r53) (.seq (.seq (.ops law13_RapTurned.r54) (.block 12 (.loop (.seq (.ops law13_RapTurned.r55) (.seq (.cond (.t 373) .skip (.exit 12)) (.seq (.block 13 (.seq (.ops law13_RapTurned.r56) (.ops law13_RapTurned.r57))) (.ops law13_RapTurned.r58))))))) (.seq (.seq (.ops law13_RapTurned.r59) (.block 14 (.loop (.seq (.ops law13_RapTurned.r60) (.seq (.cond (.t 390) .skip (.exit 14)) (.seq (.block 15 (.seq (.ops law13_RapTurned.r61) (.ops law13_RapTurned.r62))) (.ops law13_RapTurned.r63))))))) (.seq (.ops law13_RapTurned.r64) (.cond (.t 401) (.seq (.ops law13_RapTurned.r65) .ret) .skip))))))) (.ops law13_RapTurned.r66))))))) (.seq (.seq (.ops law13_RapTurned.r67) (.block 16 (.loop (.seq (.ops law13_RapTurned.r68) (.seq (.cond (.t 406) .skip (.exit 16)) (.seq (.block 17 (.seq (.ops law13_RapTurned.r69) (.ops law13_RapTurned.r70))) (.ops law13_RapTurned.r71))))))) (.seq (.ops law13_RapTurned.r72) (.seq (.seq (.ops law13_RapTurned.r73) (.cond (.t 425) (.seq (.ops law13_RapTurned.r74) .ret) .skip)) (.seq (.seq (.ops law13_RapTurned.r75) (.block 18 (.loop (.seq (.ops law13_RapTurned.r76) (.seq (.cond (.t 429) .skip (.exit 18)) (.seq (.block 19 (.seq (.ops law13_RapTurned.r77) (.seq (.ops law13_RapTurned.r78) (.cond (.t 440) (.seq (.ops law13_RapTurned.r79) .ret) .skip)))) (.ops law13_RapTurned.r80))))))) (.seq (.ops law13_RapTurned.r81) .ret))))))))))))
      (RetK [.tmp 6] fun e _ => e = AEnd.ret (.bool true))
      (tmV [(3, .ptr 3 0 s3), (7, .int .i64 r.n), (9, .ptr 9 0 s9), (10, .ptr 10 0 s10), (16, LR r.rs), (17, .sl 900 0 s900 r.setsL.length (.gr 1)), (18, .int .i64 0), (19, .int .i64 many)]) []
      (hpV [(3, .row r.cells s3), (9, .row [L r.d.limits, LP r.d.beside, LP r.d.blows, LR ys] s9), (10, .row r.turn.cells s10), (900, .row (ints r.setsL) s900)]) := by
  have hn6 : r.n ≤ 6 := hv.d.n6
  have hn1 : 1 ≤ r.n := hv.d.n1
  have e6 : (2 : Int) ^ 6 = 64 := by decide
  have h2p := two_pow_le hn6
  have hkl : r.rs.length = r.k := rfl
  have hk10 := hv.k10
  obtain ⟨y1, y2, y3⟩ := Rp.same_sets hv hyl hym
  have tv := Rp.turn_valid hv
  have ts := Rp.turn_small hs
  have tl := Rp.turn_len hv
  have hSne : r.setsL ≠ [] := mt r.setsL_nil.2 hc
  have tne : r.turn.canF ≠ [] := fun h => hSne (List.eq_nil_of_length_eq_zero (by rw [← tl, r.turn.setsL_nil.1 h]; rfl))
  obtain ⟨a0, b0, c0, e0, f1, f2, l0, f3⟩ := Rp.turn_few hv
  rw [hfew] at f1
  simp only [AVal.tup.injEq, List.cons.injEq, AVal.int.injEq, true_and, and_true] at f1
  obtain ⟨rfl, rfl, rfl⟩ := f1
  obtain ⟨sn, se, hsn⟩ := r.soundV_form
  have hsz := Rp.turn_sound hv
  have cY := rap_Sets_ok (r.of ys) (hs.of (by omega))
  have cZ := rap_Sets_ok r.turn ts
  have cF := rap_Fewest_ok r.turn ts
  have cS := rap_Sound_ok r hs
  have cT := rap_Sound_ok r.turn ts
  have cR := rap_Sets_ok r hs
  rw [y3, Rp.setsV_ok hv hc] at cY
  rw [Rp.setsV_ok hv hc] at cR
  rw [Rp.setsV_ok tv tne] at cZ
  rw [f2] at cF
  rw [hsn] at cS
  rw [hsz, hsn] at cT
  obtain ⟨S, hS⟩ : ∃ S, S = r.setsL := ⟨_, rfl⟩
  obtain ⟨Z, hZ⟩ : ∃ Z, Z = r.turn.setsL := ⟨_, rfl⟩
  have hSl : S.length ≤ 64 := by rw [hS]; exact Rp.setsL_len hv
  have hZl : Z.length = S.length := by rw [hZ, hS]; exact tl
  have hSm : ∀ x ∈ S, 0 ≤ x ∧ x < 2 ^ r.n := fun x hx => Rp.setsL_mem hv (by rw [← hS]; exact hx)
  have hZm : ∀ x ∈ S, revS r.n x ∈ Z := fun x hx => by rw [hZ]; exact Rp.turn_mem hv (by rw [← hS]; exact hx)
  rw [← hS] at cY cR ⊢
  rw [← hZ] at cZ
  rw [show (r.of ys).v = .agg [L r.d.limits, LP r.d.beside, LP r.d.blows, LR ys] from rfl] at cY
  rw [show r.v = .agg [L r.d.limits, LP r.d.beside, LP r.d.blows, LR r.rs] from rfl] at cR cS
  rw [show r.turn.v = .agg [L r.turn.d.limits, LP r.turn.d.beside, LP r.turn.d.blows, LR r.turn.rs] from rfl] at cZ cF cT
  simp
  refine Sl.refl ?_
  simp [Rp.cells]
  refine FCall.pure (PInv.func cY) ?_
  simp
  refine FCall.pure (PInv.func cZ) ?_
  simp
  refine PCallK.intro (PInv.func cF) ?_
  simp
  refine PCallK.intro (PInv.func cS) ?_
  simp
  refine PCallK.intro (PInv.func cT) ?_
  simp
  refine FCall.cps [(900, .row (ints S) s900)] (fun _ : Unit => .bool (decide (S = S))) (fun _ => [(900, .row (ints S) s900)]) (fun _ => True) (fun K' hK' => AInvoke.func ?_) (by simp) (fun _ => rfl) (by simp) (fun _ _ => ⟨by simp, ?_⟩)
  · exact law13_ints_row_ok 900 S S (by omega) (by omega) s900 K' (hK' () trivial)
  simp [hZl]
  refine Lp.intro (σ := Nat) (inv := fun k => k ≤ S.length) (vw := fun k => [(3, .ptr 3 0 s3), (7, .int .i64 r.n), (16, LR r.rs), (17, .sl 900 0 s900 S.length (.gr 1)), (18, .int .i64 0), (30, L S), (32, L Z), (365, .sl 900 0 s900 S.length (.gr 1)), (366, .int .i64 S.length), (367, .int .i64 k)])
    (hp := fun _ => [(3, .row r.cells s3), (900, .row (ints S) s900)]) (ms := fun k => S.length - k) 0 (by simp) (by simp) (by simp [Rp.cells]) ?_
  intro k hk J hJ
  by_cases hkc : k < S.length
  · obtain ⟨x, hx⟩ : ∃ x, S[k] = x := ⟨_, rfl⟩
    have hgx : S[k]? = some x := by rw [List.getElem?_eq_getElem hkc, hx]
    have hxb := hSm x (by rw [← hx]; simp)
    simp [hkc, hgx]
    refine Lp.intro (σ := Nat) (inv := fun j => j ≤ r.n) (vw := fun j => [(3, .ptr 3 0 s3), (7, .int .i64 r.n), (16, LR r.rs), (17, .sl 900 0 s900 S.length (.gr 1)), (18, .int .i64 0), (30, L S), (32, L Z), (365, .sl 900 0 s900 S.length (.gr 1)), (366, .int .i64 S.length), (367, .int .i64 k), (42, .int .i64 x), (43, .int .i64 (revK r.n x j)), (44, .bool false), (371, .int .i64 r.n), (372, .int .i64 j)])
      (hp := fun _ => [(3, .row r.cells s3), (900, .row (ints S) s900)]) (ms := fun j => r.n - j) 0 (by simp) (by simp [revK_zero, hx]) (by simp) ?_
    intro j hj J2 hJ2
    by_cases hjc : j < r.n
    · have hbi := inS_and1 (s := x) (by omega) j
      have hst := revK_step (show r.n ≤ 60 by omega) x hjc
      have e1 : ((r.n : Int) - 1 - j).toNat = r.n - 1 - j := by omega
      have hpk := two_pow_pos (r.n - 1 - j)
      have hpk2 := two_pow_le (show r.n - 1 - j ≤ 6 by omega)
      have hwk : IntKind.i64.wrap ((2 : Int) ^ (r.n - 1 - j)) = 2 ^ (r.n - 1 - j) := wrap_i64s (by omega) (by omega)
      cases hb : inS x j
      · rw [hb] at hbi hst
        simp at hst
        simp [hjc, hbi, e1, hst]
        repeat first | refine And.intro (by omega) ?_ | refine And.intro (by unfold Fits; omega) ?_
        exact hJ2.next (j + 1) (by omega) (by omega) (by simp) (by simp)
      · rw [hb] at hbi hst
        simp at hst
        simp [hjc, hbi, e1, hwk, hst]
        repeat first | refine And.intro (by omega) ?_ | refine And.intro (by unfold Fits; omega) ?_
        exact hJ2.next (j + 1) (by omega) (by omega) (by simp) (by simp)
    obtain rfl : j = r.n := by omega
    simp
    refine hJ2.exit ?_
    rw [revK_all]
    simp
    refine Lp.intro (σ := Nat) (inv := fun j => j ≤ Z.length) (vw := fun j => [(3, .ptr 3 0 s3), (7, .int .i64 r.n), (16, LR r.rs), (17, .sl 900 0 s900 S.length (.gr 1)), (18, .int .i64 0), (30, L S), (32, L Z), (365, .sl 900 0 s900 S.length (.gr 1)), (366, .int .i64 S.length), (367, .int .i64 k), (43, .int .i64 (revS r.n x)), (44, .bool ((Z.take j).any fun y => decide (y = revS r.n x))), (387, L Z), (388, .int .i64 Z.length), (389, .int .i64 j)])
      (hp := fun _ => [(3, .row r.cells s3), (900, .row (ints S) s900)]) (ms := fun j => Z.length - j) 0 (by simp) (by simp) (by simp) ?_
    intro j hj J3 hJ3
    by_cases hjc : j < Z.length
    · have hst : (Z.take (j + 1)).any (fun y => decide (y = revS r.n x)) = ((Z.take j).any (fun y => decide (y = revS r.n x)) || decide (Z[j] = revS r.n x)) := by
        rw [← List.take_append_getElem hjc, List.any_append]; simp
      cases hf : (Z.take j).any fun y => decide (y = revS r.n x)
      all_goals simp [hjc]
      all_goals (repeat first | refine And.intro (by omega) ?_ | refine And.intro (Fits.of (by omega) (by omega)) ?_)
      all_goals exact hJ3.next (j + 1) (by omega) (by omega) (by simp [hst, hf]) (by simp)
    obtain rfl : j = Z.length := by omega
    have hfz : (Z.any fun y => decide (y = revS r.n x)) = true := List.any_eq_true.2 ⟨_, hZm x (by rw [← hx]; simp), by simp⟩
    simp
    refine hJ3.exit ?_
    simp [hfz]
    (repeat first | refine And.intro (by omega) ?_ | refine And.intro (Fits.of (by omega) (by omega)) ?_)
    exact hJ.next (k + 1) (by omega) (by omega) (by simp) (by simp)
  obtain rfl : k = S.length := by omega
  simp
  refine hJ.exit ?_
  simp
  refine Lp.intro (σ := List Int × Nat) (inv := fun x => x.1.length = S.length ∧ x.2 ≤ S.length) (vw := fun x => [(3, .ptr 3 0 s3), (16, LR r.rs), (17, .sl 900 0 s900 S.length (.gr 1)), (18, .int .i64 0), (30, L S), (404, .int .i64 S.length), (405, .int .i64 x.2)])
    (hp := fun x => [(3, .row r.cells s3), (900, .row (ints x.1) s900)]) (ms := fun x => S.length - x.2) (S, 0) (by simp) (by simp) (by simp) ?_
  rintro ⟨M, k⟩ ⟨hM, hk⟩ J hJ
  simp only at hM hk
  by_cases hkc : k < S.length
  · have hkm : k < M.length := by omega
    simp [hkc, hkm]
    (repeat first | refine And.intro (by omega) ?_ | refine And.intro (Fits.of (by omega) (by omega)) ?_)
    exact hJ.next (M.set k (-9), k + 1) ⟨by simp [hM], by simp; omega⟩ (by simp; omega) (by simp) (by simp)
  obtain rfl : k = S.length := by omega
  simp
  refine hJ.exit ?_
  simp [Rp.cells]
  refine FCall.pure (PInv.func cR) ?_
  simp
  refine FCall.pure (PInv.func (law13_ints_ok S S (by omega) (by omega))) ?_
  simp
  refine Lp.intro (σ := Nat) (inv := fun k => k ≤ r.k) (vw := fun k => [(3, .ptr 3 0 s3), (16, LR r.rs), (427, .int .i64 r.k), (428, .int .i64 k)])
    (hp := fun _ => [(3, .row r.cells s3)]) (ms := fun k => r.k - k) 0 (by simp) (by simp [hkl]) (by simp [Rp.cells]) ?_
  intro k hk J hJ
  by_cases hkc : k < r.k
  · have hkn : k < r.rs.length := hkc
    obtain ⟨y, hy⟩ : ∃ y, r.rs[k] = y := ⟨_, rfl⟩
    have hgy : r.rs[k]? = some y := by rw [List.getElem?_eq_getElem hkn, hy]
    simp [hkc, hkn, hgy, Rp.cells]
    refine ⟨by omega, ?_⟩
    (repeat first | refine And.intro (by omega) ?_ | refine And.intro (Fits.of (by omega) (by omega)) ?_)
    exact hJ.next (k + 1) (by omega) (by omega) (by simp) (by simp [Rp.cells])
  obtain rfl : k = r.k := by omega
  simp
  refine hJ.exit ?_
  simp
  refine PCallK.intro (PInv.func law13_alive_ok) ?_
  simp
  exact RetV.refl rfl
/-- From the call with the raps in another order on, if none can. -/
theorem law13_RapTurned_t43A (r : Rp) (hs : r.Small) (hv : r.Valid) (hc : r.canF = []) (ys : List (Int × Bool)) (hyl : ys.length ≤ 10) (hym : ∀ x, x ∈ ys ↔ x ∈ r.rs) (many b : Int) (hfew : r.fewV = .tup [.int .i64 many, .int .i64 b, .int .i64 10]) (s3 s9 s10 : Nat) :
    AW ⟨Pg, 0, 443, false, []⟩ (.seq (.cut (.ops law13_RapTurned.r43)) (.seq (.ops law13_RapTurned.r44) (.seq (.ops law13_RapTurned.r45) (.seq (.ops law13_RapTurned.r46) (.seq (.ops law13_RapTurned.r47) (.seq (.seq (.ops law13_RapTurned.r48) (.cond (.t 364) (.seq (.ops law13_RapTurned.r49) .ret) .skip)) (.seq (.seq (.ops law13_RapTurned.r50) (.block 10 (.loop (.seq (.ops law13_RapTurned.r51) (.seq (.cond (.t 368) .skip (.exit 10)) (.seq (.block 11 (.seq (.ops law13_RapTurned.r52) (.seq (.ops law13_RapTurned.r53) (.seq (.seq (.ops law13_RapTurned.r54) (.block 12 (.loop (.seq (.ops law13_RapTurned.r55) (.seq (.cond (.t 373) .skip (.exit 12)) (.seq (.block 13 (.seq (.ops law13_RapTurned.r56) (.ops law13_RapTurned.r57))) (.ops law13_RapTurned.r58))))))) (.seq (.seq (.ops law13_RapTurned.r59) (.block 14 (.loop (.seq (.ops law13_RapTurned.r60) (.seq (.cond (.t 390) .skip (.exit 14)) (.seq (.block 15 (.seq (.ops law13_RapTurned.r61) (.ops law13_RapTurned.r62))) (.ops law13_RapTurned.r63))))))) (.seq (.ops law13_RapTurned.r64) (.cond (.t 401) (.seq (.ops law13_RapTurned.r65) .ret) .skip))))))) (.ops law13_RapTurned.r66))))))) (.seq (.seq (.ops law13_RapTurned.r67) (.block 16 (.loop (.seq (.ops law13_RapTurned.r68) (.seq (.cond (.t 406) .skip (.exit 16)) (.seq (.block 17 (.seq (.ops law13_RapTurned.r69) (.ops law13_RapTurned.r70))) (.ops law13_RapTurned.r71))))))) (.seq (.ops law13_RapTurned.r72) (.seq (.seq (.ops law13_RapTurned.r73) (.cond (.t 425) (.seq (.ops law13_RapTurned.r74) .ret) .skip)) (.seq (.seq (.ops law13_RapTurned.r75) (.block 18 (.loop (.seq (.ops law13_RapTurned.r76) (.seq (.cond (.t 429) .skip (.exit 18)) (.seq (.block 19 (.seq (.ops law13_RapTurned.r77) (.seq (.ops law13_RapTurned.r78) (.cond (.t 440) (.seq (.ops law13_RapTurned.r79) .ret) .skip)))) (.ops law13_RapTurned.r80))))))) (.seq (.ops law13_RapTurned.r81) .ret))))))))))))
      (RetK [.tmp 6] fun e _ => e = AEnd.ret (.bool true))
      (tmV [(3, .ptr 3 0 s3), (7, .int .i64 r.n), (9, .ptr 9 0 s9), (10, .ptr 10 0 s10), (16, LR r.rs), (17, L []), (18, .int .i64 10), (19, .int .i64 many)]) []
      (hpV [(3, .row r.cells s3), (9, .row [L r.d.limits, LP r.d.beside, LP r.d.blows, LR ys] s9), (10, .row r.turn.cells s10)]) := by
  have hn6 : r.n ≤ 6 := hv.d.n6
  have hn1 : 1 ≤ r.n := hv.d.n1
  have e6 : (2 : Int) ^ 6 = 64 := by decide
  have h2p := two_pow_le hn6
  have hkl : r.rs.length = r.k := rfl
  have hk10 := hv.k10
  obtain ⟨y1, y2, y3⟩ := Rp.same_sets hv hyl hym
  have tv := Rp.turn_valid hv
  have ts := Rp.turn_small hs
  have tl := Rp.turn_len hv
  have hSe : r.setsL = [] := r.setsL_nil.1 hc
  have tc : r.turn.canF = [] := r.turn.setsL_nil.2 (List.eq_nil_of_length_eq_zero (by rw [tl, hSe]; rfl))
  obtain ⟨a0, b0, c0, e0, f1, f2, l0, f3⟩ := Rp.turn_few hv
  rw [hfew] at f1
  simp only [AVal.tup.injEq, List.cons.injEq, AVal.int.injEq, true_and, and_true] at f1
  obtain ⟨rfl, rfl, rfl⟩ := f1
  obtain ⟨sn, se, hsn⟩ := r.soundV_form
  have hsz := Rp.turn_sound hv
  have hRV : r.setsV = .tup [L [], .int .i64 10] := by simp [Rp.setsV, hv, hc]
  have hZV : r.turn.setsV = .tup [L [], .int .i64 10] := by simp [Rp.setsV, tv, tc]
  have cY := rap_Sets_ok (r.of ys) (hs.of (by omega))
  have cZ := rap_Sets_ok r.turn ts
  have cF := rap_Fewest_ok r.turn ts
  have cS := rap_Sound_ok r hs
  have cT := rap_Sound_ok r.turn ts
  have cR := rap_Sets_ok r hs
  rw [y3, hRV] at cY
  rw [hRV] at cR
  rw [hZV] at cZ
  rw [f2] at cF
  rw [hsn] at cS
  rw [hsz, hsn] at cT
  rw [show (r.of ys).v = .agg [L r.d.limits, LP r.d.beside, LP r.d.blows, LR ys] from rfl] at cY
  rw [show r.v = .agg [L r.d.limits, LP r.d.beside, LP r.d.blows, LR r.rs] from rfl] at cR cS
  rw [show r.turn.v = .agg [L r.turn.d.limits, LP r.turn.d.beside, LP r.turn.d.blows, LR r.turn.rs] from rfl] at cZ cF cT
  simp
  refine Sl.refl ?_
  simp [Rp.cells]
  refine FCall.pure (PInv.func cY) ?_
  simp
  refine FCall.pure (PInv.func cZ) ?_
  simp
  refine PCallK.intro (PInv.func cF) ?_
  simp
  refine PCallK.intro (PInv.func cS) ?_
  simp
  refine PCallK.intro (PInv.func cT) ?_
  simp
  refine FCall.pure (PInv.func (law13_ints_ok [] [] (by simp) (by simp))) ?_
  simp
  refine Lp.intro (σ := Unit) (inv := fun _ => True) (vw := fun _ => [(3, .ptr 3 0 s3), (16, LR r.rs), (17, L []), (18, .int .i64 10), (30, L []), (366, .int .i64 0), (367, .int .i64 0)])
    (hp := fun _ => [(3, .row r.cells s3)]) (ms := fun _ => 0) () trivial (by simp) (by simp [Rp.cells]) ?_
  intro _ _ J hJ
  simp
  refine hJ.exit ?_
  simp
  refine Lp.intro (σ := Unit) (inv := fun _ => True) (vw := fun _ => [(3, .ptr 3 0 s3), (16, LR r.rs), (17, L []), (18, .int .i64 10), (30, L []), (404, .int .i64 0), (405, .int .i64 0)])
    (hp := fun _ => [(3, .row r.cells s3)]) (ms := fun _ => 0) () trivial (by simp) (by simp [Rp.cells]) ?_
  intro _ _ J hJ
  simp
  refine hJ.exit ?_
  simp [Rp.cells]
  refine FCall.pure (PInv.func cR) ?_
  simp
  refine FCall.pure (PInv.func (law13_ints_ok [] [] (by simp) (by simp))) ?_
  simp
  refine Lp.intro (σ := Nat) (inv := fun k => k ≤ r.k) (vw := fun k => [(3, .ptr 3 0 s3), (16, LR r.rs), (427, .int .i64 r.k), (428, .int .i64 k)])
    (hp := fun _ => [(3, .row r.cells s3)]) (ms := fun k => r.k - k) 0 (by simp) (by simp [hkl]) (by simp [Rp.cells]) ?_
  intro k hk J hJ
  by_cases hkc : k < r.k
  · have hkn : k < r.rs.length := hkc
    obtain ⟨y, hy⟩ : ∃ y, r.rs[k] = y := ⟨_, rfl⟩
    have hgy : r.rs[k]? = some y := by rw [List.getElem?_eq_getElem hkn, hy]
    simp [hkc, hkn, hgy, Rp.cells]
    refine ⟨by omega, ?_⟩
    (repeat first | refine And.intro (by omega) ?_ | refine And.intro (Fits.of (by omega) (by omega)) ?_)
    exact hJ.next (k + 1) (by omega) (by omega) (by simp) (by simp [Rp.cells])
  obtain rfl : k = r.k := by omega
  simp
  refine hJ.exit ?_
  simp
  refine PCallK.intro (PInv.func law13_alive_ok) ?_
  simp
  exact RetV.refl rfl
end Go.Cw
end

/- The law Turned: from the copies on. -/
section
set_option maxRecDepth 100000
set_option linter.unusedSimpArgs false
namespace Go.Cw
open Go Go.Proofs

theorem Sl.toS {n : Nat} {K : KT} {tm : TM} {df : DF} {h : Heap} (l : List (Nat × AVal)) (k : List (Nat × AObj)) (en : Sl n (fun tm' df' h' => df' = df ∧ Vw l tm' ∧ Hw k h') tm df h) (hK : Sl n K (tmV l) df (hpV k)) : Sl n K tm df h := by
  obtain ⟨tm₁, df₁, h₁, a, rfl, hv, hh⟩ := en
  exact Sl.le (a.trans (SLe.view hv hh)) hK

/-- From the copy of the raps on. -/
theorem law13_RapTurned_t24 (r : Rp) (hs : r.Small) (hv : r.Valid) (i : Nat) (hi : i < r.n) (f : Bool) (ys : List (Int × Bool)) (hyl : ys.length ≤ 10) (hym : ∀ x, x ∈ ys ↔ x ∈ r.rs) (s3 s8 s9 s10 : Nat) :
    AW ⟨Pg, 0, 443, false, []⟩ (.seq (.cut (.ops law13_RapTurned.r24)) (.seq (.ops law13_RapTurned.r25) (.seq (.ops law13_RapTurned.r26) (.seq (.seq (.ops law13_RapTurned.r27) (.cond (.t 227) (.seq (.ops law13_RapTurned.r28) .ret) .skip)) (.seq (.seq (.ops law13_RapTurned.r29) (.cond (.t 229) (.seq (.ops law13_RapTurned.r30) (.seq (.ops law13_RapTurned.r31) (.seq (.seq (.ops law13_RapTurned.r32) (.cond (.t 264) (.seq (.ops law13_RapTurned.r33) .ret) .skip)) (.seq (.ops law13_RapTurned.r34) (.seq (.ops law13_RapTurned.r35) (.block 6 (.loop (.seq (.ops law13_RapTurned.r36) (.seq (.cond (.t 268) .skip (.exit 6)) (.seq (.block 7 (.seq (.ops law13_RapTurned.r37) (.seq (.block 8 (.loop (.seq (.seq (.ops law13_RapTurned.r38) (.cond (.t 282) .skip (.exit 8))) (.block 9 (.ops law13_RapTurned.r39))))) (.seq (.ops law13_RapTurned.r40) (.cond (.t 296) (.seq (.ops law13_RapTurned.r41) .ret) .skip))))) (.ops law13_RapTurned.r42))))))))))) .skip)) (.seq (.cut (.ops law13_RapTurned.r43)) (.seq (.ops law13_RapTurned.r44) (.seq (.ops law13_RapTurned.r45) (.seq (.ops law13_RapTurned.r46) (.seq (.ops law13_RapTurned.r47) (.seq (.seq (.ops law13_RapTurned.r48) (.cond (.t 364) (.seq (.ops law13_RapTurned.r49) .ret) .skip)) (.seq (.seq (.ops law13_RapTurned.r50) (.block 10 (.loop (.seq (.ops law13_RapTurned.r51) (.seq (.cond (.t 368) .skip (.exit 10)) (.seq (.block 11 (.seq (.ops law13_RapTurned.r52) (.seq (.ops law13_RapTurned.r53) (.seq (.seq (.ops law13_RapTurned.r54) (.block 12 (.loop (.seq (.ops law13_RapTurned.r55) (.seq (.cond (.t 373) .skip (.exit 12)) (.seq (.block 13 (.seq (.ops law13_RapTurned.r56) (.ops law13_RapTurned.r57))) (.ops law13_RapTurned.r58))))))) (.seq (.seq (.ops law13_RapTurned.r59) (.block 14 (.loop (.seq (.ops law13_RapTurned.r60) (.seq (.cond (.t 390) .skip (.exit 14)) (.seq (.block 15 (.seq (.ops law13_RapTurned.r61) (.ops law13_RapTurned.r62))) (.ops law13_RapTurned.r63))))))) (.seq (.ops law13_RapTurned.r64) (.cond (.t 401) (.seq (.ops law13_RapTurned.r65) .ret) .skip))))))) (.ops law13_RapTurned.r66))))))) (.seq (.seq (.ops law13_RapTurned.r67) (.block 16 (.loop (.seq (.ops law13_RapTurned.r68) (.seq (.cond (.t 406) .skip (.exit 16)) (.seq (.block 17 (.seq (.ops law13_RapTurned.r69) (.ops law13_RapTurned.r70))) (.ops law13_RapTurned.r71))))))) (.seq (.ops law13_RapTurned.r72) (.seq (.seq (.ops law13_RapTurned.r73) (.cond (.t 425) (.seq (.ops law13_RapTurned.r74) .ret) .skip)) (.seq (.seq (.ops law13_RapTurned.r75) (.block 18 (.loop (.seq (.ops law13_RapTurned.r76) (.seq (.cond (.t 429) .skip (.exit 18)) (.seq (.block 19 (.seq (.ops law13_RapTurned.r77) (.seq (.ops law13_RapTurned.r78) (.cond (.t 440) (.seq (.ops law13_RapTurned.r79) .ret) .skip)))) (.ops law13_RapTurned.r80))))))) (.seq (.ops law13_RapTurned.r81) .ret)))))))))))))))))
      (RetK [.tmp 6] fun e _ => e = AEnd.ret (.bool true))
      (tmV [(3, .ptr 3 0 s3), (7, .int .i64 r.n), (8, .ptr 8 0 s8), (9, .ptr 9 0 s9), (10, .ptr 10 0 s10)]) []
      (hpV [(3, .row r.cells s3), (8, .row [L r.d.limits, LP r.d.beside, LP r.d.blows, LR (r.rs ++ [((i : Int), f)])] s8), (9, .row [L r.d.limits, LP r.d.beside, LP r.d.blows, LR ys] s9), (10, .row r.turn.cells s10)]) := by
  have hn6 : r.n ≤ 6 := hv.d.n6
  have hkl : r.rs.length = r.k := rfl
  have hk10 := hv.k10
  have hva : r.v = .agg [L r.d.limits, LP r.d.beside, LP r.d.blows, LR r.rs] := rfl
  obtain ⟨X, hX⟩ : ∃ X, X = r.one i f := ⟨_, rfl⟩
  have hXva : X.v = .agg [L r.d.limits, LP r.d.beside, LP r.d.blows, LR (r.rs ++ [((i : Int), f)])] := by rw [hX]; rfl
  have hXs : X.Small := by rw [hX]; exact hs.of (by simp [hkl]; omega)
  have cX := ref13_Rap_ok X hXs
  have hXv : X.Valid ↔ r.k < 10 := by
    rw [hX]
    constructor
    · intro h; have := h.k10; unfold Rp.one Rp.of Rp.k at this; simp at this; omega
    · intro h; exact Rp.one_valid hv h hi f
  rw [hXva] at cX
  have cF := rap_Fewest_ok r hs
  rw [hva] at cF
  have c1 := rap_Sets_ok r hs
  have c2 := rap_Sets_ok X hXs
  have c3 := rap_Fewest_ok X hXs
  rw [hXva] at c2 c3
  simp only [AW_seq, AW_cut]
  refine Sl.refl ?_
  simp [Rp.cells]
  intro s210 s213
  refine xAp_cp (by simp) (by simp) (by omega) ?_
  by_cases hc : r.canF = []
  · have hSe : r.setsL = [] := r.setsL_nil.1 hc
    have hRV : r.setsV = .tup [L [], .int .i64 10] := by simp [Rp.setsV, hv, hc]
    have hRF : r.fewV = .tup [.int .i64 0, .int .i64 0, .int .i64 10] := by simp [Rp.fewV, hv, hc]
    have hT := law13_RapTurned_t43A r hs hv hc ys hyl hym 0 0 hRF s3 s9 s10
    simp only [AW_seq, AW_cut] at hT
    rw [hva, hRV] at c1
    rw [hRF] at cF
    simp
    refine FCall.pure (PInv.func c1) ?_
    simp
    refine PCallK.intro (PInv.func cF) ?_
    simp
    refine PCallK.intro (PInv.func cX) ?_
    by_cases hk : r.k < 10
    · have hx1 := Rp.one_sets hv hk hi f
      rw [← hX, hSe] at hx1
      have hXc : X.canF = [] := X.setsL_nil.2 hx1
      have hXV := hXv.2 hk
      rw [show X.setsV = .tup [L [], .int .i64 10] by simp [Rp.setsV, hXV, hXc]] at c2
      rw [show X.fewV = .tup [.int .i64 0, .int .i64 0, .int .i64 10] by simp [Rp.fewV, hXV, hXc]] at c3
      simp [hXV]
      refine FCall.pure (PInv.func c2) ?_
      simp
      refine PCallK.intro (PInv.func c3) ?_
      simp
      refine Lp.intro (σ := Unit) (inv := fun _ => True) (vw := fun _ => [(3, .ptr 3 0 s3), (7, .int .i64 r.n), (9, .ptr 9 0 s9), (10, .ptr 10 0 s10), (16, cpV 2 210 (s210+1) 213 (s213+1) r.k), (17, L []), (18, .int .i64 10), (19, .int .i64 0), (266, .int .i64 0), (267, .int .i64 0)])
        (hp := fun _ => [(3, .row r.cells s3), (9, .row [L r.d.limits, LP r.d.beside, LP r.d.blows, LR ys] s9), (10, .row r.turn.cells s10), (213, cpO r.k (rfs r.rs) (s213+1))]) (ms := fun _ => 0) () trivial (by simp [hkl]) (by simp [Rp.cells, hkl]) ?_
      intro _ _ J hJ
      simp
      refine hJ.exit ?_
      simp
      refine Sl.toS [(3, .ptr 3 0 s3), (7, .int .i64 r.n), (9, .ptr 9 0 s9), (10, .ptr 10 0 s10), (16, LR r.rs), (17, L []), (18, .int .i64 10), (19, .int .i64 0)]
        [(3, .row r.cells s3), (9, .row [L r.d.limits, LP r.d.beside, LP r.d.blows, LR ys] s9), (10, .row r.turn.cells s10)] ?_ hT
      exact Sl.vle 16 (LR r.rs) (VLe.cp (cells := rfs r.rs) (by simp [hkl]) (by simp [hkl])) (Sl.refl ⟨rfl, by simp [hkl], by simp [Rp.cells, hkl]⟩)
    · have hXV : ¬ X.Valid := mt hXv.1 hk
      simp [hXV]
      refine Sl.toS [(3, .ptr 3 0 s3), (7, .int .i64 r.n), (9, .ptr 9 0 s9), (10, .ptr 10 0 s10), (16, LR r.rs), (17, L []), (18, .int .i64 10), (19, .int .i64 0)]
        [(3, .row r.cells s3), (9, .row [L r.d.limits, LP r.d.beside, LP r.d.blows, LR ys] s9), (10, .row r.turn.cells s10)] ?_ hT
      exact Sl.vle 16 (LR r.rs) (VLe.cp (cells := rfs r.rs) (by simp [hkl]) (by simp [hkl])) (Sl.refl ⟨rfl, by simp [hkl], by simp [Rp.cells, hkl]⟩)
  · obtain ⟨b, _, b2, _⟩ := Rp.few_some hv hc
    rw [b2] at cF
    simp
    rw [← hva]
    refine FCall.sets hs hv hc (by simp) (by simp) fun s900 => ⟨by simp, ?_⟩
    have hT := law13_RapTurned_t43B r hs hv hc ys hyl hym b.2 b.1 b2 s3 s9 s10 s900
    simp only [AW_seq, AW_cut] at hT
    simp [Rp.cells]
    refine PCallK.intro (PInv.func cF) ?_
    simp
    refine PCallK.intro (PInv.func cX) ?_
    by_cases hk : r.k < 10
    · have hXV := hXv.2 hk
      obtain ⟨a0, c0, g, x1, x2, x3, x4⟩ := Rp.one_few hv hk hi f b2
      rw [← hX] at x1 x2
      rw [x1] at c2
      rw [x2] at c3
      obtain ⟨S, hS⟩ : ∃ S, S = r.setsL := ⟨_, rfl⟩
      obtain ⟨M, hM⟩ : ∃ M, M = X.setsL := ⟨_, rfl⟩
      have hSl : S.length ≤ 64 := by rw [hS]; exact Rp.setsL_len hv
      have hMl : M.length ≤ 64 := by rw [hM]; exact Rp.setsL_len hXV
      have hSs : S.Pairwise (· < ·) := by rw [hS]; exact Rp.sets_lt hv
      have hMs : M.Pairwise (· < ·) := by rw [hM]; exact Rp.sets_lt hXV
      have hMS : ∀ x ∈ M, x ∈ S := fun x hx => by
        rw [hM, hX] at hx
        rw [hS]; exact Rp.one_sub hv hk hi f hx
      rw [← hM] at c2
      rw [← hS]
      simp [hXV]
      refine FCall.pure (PInv.func c2) ?_
      simp
      refine PCallK.intro (PInv.func c3) ?_
      rcases x3 with rfl | rfl
      · obtain ⟨_, hle⟩ := x4 rfl
        simp [show ¬ b.2 < a0 by omega]
        refine Lp.intro (σ := Nat × Nat) (inv := fun x => x.1 ≤ M.length ∧ x.2 ≤ S.length ∧ ∀ j y, j < x.2 → y ∈ M.drop x.1 → ofL S j < y) (vw := fun x => [(3, .ptr 3 0 s3), (7, .int .i64 r.n), (9, .ptr 9 0 s9), (10, .ptr 10 0 s10), (16, cpV 2 210 (s210+1) 213 (s213+1) r.k), (17, .sl 900 0 s900 S.length (.gr 1)), (18, .int .i64 0), (19, .int .i64 b.2), (27, .int .i64 x.2), (265, L M), (266, .int .i64 M.length), (267, .int .i64 x.1)])
          (hp := fun _ => [(3, .row r.cells s3), (9, .row [L r.d.limits, LP r.d.beside, LP r.d.blows, LR ys] s9), (10, .row r.turn.cells s10), (213, cpO r.k (rfs r.rs) (s213+1)), (900, .row (ints S) s900)]) (ms := fun x => M.length - x.1) (0, 0) (by simp) (by simp [hkl]) (by simp [Rp.cells, hkl]) ?_
        rintro ⟨k, at0⟩ ⟨hk1, hat0, inv⟩ J hJ
        simp only at hk1 hat0 inv
        by_cases hkc : k < M.length
        · obtain ⟨x, hx⟩ : ∃ x, M[k] = x := ⟨_, rfl⟩
          have hxM : x ∈ M := by rw [← hx]; simp
          obtain ⟨p, hp, hpx⟩ := List.getElem_of_mem (hMS x hxM)
          have hdk : M.drop k = x :: M.drop (k + 1) := by rw [← hx]; exact List.drop_eq_getElem_cons hkc
          have hlater : ∀ y, y ∈ M.drop (k + 1) → x < y := fun y hy => by
            have h1 := List.Pairwise.sublist (List.drop_sublist k M) hMs
            rw [hdk] at h1
            exact List.rel_of_pairwise_cons h1 hy
          simp [hkc, hx]
          refine Lp.intro (σ := Nat) (inv := fun a => a ≤ S.length ∧ ∀ j, j < a → ofL S j < x) (vw := fun a => [(3, .ptr 3 0 s3), (7, .int .i64 r.n), (9, .ptr 9 0 s9), (10, .ptr 10 0 s10), (16, cpV 2 210 (s210+1) 213 (s213+1) r.k), (17, .sl 900 0 s900 S.length (.gr 1)), (18, .int .i64 0), (19, .int .i64 b.2), (27, .int .i64 a), (29, .int .i64 x), (265, L M), (266, .int .i64 M.length), (267, .int .i64 k)])
            (hp := fun _ => [(3, .row r.cells s3), (9, .row [L r.d.limits, LP r.d.beside, LP r.d.blows, LR ys] s9), (10, .row r.turn.cells s10), (213, cpO r.k (rfs r.rs) (s213+1)), (900, .row (ints S) s900)]) (ms := fun a => S.length - a) at0 ⟨hat0, fun j hj => inv j x hj (by rw [hdk]; simp)⟩ (by simp) (by simp) ?_
          rintro a ⟨ha, inv2⟩ J2 hJ2
          have hap : a ≤ p := by
            refine Classical.byContradiction fun hc2 => ?_
            have := inv2 p (by omega)
            rw [← ofL_at S hp, hpx] at this
            omega
          have hal : a < S.length := by omega
          have hSa := ofL_at S hal
          by_cases hlt : ofL S a < x
          · simp [hal, hSa, hlt]
            (repeat first | refine And.intro (by omega) ?_ | refine And.intro (Fits.of (by omega) (by omega)) ?_)
            refine hJ2.next (a + 1) ⟨by omega, fun j hj => ?_⟩ (by omega) (by simp) (by simp)
            by_cases hja : j = a
            · subst hja; exact hlt
            · exact inv2 j (by omega)
          · have hpa : a = p := by
              refine Classical.byContradiction fun hne => ?_
              have := List.pairwise_iff_getElem.1 hSs a p hal hp (by omega)
              rw [hpx, hSa] at this
              exact hlt this
            subst hpa
            have hSx : ofL S a = x := by rw [← hSa, hpx]
            simp [hal, hSa, hlt]
            refine hJ2.exit ?_
            simp [hal, hSa, hSx, show ¬ a = S.length by omega]
            (repeat first | refine And.intro (by omega) ?_ | refine And.intro (Fits.of (by omega) (by omega)) ?_)
            refine hJ.next (k + 1, a) ⟨by simp; omega, by simp; omega, fun j y hj hy => ?_⟩ (by simp; omega) (by simp) (by simp)
            have h1 := inv2 j hj
            have h2 := hlater y hy
            omega
        · obtain rfl : k = M.length := by omega
          simp
          refine hJ.exit ?_
          simp
          rw [hS]
          refine Sl.toS [(3, .ptr 3 0 s3), (7, .int .i64 r.n), (9, .ptr 9 0 s9), (10, .ptr 10 0 s10), (16, LR r.rs), (17, .sl 900 0 s900 r.setsL.length (.gr 1)), (18, .int .i64 0), (19, .int .i64 b.2)]
            [(3, .row r.cells s3), (9, .row [L r.d.limits, LP r.d.beside, LP r.d.blows, LR ys] s9), (10, .row r.turn.cells s10), (900, .row (ints r.setsL) s900)] ?_ hT
          exact Sl.vle 16 (LR r.rs) (VLe.cp (cells := rfs r.rs) (by simp [hkl]) (by simp [hkl])) (Sl.refl ⟨rfl, by simp [hkl], by simp [Rp.cells, hkl]⟩)
      · simp
        refine Lp.intro (σ := Nat × Nat) (inv := fun x => x.1 ≤ M.length ∧ x.2 ≤ S.length ∧ ∀ j y, j < x.2 → y ∈ M.drop x.1 → ofL S j < y) (vw := fun x => [(3, .ptr 3 0 s3), (7, .int .i64 r.n), (9, .ptr 9 0 s9), (10, .ptr 10 0 s10), (16, cpV 2 210 (s210+1) 213 (s213+1) r.k), (17, .sl 900 0 s900 S.length (.gr 1)), (18, .int .i64 0), (19, .int .i64 b.2), (27, .int .i64 x.2), (265, L M), (266, .int .i64 M.length), (267, .int .i64 x.1)])
          (hp := fun _ => [(3, .row r.cells s3), (9, .row [L r.d.limits, LP r.d.beside, LP r.d.blows, LR ys] s9), (10, .row r.turn.cells s10), (213, cpO r.k (rfs r.rs) (s213+1)), (900, .row (ints S) s900)]) (ms := fun x => M.length - x.1) (0, 0) (by simp) (by simp [hkl]) (by simp [Rp.cells, hkl]) ?_
        rintro ⟨k, at0⟩ ⟨hk1, hat0, inv⟩ J hJ
        simp only at hk1 hat0 inv
        by_cases hkc : k < M.length
        · obtain ⟨x, hx⟩ : ∃ x, M[k] = x := ⟨_, rfl⟩
          have hxM : x ∈ M := by rw [← hx]; simp
          obtain ⟨p, hp, hpx⟩ := List.getElem_of_mem (hMS x hxM)
          have hdk : M.drop k = x :: M.drop (k + 1) := by rw [← hx]; exact List.drop_eq_getElem_cons hkc
          have hlater : ∀ y, y ∈ M.drop (k + 1) → x < y := fun y hy => by
            have h1 := List.Pairwise.sublist (List.drop_sublist k M) hMs
            rw [hdk] at h1
            exact List.rel_of_pairwise_cons h1 hy
          simp [hkc, hx]
          refine Lp.intro (σ := Nat) (inv := fun a => a ≤ S.length ∧ ∀ j, j < a → ofL S j < x) (vw := fun a => [(3, .ptr 3 0 s3), (7, .int .i64 r.n), (9, .ptr 9 0 s9), (10, .ptr 10 0 s10), (16, cpV 2 210 (s210+1) 213 (s213+1) r.k), (17, .sl 900 0 s900 S.length (.gr 1)), (18, .int .i64 0), (19, .int .i64 b.2), (27, .int .i64 a), (29, .int .i64 x), (265, L M), (266, .int .i64 M.length), (267, .int .i64 k)])
            (hp := fun _ => [(3, .row r.cells s3), (9, .row [L r.d.limits, LP r.d.beside, LP r.d.blows, LR ys] s9), (10, .row r.turn.cells s10), (213, cpO r.k (rfs r.rs) (s213+1)), (900, .row (ints S) s900)]) (ms := fun a => S.length - a) at0 ⟨hat0, fun j hj => inv j x hj (by rw [hdk]; simp)⟩ (by simp) (by simp) ?_
          rintro a ⟨ha, inv2⟩ J2 hJ2
          have hap : a ≤ p := by
            refine Classical.byContradiction fun hc2 => ?_
            have := inv2 p (by omega)
            rw [← ofL_at S hp, hpx] at this
            omega
          have hal : a < S.length := by omega
          have hSa := ofL_at S hal
          by_cases hlt : ofL S a < x
          · simp [hal, hSa, hlt]
            (repeat first | refine And.intro (by omega) ?_ | refine And.intro (Fits.of (by omega) (by omega)) ?_)
            refine hJ2.next (a + 1) ⟨by omega, fun j hj => ?_⟩ (by omega) (by simp) (by simp)
            by_cases hja : j = a
            · subst hja; exact hlt
            · exact inv2 j (by omega)
          · have hpa : a = p := by
              refine Classical.byContradiction fun hne => ?_
              have := List.pairwise_iff_getElem.1 hSs a p hal hp (by omega)
              rw [hpx, hSa] at this
              exact hlt this
            subst hpa
            have hSx : ofL S a = x := by rw [← hSa, hpx]
            simp [hal, hSa, hlt]
            refine hJ2.exit ?_
            simp [hal, hSa, hSx, show ¬ a = S.length by omega]
            (repeat first | refine And.intro (by omega) ?_ | refine And.intro (Fits.of (by omega) (by omega)) ?_)
            refine hJ.next (k + 1, a) ⟨by simp; omega, by simp; omega, fun j y hj hy => ?_⟩ (by simp; omega) (by simp) (by simp)
            have h1 := inv2 j hj
            have h2 := hlater y hy
            omega
        · obtain rfl : k = M.length := by omega
          simp
          refine hJ.exit ?_
          simp
          rw [hS]
          refine Sl.toS [(3, .ptr 3 0 s3), (7, .int .i64 r.n), (9, .ptr 9 0 s9), (10, .ptr 10 0 s10), (16, LR r.rs), (17, .sl 900 0 s900 r.setsL.length (.gr 1)), (18, .int .i64 0), (19, .int .i64 b.2)]
            [(3, .row r.cells s3), (9, .row [L r.d.limits, LP r.d.beside, LP r.d.blows, LR ys] s9), (10, .row r.turn.cells s10), (900, .row (ints r.setsL) s900)] ?_ hT
          exact Sl.vle 16 (LR r.rs) (VLe.cp (cells := rfs r.rs) (by simp [hkl]) (by simp [hkl])) (Sl.refl ⟨rfl, by simp [hkl], by simp [Rp.cells, hkl]⟩)
    · have hXV : ¬ X.Valid := mt hXv.1 hk
      simp [hXV]
      refine Sl.toS [(3, .ptr 3 0 s3), (7, .int .i64 r.n), (9, .ptr 9 0 s9), (10, .ptr 10 0 s10), (16, LR r.rs), (17, .sl 900 0 s900 r.setsL.length (.gr 1)), (18, .int .i64 0), (19, .int .i64 b.2)]
        [(3, .row r.cells s3), (9, .row [L r.d.limits, LP r.d.beside, LP r.d.blows, LR ys] s9), (10, .row r.turn.cells s10), (900, .row (ints r.setsL) s900)] ?_ hT
      exact Sl.vle 16 (LR r.rs) (VLe.cp (cells := rfs r.rs) (by simp [hkl]) (by simp [hkl])) (Sl.refl ⟨rfl, by simp [hkl], by simp [Rp.cells, hkl]⟩)
end Go.Cw
end

/- The law Turned. -/
section
set_option maxRecDepth 100000
set_option linter.unusedSimpArgs false
namespace Go.Cw
open Go Go.Proofs

theorem prs_set2 (l : List (Int × Int)) (k : Nat) (hk : k < l.length) (x y : Int) : setRange (prs l) (k * 2) [.int .i64 x, .int .i64 y] = prs (l.set k (x, y)) := by
  induction l generalizing k with
  | nil => simp at hk
  | cons a l ih =>
    cases k with
    | zero => simp
    | succ k =>
      rw [show (k + 1) * 2 = k * 2 + 1 + 1 by omega]
      simp only [List.length_cons] at hk
      simpa using ih k (by omega)

/-- What is filled from the end. -/
def fromEnd {α : Type} (n k : Nat) (f : Nat → α) (z : α) : List α := (List.range n).map fun j => if n ≤ k + j then f (n - 1 - j) else z
@[simp] theorem fromEnd_length {α : Type} (n k : Nat) (f : Nat → α) (z : α) : (fromEnd n k f z).length = n := by simp [fromEnd]
theorem fromEnd_zero {α : Type} (n : Nat) (f : Nat → α) (z : α) : fromEnd n 0 f z = List.replicate n z := by
  apply List.ext_getElem?
  intro j
  simp only [fromEnd, List.getElem?_map, List.getElem?_replicate]
  by_cases hj : j < n
  · rw [List.getElem?_range hj, if_pos hj]; simp; omega
  · rw [List.getElem?_eq_none (by simp; omega), if_neg hj]; rfl
theorem fromEnd_set {α : Type} (n k : Nat) (f : Nat → α) (z : α) (hk : k < n) : (fromEnd n k f z).set (n - 1 - k) (f k) = fromEnd n (k + 1) f z := by
  apply List.ext_getElem?
  intro j
  rw [List.getElem?_set]
  simp only [fromEnd, List.getElem?_map, List.length_map, List.length_range]
  by_cases hj : j < n
  · rw [List.getElem?_range hj]
    by_cases h : n - 1 - k = j
    · subst h
      rw [if_pos rfl, if_pos (by omega)]
      simp only [Option.map_some]
      rw [if_pos (by omega), show n - 1 - (n - 1 - k) = k by omega]
    · rw [if_neg h]
      simp only [Option.map_some]
      by_cases h2 : n ≤ k + j
      · rw [if_pos h2, if_pos (by omega)]
      · rw [if_neg h2, if_neg (by omega)]
  · rw [List.getElem?_eq_none (by simp; omega)]
    split
    · rw [if_neg (by omega)]; rfl
    · rfl
theorem fromEnd_all {α : Type} (n : Nat) (f : Nat → α) (z : α) : fromEnd n n f z = (List.range n).map fun j => f (n - 1 - j) := by
  unfold fromEnd
  refine List.map_congr_left fun j _ => by rw [if_pos (by omega)]
theorem fromEnd_tab (n : Nat) (f : Nat → Int) : fromEnd n n f 0 = tab n fun j => f (n - 1 - j) := fromEnd_all n f 0


@[simp] theorem frzL_prs (r s : Nat) (cells : List AVal) (l : List (Int × Int)) : frzL r s cells (prs l) = prs l := by
  induction l with
  | nil => rfl
  | cons a l ih =>
    show frzL r s cells ([.int .i64 a.1, .int .i64 a.2] ++ prs l) = [.int .i64 a.1, .int .i64 a.2] ++ prs l
    simp [ih]
theorem zeros_prs (n : Nat) : (List.replicate n [AVal.int .i64 0, AVal.int .i64 0]).flatten = prs (List.replicate n (0, 0)) := by
  induction n with
  | zero => rfl
  | succ n ih => rw [List.replicate_succ, List.flatten_cons, ih, List.replicate_succ]; rfl
theorem law13_RapTurned_ok (r : Rp) (w : Int) (hw : 0 ≤ w ∧ w ≤ 255) (f : Bool) : APure Pg fn_law13_RapTurned [r.v, .int .u8 w, .bool f] (.bool true) := by
  have hva : r.v = .agg [L r.d.limits, LP r.d.beside, LP r.d.blows, LR r.rs] := rfl
  have hnl : r.d.limits.length = r.n := rfl
  have hkl : r.rs.length = r.k := rfl
  have cL := law13_long_ok r
  rw [hva] at cL
  refine law13_RapTurned.pure (by simp) ?_
  have hT := law13_RapTurned_t24 r
  simp only [AW_seq, AW_cut] at hT
  simp
  intro s
  refine PCallK.intro (PInv.func cL) ?_
  cases hlg : r.longB with
  | true =>
    simp
    refine PCallK.intro (PInv.func law13_alive_ok) ?_
    simp
    exact RetV.refl rfl
  | false =>
  have hs := Rp.longB_iff.1 hlg
  have cR := ref13_Rap_ok r hs
  rw [hva] at cR
  simp
  refine PCallK.intro (PInv.func cR) ?_
  by_cases hv : ¬ r.Valid
  · simp [hv]
    refine PCallK.intro (PInv.func law13_alive_ok) ?_
    simp
    exact RetV.refl rfl
  replace hv := Classical.not_not.1 hv
  have hn6 : r.n ≤ 6 := hv.d.n6
  have hn1 : 1 ≤ r.n := hv.d.n1
  have hk10 := hv.k10
  have hbl : r.d.blows.length = r.n := hv.d.bl
  have hww : IntKind.i64.wrap w = w := wrap_i64s (by omega) (by omega)
  obtain ⟨i, hi, hin⟩ := rem_u8 hw hn1
  have hn0 : ¬ r.n = 0 := by omega
  simp [hv, hnl, hww, hi, hn0]
  intro s8 s9 s10
  refine ⟨by unfold Fits; omega, fun s67 s70 => ?_⟩
  refine xAp_cp (by simp) (by simp) (by omega) ?_
  simp
  refine PCallK.intro (PInv.func (law13_find_ok _ _)) ?_
  simp
  intro s77 s78
  refine xApN_cp (n := r.rs.length) (cs := rfs r.rs) (by simp) (by simp) (by simp) (by omega) (by omega) ?_
  rw [show rfs r.rs ++ [AVal.int .i64 (i : Int), .bool f] = rfs (r.rs ++ [((i : Int), f)]) from rfs_push r.rs ((i : Int), f)]
  simp
  intro s83
  have z1 := ints_replicate r.n 0
  have z2 := zeros_prs r.n
  refine ⟨by omega, fun s85 => ⟨by omega, ?_⟩⟩
  refine Lp.intro' (σ := Nat) (inv := fun k => k ≤ r.n) (vw := fun k => [(1, .int .u8 w), (3, .ptr 3 0 (s+1)), (7, .int .i64 r.n), (8, .ptr 8 0 (s8+1)), (9, .ptr 9 0 (s9+1)), (10, .ptr 10 0 (s10+1)), (88, .int .i64 r.n), (89, .int .i64 k)])
    (hp := fun k => [(3, .row r.cells (s+1)), (8, .row [L r.d.limits, LP r.d.beside, LP r.d.blows, LR (r.rs ++ [((i : Int), f)])] (s8+1)), (9, .row [L r.d.limits, LP r.d.beside, LP r.d.blows, .nils] (s9+1)),
      (10, .row [.sl 83 0 (s83+1) r.n (.ex r.n), .nils, .sl 85 0 (s85+1) r.n (.ex r.n), .nils] (s10+1)), (83, .row (ints (fromEnd r.n k r.d.lim 0)) (s83+1)), (85, .row (prs (fromEnd r.n k (fun j => (r.d.lo j, r.d.hi j)) (0, 0))) (s85+1))]) (ms := fun k => r.n - k) 0 (by omega)
    (Sl.frzHp 78 (cells := rfs (r.rs ++ [((i : Int), f)])) (s := s78 + 1) (by simp) (Sl.refl ⟨rfl, ?_, ?_⟩)) ?_
  · simp
  · simp [z1, z2, fromEnd_zero, Rp.cells, LR]
  intro k hk J hJ
  by_cases hkc : k < r.n
  · have hcl : k < r.d.limits.length := hkc
    have hcb : k < r.d.blows.length := by omega
    have e0 : ((r.n : Int) - 1 - k).toNat = r.n - 1 - k := by omega
    have hcb2 : r.n - 1 - k < r.n := by omega
    have elim : r.d.limits[k] = r.d.lim k := r.d.lim_at hcl
    have elo : r.d.blows[k].1 = r.d.lo k := by simp [Drv.lo, hcb]
    have ehi : r.d.blows[k].2 = r.d.hi k := by simp [Drv.hi, hcb]
    have f1 := fromEnd_set r.n k r.d.lim 0 hkc
    have f3 := fromEnd_set r.n k (fun j => (r.d.lo j, r.d.hi j)) (0, 0) hkc
    simp [hkc, hcl, hcb, Rp.cells, e0, hcb2, elim, elo, ehi, f1]
    repeat first | refine And.intro (by omega) ?_ | refine And.intro (by unfold Fits; omega) ?_
    rw [prs_set2 _ _ (by simpa using hcb2), f3]
    exact hJ.next (k + 1) (by omega) (by omega) (by simp) (by simp [Rp.cells])
  obtain rfl : k = r.n := by omega
  have hml : fromEnd r.n r.n r.d.lim 0 = r.turn.d.limits := fromEnd_tab r.n r.d.lim
  have hmb : fromEnd r.n r.n (fun j => (r.d.lo j, r.d.hi j)) (0, 0) = r.turn.d.blows := fromEnd_all r.n _ _
  have hmll : r.turn.d.limits.length = r.n := r.turn_n
  have hmbl : r.turn.d.blows.length = r.n := by rw [(Rp.turn_valid hv).d.bl]; exact r.turn_n
  have hmp : r.turn.d.beside.length = r.d.beside.length := by simp [Rp.turn, Drv.mir]
  have hpl := hs.d.p
  simp [hml, hmb]
  refine hJ.exit ?_
  simp [Rp.cells]
  refine Lp.intro' (σ := Nat × Nat) (inv := fun x => x.1 ≤ r.d.beside.length) (vw := fun x => [(1, .int .u8 w), (3, .ptr 3 0 (s+1)), (7, .int .i64 r.n), (8, .ptr 8 0 (s8+1)), (9, .ptr 9 0 (s9+1)), (10, .ptr 10 0 (s10+1)), (123, LP r.d.beside), (124, .int .i64 r.d.beside.length), (125, .int .i64 x.1)])
    (hp := fun x => [(3, .row r.cells (s+1)), (8, .row [L r.d.limits, LP r.d.beside, LP r.d.blows, LR (r.rs ++ [((i : Int), f)])] (s8+1)), (9, .row [L r.d.limits, LP r.d.beside, LP r.d.blows, .nils] (s9+1)),
      (10, .row [L r.turn.d.limits, gS 2 144 x.1 x.2, LP r.turn.d.blows, .nils] (s10+1)), (144, gO x.1 (prs (r.turn.d.beside.take x.1)) x.2)]) (ms := fun x => r.d.beside.length - x.1) (0, 0) (by simp)
    (Sl.frzHp 83 (cells := ints r.turn.d.limits) (s := s83 + 1) (by simp) (Sl.frzHp 85 (cells := prs r.turn.d.blows) (s := s85 + 1) (by simp) (Sl.rowLe (cells := [L r.turn.d.limits, .nils, LP r.turn.d.blows, .nils]) (s := s10 + 1) 10 [L r.turn.d.limits, .es, LP r.turn.d.blows, .nils] (by simp [L, LP, hmll, hmbl]) ⟨ALe.refl _, ALe.nils_es, ALe.refl _, ALe.refl _, trivial⟩ (Sl.refl ⟨rfl, by simp, by simp [Rp.cells]⟩)))) ?_
  rintro ⟨k, st⟩ hk J2 hJ2
  simp only at hk
  by_cases hkc : k < r.d.beside.length
  · obtain ⟨a, b, hab⟩ : ∃ a b, r.d.beside[k] = (a, b) := ⟨_, _, rfl⟩
    have hpr := hv.pr (p := (a, b)) (by rw [← hab]; simp)
    simp only at hpr
    have htk : r.turn.d.beside.take (k + 1) = r.turn.d.beside.take k ++ [((r.n : Int) - 1 - b, (r.n : Int) - 1 - a)] := by
      have h1 : k < r.turn.d.beside.length := by omega
      rw [← List.take_append_getElem h1]
      congr 2
      simp only [Rp.turn, Drv.mir, List.getElem_map, hab]
      rfl
    simp [hkc, hab]
    refine ⟨by omega, fun s13 => ?_⟩
    repeat first | refine And.intro (by omega) ?_ | refine And.intro (by unfold Fits; omega) ?_
    intro s143 s144
    refine xApN_gS (cells := prs (r.turn.d.beside.take k)) (by simp) (by simp; omega) (by omega) (by omega) ?_
    simp
    (repeat first | refine And.intro (by omega) ?_ | refine And.intro (Fits.of (by omega) (by omega)) ?_)
    exact hJ2.next (k + 1, s144 + 1) (by simp; omega) (by simp; omega) (by simp) (by simp [htk, prs])
  obtain rfl : k = r.d.beside.length := by omega
  have htk : r.turn.d.beside.take r.d.beside.length = r.turn.d.beside := List.take_of_length_le (by omega)
  simp [htk]
  refine hJ2.exitS (Sl.toV [(1, .int .u8 w), (3, .ptr 3 0 (s+1)), (7, .int .i64 r.n), (8, .ptr 8 0 (s8+1)), (9, .ptr 9 0 (s9+1)), (10, .ptr 10 0 (s10+1))]
    [(3, .row r.cells (s+1)), (8, .row [L r.d.limits, LP r.d.beside, LP r.d.blows, LR (r.rs ++ [((i : Int), f)])] (s8+1)), (9, .row [L r.d.limits, LP r.d.beside, LP r.d.blows, .nils] (s9+1)), (10, .row [L r.turn.d.limits, LP r.turn.d.beside, LP r.turn.d.blows, .nils] (s10+1))] ?_ ?_)
  · by_cases hb0 : r.d.beside.length = 0
    · have hbe : r.turn.d.beside = [] := List.eq_nil_of_length_eq_zero (by omega)
      exact Sl.rowLe (cells := [L r.turn.d.limits, .es, LP r.turn.d.blows, .nils]) (s := s10 + 1) 10 [L r.turn.d.limits, .vl 0 [], LP r.turn.d.blows, .nils] (by simp [gS, hb0]) ⟨ALe.refl _, ALe.es_vl, ALe.refl _, ALe.refl _, trivial⟩ (Sl.refl ⟨rfl, by simp, by simp [hbe, LP, prs]⟩)
    · exact Sl.gSH 144 (m := r.d.beside.length) (cells := prs r.turn.d.beside) (s := st) (by omega) (by simp) (Sl.refl ⟨rfl, by simp, by simp [gS, hb0, LP, hmp, Rp.cells]⟩)
  simp [Rp.cells]
  have hrl : ∀ k, k ≤ r.k → (r.rs.reverse.take k).length = k := fun k hk => by simp; omega
  have htl : ∀ k, k ≤ r.k → (r.turn.rs.take k).length = k := fun k hk => by simp [Rp.turn]; omega
  refine Lp.intro' (σ := Nat × Nat × Nat) (inv := fun x => x.1 ≤ r.k) (vw := fun x => [(1, .int .u8 w), (3, .ptr 3 0 (s+1)), (7, .int .i64 r.n), (8, .ptr 8 0 (s8+1)), (9, .ptr 9 0 (s9+1)), (10, .ptr 10 0 (s10+1)), (149, LR r.rs), (150, .int .i64 r.k), (151, .int .i64 x.1)])
    (hp := fun x => [(3, .row r.cells (s+1)), (8, .row [L r.d.limits, LP r.d.beside, LP r.d.blows, LR (r.rs ++ [((i : Int), f)])] (s8+1)), (9, .row [L r.d.limits, LP r.d.beside, LP r.d.blows, gS 2 169 x.1 x.2.1] (s9+1)),
      (10, .row [L r.turn.d.limits, LP r.turn.d.beside, LP r.turn.d.blows, gS 2 181 x.1 x.2.2] (s10+1)), (169, gO x.1 (rfs (r.rs.reverse.take x.1)) x.2.1), (181, gO x.1 (rfs (r.turn.rs.take x.1)) x.2.2)]) (ms := fun x => r.k - x.1) (0, 0, 0) (by simp)
    (Sl.rowLe (cells := [L r.d.limits, LP r.d.beside, LP r.d.blows, .nils]) (s := s9 + 1) 9 [L r.d.limits, LP r.d.beside, LP r.d.blows, .es] (by simp) ⟨ALe.refl _, ALe.refl _, ALe.refl _, ALe.nils_es, trivial⟩ (Sl.rowLe (cells := [L r.turn.d.limits, LP r.turn.d.beside, LP r.turn.d.blows, .nils]) (s := s10 + 1) 10 [L r.turn.d.limits, LP r.turn.d.beside, LP r.turn.d.blows, .es] (by simp) ⟨ALe.refl _, ALe.refl _, ALe.refl _, ALe.nils_es, trivial⟩ (Sl.refl ⟨rfl, by simp [hkl], by simp [Rp.cells]⟩))) ?_
  rintro ⟨k, st1, st2⟩ hk J3 hJ3
  simp only at hk
  by_cases hkc : k < r.k
  · have hkn : k < r.rs.length := hkc
    obtain ⟨y, hy⟩ : ∃ y, r.rs[k] = y := ⟨_, rfl⟩
    have hgy : r.rs[k]? = some y := by rw [List.getElem?_eq_getElem hkn, hy]
    have hj : r.k - 1 - k < r.rs.length := by omega
    obtain ⟨z, hz⟩ : ∃ z, r.rs[r.k - 1 - k] = z := ⟨_, rfl⟩
    have hgz : r.rs[r.k - 1 - k]? = some z := by rw [List.getElem?_eq_getElem hj, hz]
    have e2 : ((r.k : Int) - 1 - k).toNat = r.k - 1 - k := by omega
    have hys := hv.seam (x := y) (by rw [← hy]; simp)
    have h1 := hrl k (by omega)
    have h2 := htl k (by omega)
    have hr1 : r.rs.reverse.take (k + 1) = r.rs.reverse.take k ++ [z] := by
      rw [List.take_add_one, List.getElem?_reverse (by omega), show r.rs.length - 1 - k = r.k - 1 - k from rfl, hgz]; rfl
    have hr2 : r.turn.rs.take (k + 1) = r.turn.rs.take k ++ [((r.n : Int) - 1 - y.1, y.2)] := by
      have : r.turn.rs[k]? = some ((r.n : Int) - 1 - y.1, y.2) := by simp [Rp.turn, hgy]
      rw [List.take_add_one, this]; rfl
    have hp1 : rfs (r.rs.reverse.take k) ++ [.int .i64 z.1, .bool z.2] = rfs (r.rs.reverse.take (k + 1)) := by rw [hr1]; exact rfs_push _ _
    have hp2 : rfs (r.turn.rs.take k) ++ [.int .i64 ((r.n : Int) - 1 - y.1), .bool y.2] = rfs (r.turn.rs.take (k + 1)) := by rw [hr2]; exact rfs_push _ ((r.n : Int) - 1 - y.1, y.2)
    simp [hkc, hkn, hgy, hy, Rp.cells, hkl, e2, hgz, hz]
    refine ⟨by omega, fun s15 => ?_⟩
    repeat first | refine And.intro (by omega) ?_ | refine And.intro (by unfold Fits; omega) ?_
    intro s168 s169
    refine xApN_gS (cells := rfs (r.rs.reverse.take k)) (by simp) (by rw [rfs_length, h1]) (by omega) (by omega) ?_
    rw [hp1]
    simp
    refine PCallK.intro (PInv.func (law13_find_ok _ _)) ?_
    simp
    intro s180 s181
    refine xApN_gS (cells := rfs (r.turn.rs.take k)) (by simp) (by rw [rfs_length, h2]) (by omega) (by omega) ?_
    rw [hp2]
    simp
    (repeat first | refine And.intro (by omega) ?_ | refine And.intro (Fits.of (by omega) (by omega)) ?_)
    exact hJ3.next (k + 1, s169 + 1, s181 + 1) (by simp; omega) (by simp; omega) (by simp) (by simp [Rp.cells])
  obtain rfl : k = r.k := by omega
  have hrt : r.rs.reverse.take r.k = r.rs.reverse := List.take_of_length_le (by simp [hkl])
  have htt : r.turn.rs.take r.k = r.turn.rs := List.take_of_length_le (by simp [Rp.turn, hkl])
  have htk2 : r.turn.rs.length = r.k := by simp [Rp.turn, hkl]
  have hym : ∀ x, x ∈ r.rs.reverse ↔ x ∈ r.rs := fun x => List.mem_reverse
  simp [hrt, htt]
  by_cases hk0 : r.k = 0
  · have hre : r.rs = [] := List.eq_nil_of_length_eq_zero hk0
    have hte : r.turn.rs = [] := List.eq_nil_of_length_eq_zero (by omega)
    refine hJ3.exitS (Sl.toV [(1, .int .u8 w), (3, .ptr 3 0 (s+1)), (7, .int .i64 r.n), (8, .ptr 8 0 (s8+1)), (9, .ptr 9 0 (s9+1)), (10, .ptr 10 0 (s10+1))]
      [(3, .row r.cells (s+1)), (8, .row [L r.d.limits, LP r.d.beside, LP r.d.blows, LR (r.rs ++ [((i : Int), f)])] (s8+1)), (9, .row [L r.d.limits, LP r.d.beside, LP r.d.blows, LR r.rs.reverse] (s9+1)), (10, .row r.turn.cells (s10+1))] ?_ ?_)
    · exact Sl.rowLe (cells := [L r.d.limits, LP r.d.beside, LP r.d.blows, .es]) (s := s9 + 1) 9 [L r.d.limits, LP r.d.beside, LP r.d.blows, .vl 0 []] (by simp [gS, hk0]) ⟨ALe.refl _, ALe.refl _, ALe.refl _, ALe.es_vl, trivial⟩ (Sl.rowLe (cells := [L r.turn.d.limits, LP r.turn.d.beside, LP r.turn.d.blows, .es]) (s := s10 + 1) 10 [L r.turn.d.limits, LP r.turn.d.beside, LP r.turn.d.blows, .vl 0 []] (by simp [gS, hk0]) ⟨ALe.refl _, ALe.refl _, ALe.refl _, ALe.es_vl, trivial⟩ (Sl.refl ⟨rfl, by simp, by simp [Rp.cells, hre, hte, LR, rfs, fl]⟩))
    simp [Rp.cells, hkl, hk0]
    exact Sl.toS [(3, .ptr 3 0 (s+1)), (7, .int .i64 r.n), (8, .ptr 8 0 (s8+1)), (9, .ptr 9 0 (s9+1)), (10, .ptr 10 0 (s10+1))]
      [(3, .row r.cells (s+1)), (8, .row [L r.d.limits, LP r.d.beside, LP r.d.blows, LR (r.rs ++ [((i : Int), f)])] (s8+1)), (9, .row [L r.d.limits, LP r.d.beside, LP r.d.blows, LR r.rs.reverse] (s9+1)), (10, .row r.turn.cells (s10+1))] (Sl.refl ⟨rfl, by simp, by simp [Rp.cells]⟩) (hT hs hv i hin f r.rs.reverse (by simp [hkl]; omega) hym _ _ _ _)
  by_cases hk1 : r.k < 10
  · obtain ⟨q, hq, hqk⟩ := rem_u8 hw (n := r.k) (by omega)
    have hqn : q < r.rs.length := hqk
    obtain ⟨z, hz⟩ : ∃ z, r.rs[q] = z := ⟨_, rfl⟩
    have hgz : r.rs[q]? = some z := by rw [List.getElem?_eq_getElem hqn, hz]
    have hrl' : r.rs.reverse.length = r.k := by simp [hkl]
    have hp1 : rfs r.rs.reverse ++ [.int .i64 z.1, .bool z.2] = rfs (r.rs.reverse ++ [z]) := rfs_push _ _
    have hym2 : ∀ x, x ∈ r.rs.reverse ++ [z] ↔ x ∈ r.rs := fun x => by
      rw [List.mem_append, List.mem_reverse, List.mem_singleton]
      constructor
      · rintro (h | rfl)
        · exact h
        · rw [← hz]; simp
      · exact .inl
    refine hJ3.exitS (Sl.toV [(1, .int .u8 w), (3, .ptr 3 0 (s+1)), (7, .int .i64 r.n), (8, .ptr 8 0 (s8+1)), (9, .ptr 9 0 (s9+1)), (10, .ptr 10 0 (s10+1))]
      [(3, .row r.cells (s+1)), (8, .row [L r.d.limits, LP r.d.beside, LP r.d.blows, LR (r.rs ++ [((i : Int), f)])] (s8+1)), (9, .row [L r.d.limits, LP r.d.beside, LP r.d.blows, gS 2 169 r.k st1] (s9+1)), (10, .row r.turn.cells (s10+1)), (169, gO r.k (rfs r.rs.reverse) st1)] ?_ ?_)
    · exact Sl.gSH 181 (m := r.k) (cells := rfs r.turn.rs) (s := st2) (by omega) (by simp) (Sl.refl ⟨rfl, by simp, by simp [Rp.cells, gS, hk0, LR, htk2]⟩)
    have hkp : 0 < r.k := by omega
    have hki : (r.k : Int) < 10 := by omega
    simp [Rp.cells, hkl, hk0, hkp, hki, hww, hq, hgz, hqk, hqn, hz]
    repeat first | refine And.intro (by omega) ?_ | refine And.intro (by unfold Fits; omega) ?_
    intro s207 s208
    refine xApN_gS (cells := rfs r.rs.reverse) (by simp) (by rw [rfs_length, hrl']) (by omega) (by omega) ?_
    rw [hp1]
    simp
    exact Sl.toS [(3, .ptr 3 0 (s+1)), (7, .int .i64 r.n), (8, .ptr 8 0 (s8+1)), (9, .ptr 9 0 (s9+1)), (10, .ptr 10 0 (s10+1))]
      [(3, .row r.cells (s+1)), (8, .row [L r.d.limits, LP r.d.beside, LP r.d.blows, LR (r.rs ++ [((i : Int), f)])] (s8+1)), (9, .row [L r.d.limits, LP r.d.beside, LP r.d.blows, LR (r.rs.reverse ++ [z])] (s9+1)), (10, .row r.turn.cells (s10+1))] (Sl.frzHp 208 (cells := rfs (r.rs.reverse ++ [z])) (s := s208 + 1) (by simp) (Sl.refl ⟨rfl, by simp, by simp [Rp.cells, LR, hkl]⟩)) (hT hs hv i hin f (r.rs.reverse ++ [z]) (by simp [hkl]; omega) hym2 _ _ _ _)
  · have hk : r.k = 10 := by omega
    refine hJ3.exitS (Sl.toV [(1, .int .u8 w), (3, .ptr 3 0 (s+1)), (7, .int .i64 r.n), (8, .ptr 8 0 (s8+1)), (9, .ptr 9 0 (s9+1)), (10, .ptr 10 0 (s10+1))]
      [(3, .row r.cells (s+1)), (8, .row [L r.d.limits, LP r.d.beside, LP r.d.blows, LR (r.rs ++ [((i : Int), f)])] (s8+1)), (9, .row [L r.d.limits, LP r.d.beside, LP r.d.blows, LR r.rs.reverse] (s9+1)), (10, .row r.turn.cells (s10+1))] ?_ ?_)
    · exact Sl.gSH 181 (m := r.k) (cells := rfs r.turn.rs) (s := st2) (by omega) (by simp) (Sl.gSH 169 (m := r.k) (cells := rfs r.rs.reverse) (s := st1) (by omega) (by simp) (Sl.refl ⟨rfl, by simp, by simp [Rp.cells, gS, hk0, LR, htk2, hkl]⟩))
    simp [Rp.cells, hkl, hk]
    exact Sl.toS [(3, .ptr 3 0 (s+1)), (7, .int .i64 r.n), (8, .ptr 8 0 (s8+1)), (9, .ptr 9 0 (s9+1)), (10, .ptr 10 0 (s10+1))]
      [(3, .row r.cells (s+1)), (8, .row [L r.d.limits, LP r.d.beside, LP r.d.blows, LR (r.rs ++ [((i : Int), f)])] (s8+1)), (9, .row [L r.d.limits, LP r.d.beside, LP r.d.blows, LR r.rs.reverse] (s9+1)), (10, .row r.turn.cells (s10+1))] (Sl.refl ⟨rfl, by simp, by simp [Rp.cells]⟩) (hT hs hv i hin f r.rs.reverse (by simp [hkl]; omega) hym _ _ _ _)
end Go.Cw
end
