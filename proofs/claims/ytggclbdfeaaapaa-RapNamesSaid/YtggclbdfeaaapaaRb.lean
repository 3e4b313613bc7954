/-
  The document's example of layer 13; the law Names.
-/
import Derived.Test.YtggclbdfeaaapaaRa
import Derived.Test.YtggclbdfeaaapaaAe
import Derived.Test.YtggclbdfeaaapaaRows
set_option linter.unusedVariables false
set_option linter.unusedSimpArgs false
set_option linter.unusedSectionVars false

/- What the document's reference of the rap tells: small functions. -/
section
set_option maxRecDepth 100000
set_option linter.unusedSimpArgs false
namespace Go.Cw
open Go Go.Proofs

theorem sumN_nonneg {n : Nat} {c : Nat → Int} (h : ∀ j, j < n → 0 ≤ c j) : 0 ≤ sumN n c := by
  induction n with
  | zero => exact Int.le_refl _
  | succ n ih => simp only [sumN]; have := ih fun j hj => h j (by omega); have := h n (by omega); omega

theorem sumN_le {n : Nat} {c : Nat → Int} {m : Int} (h : ∀ j, j < n → c j ≤ m) : sumN n c ≤ n * m := by
  induction n with
  | zero => simp [sumN]
  | succ n ih =>
    simp only [sumN]
    have := ih fun j hj => h j (by omega)
    have := h n (by omega)
    rw [show ((n + 1 : Nat) : Int) * m = n * m + m by rw [Int.natCast_add, Int.add_mul]; simp]
    omega






end Go.Cw
end

/- The reference: is a rap valid; does a seam sound dull. -/
section
set_option maxRecDepth 100000
set_option linter.unusedSimpArgs false
namespace Go.Cw
open Go Go.Proofs


end Go.Cw
end

/- The reference: does a seam sound dull. -/
section
set_option maxRecDepth 100000
set_option linter.unusedSimpArgs false
namespace Go.Cw
open Go Go.Proofs

/-- Does a pair let a seam sound dull? -/
def pairH (o : Int) (i : Nat) (p : Int × Int) : Bool := (decide (p.1 = (i : Int)) && inS o p.2.toNat) || (decide (p.2 = (i : Int)) && inS o p.1.toNat)


end Go.Cw
end

/- The reference's Hears tells what the program's around tells; Dull. -/
section
set_option maxRecDepth 100000
set_option linter.unusedSimpArgs false
namespace Go.Cw
open Go Go.Proofs

theorem Rp.Valid.pr {r : Rp} (hv : r.Valid) {p : Int × Int} (hp : p ∈ r.d.beside) : (0 ≤ p.1 ∧ p.1 < r.n) ∧ 0 ≤ p.2 ∧ p.2 < r.n := by
  obtain ⟨i, hi, rfl⟩ := List.getElem_of_mem hp
  have := hv.d.pr i _ (List.getElem?_eq_getElem hi)
  unfold Drv.Seam at this
  have hn : r.d.n = r.n := rfl
  omega

theorem Rp.hears_eq {r : Rp} (hv : r.Valid) (o : Int) {i : Nat} (hi : i < r.n) : (inS o i || r.d.beside.any (pairH o i)) = r.hears o i := by
  rw [Bool.eq_iff_iff]
  unfold Rp.hears Rp.near nearL pairH
  simp only [Bool.or_eq_true, List.any_eq_true, List.mem_range, Bool.and_eq_true, decide_eq_true_eq]
  constructor
  · rintro (h | ⟨p, hp, (⟨h1, h2⟩ | ⟨h1, h2⟩)⟩)
    · exact ⟨i, hi, h, .inl rfl⟩
    · have := hv.pr hp
      refine ⟨p.2.toNat, by omega, h2, .inr ⟨p, hp, .inl ?_⟩⟩
      exact Prod.ext h1 (by simp; omega)
    · have := hv.pr hp
      refine ⟨p.1.toNat, by omega, h2, .inr ⟨p, hp, .inr ?_⟩⟩
      exact Prod.ext (by simp; omega) h1
  · rintro ⟨j, hj, h, (rfl | ⟨p, hp, (rfl | rfl)⟩)⟩
    · exact .inl h
    · exact .inr ⟨_, hp, .inl ⟨rfl, by simpa using h⟩⟩
    · exact .inr ⟨_, hp, .inr ⟨rfl, by simpa using h⟩⟩


end Go.Cw
end

/- The reference's Dull. -/
section
set_option maxRecDepth 100000
set_option linter.unusedSimpArgs false
namespace Go.Cw
open Go Go.Proofs


end Go.Cw
end

/- The reference's opened: which sets open in some truth. -/
section
set_option maxRecDepth 100000
set_option linter.unusedSimpArgs false
namespace Go.Cw
open Go Go.Proofs

/-- Truth values below a number. -/
def bs (N : Nat) (f : Nat → Bool) : List AVal := (List.range N).map fun i => .bool (f i)
@[simp] theorem bs_length (N : Nat) (f : Nat → Bool) : (bs N f).length = N := by simp [bs]
theorem bs_zero (N : Nat) : List.replicate N (AVal.bool false) = bs N fun _ => false := by
  apply List.ext_getElem (by simp)
  intro i h1 h2; simp [bs]
theorem bs_at {N : Nat} {f : Nat → Bool} {i : Nat} (hi : i < N) : (bs N f)[i]? = some (.bool (f i)) := by simp [bs, hi]
theorem bs_get {N : Nat} {f : Nat → Bool} {i : Nat} (h : i < (bs N f).length) : (bs N f)[i] = .bool (f i) := by simp [bs]
theorem bs_set {N : Nat} {f : Nat → Bool} {i : Nat} (hi : i < N) (b : Bool) : (bs N f).set i (.bool b) = bs N (upd f i b) := by
  apply List.ext_getElem (by simp)
  intro j h1 h2
  simp [bs, List.getElem_set, upd]
  split <;> rename_i h
  · subst h; simp
  · rw [if_neg (fun e => h e.symm)]

namespace Rp
/-- The sets that open in some truth, in order. -/
noncomputable def opL (r : Rp) : List Nat := (List.range (2 ^ r.n)).filter fun s => r.d.truths.any fun t => decide (r.opn t = (s : Int))
end Rp


end Go.Cw
end

/- Which sets sound as was heard, in plain words. -/
section
set_option maxRecDepth 100000
set_option linter.unusedSimpArgs false
namespace Go.Cw
open Go Go.Proofs

namespace Rp
/-- Does a set sound as was heard by the raps of a set? -/
def fits (r : Rp) (q o : Int) : Bool := (List.range r.k).all fun j => !inS q j || ((r.rs[j]?.map fun x => r.hears o x.1.toNat == x.2).getD true)
theorem inS_dl (r : Rp) (x : Fin 64) {i : Nat} (hi : i < r.n) : inS (r.dl x) i = r.hears x.val i := inS_bits _ hi
theorem Valid.seam {r : Rp} (hv : r.Valid) {x : Int × Bool} (hx : x ∈ r.rs) : x.1 = (x.1.toNat : Int) ∧ x.1.toNat < r.n := by
  have hm := hv.sm x hx
  have hn : r.d.n = r.n := rfl
  unfold Drv.Seam at hm
  omega
theorem clo_fits {r : Rp} (hv : r.Valid) (q : Int) (x : Fin 64) : (r.clo q r.k).all (r.okO x) = r.fits q x.val := by
  suffices h : ∀ k, k ≤ r.k → (r.clo q k).all (r.okO x) = (List.range k).all fun j => !inS q j || ((r.rs[j]?.map fun y => r.hears x.val y.1.toNat == y.2).getD true) from h r.k (Nat.le_refl _)
  intro k hk
  induction k with
  | zero => rfl
  | succ k ih =>
    have hkl : k < r.rs.length := hk
    have hs := hv.seam (x := r.rs[k]) (by simp)
    simp only [clo, List.all_append, ih (by omega), List.range_succ, List.getElem?_eq_getElem hkl, List.all_cons, List.all_nil, Bool.and_true, Option.map_some, Option.getD_some]
    cases hq : inS q k
    · simp
    · simp [okO, r.inS_dl x hs.2]
theorem seenF_mem (r : Rp) (l : List (List Int)) (x : Fin 64) : x ∈ r.seenF l ↔ ∃ t ∈ l, r.opF t = x := by
  induction l using list_push_ind with
  | h0 => simp [seenF]
  | h1 l t ih =>
    rw [seenF_push, mem_insK, ih]
    simp only [List.mem_append, List.mem_singleton]
    constructor
    · rintro (⟨t', h1, h2⟩ | h)
      · exact ⟨t', .inl h1, h2⟩
      · exact ⟨t, .inr rfl, h.symm⟩
    · rintro ⟨t', h1 | rfl, h2⟩
      · exact .inl ⟨t', h1, h2⟩
      · exact .inr h2.symm
theorem mem_soundsF {r : Rp} (hv : r.Valid) (x : Fin 64) : x ∈ r.soundsF ↔ ∃ t ∈ r.d.truths, r.opn t = (x.val : Int) := by
  have hn6 : r.n ≤ 6 := hv.d.n6
  unfold soundsF
  rw [(sortF_perm _).mem_iff, seenF_mem]
  constructor
  · rintro ⟨t, h1, rfl⟩; exact ⟨t, h1, (r.opF_val hn6 t).symm⟩
  · rintro ⟨t, h1, h2⟩
    have := r.opF_val hn6 t
    exact ⟨t, h1, Fin.ext (by omega)⟩
theorem mem_opL (r : Rp) (s : Nat) : s ∈ r.opL ↔ s < 2 ^ r.n ∧ ∃ t ∈ r.d.truths, r.opn t = (s : Int) := by
  unfold opL
  simp only [List.mem_filter, List.mem_range, List.any_eq_true, decide_eq_true_eq]
theorem opL_lt (r : Rp) : r.opL.Pairwise (· < ·) := List.Pairwise.filter _ List.pairwise_lt_range
theorem soundsF_lt (r : Rp) : r.soundsF.Pairwise fun a b => a.val < b.val := by
  have h1 := sortF_sorted (r.seenF r.d.truths)
  have h2 : (sortF (r.seenF r.d.truths)).Nodup := (sortF_perm _).nodup_iff.2 (r.seenF_nodup _)
  unfold List.Nodup at h2
  refine List.Pairwise.imp₂ (fun a b h1 h2 => ?_) h1 h2
  have : a.val ≠ b.val := fun e => h2 (Fin.ext e)
  omega
theorem val_lt {r : Rp} (hv : r.Valid) {x : Fin 64} (hx : x ∈ r.soundsF) : (x.val : Int) < 2 ^ r.n := by
  obtain ⟨t, _, h⟩ := (mem_soundsF hv x).1 hx
  have := r.opn_lt t
  omega
theorem sounds_eq {r : Rp} (hv : r.Valid) : r.soundsF.map (fun x => x.val) = r.opL := by
  have hp : (r.soundsF.map (fun x => x.val)).Pairwise (· < ·) := List.pairwise_map.2 r.soundsF_lt
  have hm : ∀ s, s ∈ r.soundsF.map (fun x => x.val) ↔ s ∈ r.opL := fun s => by
    rw [mem_opL, List.mem_map]
    have hn6 : r.n ≤ 6 := hv.d.n6
    have h64 : (2 : Nat) ^ r.n ≤ 2 ^ 6 := Nat.pow_le_pow_right (by omega) hn6
    constructor
    · rintro ⟨x, hx, rfl⟩
      have := val_lt hv hx
      exact ⟨by exact_mod_cast this, (mem_soundsF hv x).1 hx⟩
    · rintro ⟨h1, h2⟩
      exact ⟨⟨s, by omega⟩, (mem_soundsF hv _).2 h2, rfl⟩
  refine List.Perm.eq_of_pairwise (le := (· ≤ ·)) (fun a b _ _ h1 h2 => Nat.le_antisymm h1 h2) (hp.imp fun h => Nat.le_of_lt h) (r.opL_lt.imp fun h => Nat.le_of_lt h) ?_
  refine (List.perm_ext_iff_of_nodup (hp.imp fun h => Nat.ne_of_lt h) (r.opL_lt.imp fun h => Nat.ne_of_lt h)).2 hm
/-- The sets that can be open, by the raps of a set. -/
noncomputable def refL (r : Rp) (q : Int) : List Int := (r.opL.map fun (i : Nat) => (i : Int)).filter (r.fits q)
theorem heard_eq {r : Rp} (hv : r.Valid) (q : Int) : (r.heardF q r.soundsF).map (fun x => (x.val : Int)) = r.refL q := by
  unfold refL heardF
  rw [← sounds_eq hv, List.map_map, List.filter_map]
  congr 1
  refine List.filter_congr fun x _ => ?_
  simp [clo_fits hv]
theorem sets_eq {r : Rp} (hv : r.Valid) : r.setsL = r.refL (2 ^ r.k - 1) := heard_eq hv _
theorem refL_len {r : Rp} (q : Int) : (r.refL q).length ≤ 2 ^ r.n := by
  unfold refL opL
  refine Nat.le_trans (List.length_filter_le _ _) ?_
  rw [List.length_map]
  refine Nat.le_trans (List.length_filter_le _ _) ?_
  simp
theorem refL_mem {r : Rp} {q x : Int} : x ∈ r.refL q ↔ (0 ≤ x ∧ x < 2 ^ r.n) ∧ (∃ t ∈ r.d.truths, r.opn t = x) ∧ r.fits q x = true := by
  unfold refL
  simp only [List.mem_filter, List.mem_map]
  constructor
  · rintro ⟨⟨i, hi, rfl⟩, h2⟩
    rw [mem_opL] at hi
    exact ⟨⟨by omega, by exact_mod_cast hi.1⟩, hi.2, h2⟩
  · rintro ⟨h1, h2, h3⟩
    refine ⟨⟨x.toNat, ?_, by omega⟩, h3⟩
    rw [mem_opL]
    refine ⟨?_, by obtain ⟨t, a, b⟩ := h2; exact ⟨t, a, by omega⟩⟩
    have : ((x.toNat : Nat) : Int) < ((2 ^ r.n : Nat) : Int) := by simp; omega
    exact_mod_cast this
theorem refL_lt (r : Rp) (q : Int) : (r.refL q).Pairwise (· < ·) := by
  unfold refL
  refine List.Pairwise.filter _ (List.pairwise_map.2 (r.opL_lt.imp fun h => by omega))
end Rp
end Go.Cw
end

/- The first of the least, as the reference looks for it; plain words on what is told. -/
section
set_option maxRecDepth 100000
set_option linter.unusedSimpArgs false
namespace Go.Cw
open Go Go.Proofs

theorem sumN_lt {n : Nat} {c d : Nat → Int} (h : ∀ i, i < n → c i ≤ d i) {j : Nat} (hj : j < n) (hjd : c j < d j) : sumN n c < sumN n d := by
  induction n with
  | zero => omega
  | succ n ih =>
    simp only [sumN]
    have h1 := h n (by omega)
    by_cases hjn : j = n
    · subst hjn
      have : sumN j c ≤ sumN j d := by
        have hmono : ∀ m, m ≤ j → sumN m c ≤ sumN m d := fun m => by
          induction m with
          | zero => exact fun _ => Int.le_refl _
          | succ m ihm => intro hm; simp only [sumN]; have := ihm (by omega); have := h m (by omega); omega
        exact hmono j (Nat.le_refl _)
      omega
    · have := ih (fun i hi => h i (by omega)) (by omega)
      omega
theorem inS_high {s : Int} (h0 : 0 ≤ s) {n i : Nat} (h1 : s < 2 ^ n) (hi : n ≤ i) : inS s i = false := by
  unfold inS
  have hp : (2 : Int) ^ n ≤ 2 ^ i := by
    have := Nat.pow_le_pow_right (n := 2) (by omega) hi
    exact_mod_cast this
  rw [Int.ediv_eq_zero_of_lt h0 (by omega)]; rfl
theorem sizeS_n {s : Int} {n : Nat} (hn : n ≤ 60) (h : 0 ≤ s ∧ s < 2 ^ n) : sizeS s = sumN n fun i => if inS s i then 1 else 0 :=
  sumN_ext hn fun i hi => by rw [inS_high h.1 h.2 hi]; rfl
theorem inS_all {n i : Nat} (hi : i < n) : inS (2 ^ n - 1) i = true := by rw [← bits_all1, inS_bits _ hi]
theorem sizeS_lt {s : Int} {n : Nat} (hn : n ≤ 60) (h : 0 ≤ s ∧ s < 2 ^ n) (hne : s ≠ 2 ^ n - 1) : sizeS s < sizeS (2 ^ n - 1) := by
  have hp := two_pow_pos n
  rw [sizeS_n hn h, sizeS_n hn ⟨by omega, by omega⟩]
  obtain ⟨i, hi, hf⟩ : ∃ i, i < n ∧ inS s i = false := by
    refine Classical.byContradiction fun hc => hne ?_
    rw [← bits_inS h, ← bits_all1]
    refine bits_congr fun i hi => ?_
    cases hb : inS s i
    · exact absurd ⟨i, hi, hb⟩ hc
    · rfl
  refine sumN_lt (fun j hj => ?_) hi ?_
  · simp only [inS_all hj]
    split <;> simp
  · simp only [inS_all hi, hf]
    simp

/-- What was found, or another one. -/
def refB (m : Int) (B : Option (Int × Int)) : Int := (B.map Prod.fst).getD m
theorem tab_nat (k : Nat) : tab (k + 1) (fun i => (i : Int)) = tab k (fun i => (i : Int)) ++ [(k : Int)] := tab_succ _ _
theorem bestC_sz {g : Int → Int × Bool} (hg : ∀ y, (g y).1 = sizeS y) (k : Nat) : ∀ b, bestC g (tab k fun i => (i : Int)) = some b → b.2 = sizeS b.1 ∧ 0 ≤ b.1 ∧ b.1 < k ∧ (g b.1).2 = true := by
  induction k with
  | zero => intro b h; simp [tab, bestC] at h
  | succ k ih =>
    intro b h
    rw [tab_nat, bestC_push] at h
    obtain ⟨B, hB⟩ : ∃ B, bestC g (tab k fun i => (i : Int)) = B := ⟨_, rfl⟩
    rw [hB] at h ih
    have keep : B = some b → b.2 = sizeS b.1 ∧ 0 ≤ b.1 ∧ b.1 < ((k + 1 : Nat) : Int) ∧ (g b.1).2 = true := fun e => by
      obtain ⟨h1, h2, h3, h4⟩ := ih b e
      exact ⟨h1, h2, by omega, h4⟩
    have new : (g k).2 = true → some ((k : Int), (g k).1) = some b → b.2 = sizeS b.1 ∧ 0 ≤ b.1 ∧ b.1 < ((k + 1 : Nat) : Int) ∧ (g b.1).2 = true := fun h1 e => by
      cases e
      exact ⟨hg _, by simp, by simp; omega, h1⟩
    unfold betC at h
    by_cases h2 : (g k).2 = true
    · rw [if_pos h2] at h
      cases B with
      | none => exact new h2 h
      | some c =>
        simp only at h
        split at h
        · exact new h2 h
        · exact keep h
    · rw [if_neg h2] at h
      exact keep h
theorem refB_step {g : Int → Int × Bool} (hg : ∀ y, (g y).1 = sizeS y) {n k : Nat} (hn : n ≤ 60) (hk : k < 2 ^ n) :
    refB (2 ^ n - 1) (bestC g (tab (k + 1) fun i => (i : Int))) = if sizeS k < sizeS (refB (2 ^ n - 1) (bestC g (tab k fun i => (i : Int)))) ∧ (g k).2 = true then (k : Int) else refB (2 ^ n - 1) (bestC g (tab k fun i => (i : Int))) := by
  have hkp : (k : Int) < 2 ^ n := by exact_mod_cast hk
  have hi := bestC_sz hg k
  rw [tab_nat, bestC_push]
  obtain ⟨B, hB⟩ : ∃ B, bestC g (tab k fun i => (i : Int)) = B := ⟨_, rfl⟩
  rw [hB] at hi ⊢
  unfold betC
  by_cases h2 : (g k).2 = true
  · rw [if_pos h2]
    cases B with
    | none =>
      simp only [h2, and_true]
      show (k : Int) = if sizeS k < sizeS (2 ^ n - 1) then (k : Int) else 2 ^ n - 1
      by_cases he : (k : Int) = 2 ^ n - 1
      · rw [if_neg (by rw [he]; omega)]; exact he
      · rw [if_pos (sizeS_lt hn ⟨by omega, hkp⟩ he)]
    | some c =>
      obtain ⟨h3, _⟩ := hi c rfl
      simp only [h2, and_true, hg, h3]
      show refB (2 ^ n - 1) (if sizeS k < sizeS c.1 then some ((k : Int), sizeS k) else some c) = if sizeS k < sizeS c.1 then (k : Int) else c.1
      split <;> rfl
  · rw [if_neg h2, if_neg fun h => h2 h.2]
theorem bestC_some {g : Int → Int × Bool} {l : List Int} {x : Int} (hx : x ∈ l) (h : (g x).2 = true) : (bestC g l).isSome = true := by
  induction l using list_push_ind with
  | h0 => simp at hx
  | h1 l y ih =>
    rw [bestC_push]
    unfold betC
    rcases List.mem_append.1 hx with h1 | h1
    · have := ih h1
      obtain ⟨c, hc⟩ := Option.isSome_iff_exists.1 this
      rw [hc]
      simp only
      split
      · split <;> rfl
      · rfl
    · simp only [List.mem_singleton] at h1
      subst h1
      rw [if_pos h]
      cases bestC g l with
      | none => rfl
      | some c => simp only; split <;> rfl

namespace Rp
theorem hears_self {r : Rp} {o : Int} {i : Nat} (hi : i < r.n) (h : inS o i = true) : r.hears o i = true := by
  unfold hears
  exact List.any_eq_true.2 ⟨i, List.mem_range.2 hi, by simp [h, near, nearL]⟩
theorem dull_and {r : Rp} (hn : r.n ≤ 60) (x : Fin 64) {q : Int} (hq : 0 ≤ q ∧ q < 2 ^ r.n) : decide (bitI .and .u64 (r.dl x) q = 0) = !((List.range r.n).any fun s => inS q s && r.hears x.val s) := by
  have h1 : bitI .and .u64 (r.dl x) q = bits (fun i => r.hears x.val i && inS q i) r.n := by
    conv => lhs; rw [← bits_inS hq]
    exact bitsU_and _ _ hn
  rw [h1, Bool.eq_iff_iff]
  simp only [decide_eq_true_eq, Bool.not_eq_true', List.any_eq_false, List.mem_range, bits_zero]
  constructor
  · intro h i hi; have := h i hi; rw [Bool.and_comm]; simpa using this
  · intro h i hi; have := h i hi; rw [Bool.and_comm]; simpa using this
/-- Does no set of some but the empty one sound sharp at all seams of a set? -/
def showsP (r : Rp) (l : List Int) (q : Int) : Bool := l.all fun x => decide (x = 0) || (List.range r.n).any fun s => inS q s && r.hears x s
theorem few_shows {r : Rp} (hn : r.n ≤ 60) (l : List (Fin 64)) {q : Int} (hq : 0 ≤ q ∧ q < 2 ^ r.n) : (fewG r.dl l q).2 = r.showsP (l.map fun x => (x.val : Int)) q := by
  have e : hidP r.dl q = fun x : Fin 64 => !((fun x : Int => decide (x = 0) || (List.range r.n).any fun s => inS q s && r.hears x s) ∘ fun x : Fin 64 => (x.val : Int)) x := funext fun x => by
    simp only [hidP, dull_and hn x hq, Function.comp_apply, Bool.not_or]
  unfold showsP
  show (!l.any (hidP r.dl q)) = _
  rw [e, List.all_map, List.all_eq_not_any_not]
theorem shows_all {r : Rp} {q : Int} : r.showsP (r.refL q) (2 ^ r.n - 1) = true := by
  unfold showsP
  rw [List.all_eq_true]
  intro x hx
  obtain ⟨h1, _⟩ := refL_mem.1 hx
  by_cases h0 : x = 0
  · simp [h0]
  · obtain ⟨i, hi, hb⟩ : ∃ i, i < r.n ∧ inS x i = true := by
      refine Classical.byContradiction fun hc => h0 ?_
      rw [← bits_inS h1]
      refine bits_zero.2 fun i hi => ?_
      cases hb : inS x i
      · rfl
      · exact absurd ⟨i, hi, hb⟩ hc
    simp only [Bool.or_eq_true]
    exact .inr (List.any_eq_true.2 ⟨i, List.mem_range.2 hi, by simp [inS_all hi, hears_self hi hb]⟩)
theorem cnt_eq (r : Rp) (l : List (Fin 64)) {s : Nat} (hs : s < r.n) : cntD r.dl l s = ((l.map fun x => (x.val : Int)).filter fun x => r.hears x s).length := by
  unfold cntD
  rw [List.filter_map, List.length_map]
  congr 1
  refine List.filter_congr fun x _ => ?_
  exact r.inS_dl x hs
theorem rest_sub {r : Rp} {q : Int} (hq : 0 ≤ q ∧ q < 2 ^ r.k) : r.restS q = 2 ^ r.k - 1 - q := by
  have h : ∀ n, bits (fun i => !inS q i) n + bits (inS q) n = 2 ^ n - 1 := fun n => by
    induction n with
    | zero => rfl
    | succ n ih =>
      simp only [bits, Int.pow_succ]
      by_cases h : inS q n = true <;> simp [h] <;> omega
  have := h r.k
  rw [bits_inS hq] at this
  unfold restS
  omega
end Rp
end Go.Cw
end

/- The reference: what of some sets was heard; Sets. -/
section
set_option maxRecDepth 100000
set_option linter.unusedSimpArgs false
namespace Go.Cw
open Go Go.Proofs



end Go.Cw
end

/- The reference: Open, Sound; does a set show that the hull is sound. -/
section
set_option maxRecDepth 100000
set_option linter.unusedSimpArgs false
namespace Go.Cw
open Go Go.Proofs

namespace Rp
/-- In how many of some sets is a seam? -/
def cntS (l : List Int) (i : Nat) : Nat := (l.filter fun x => inS x i).length
theorem cntS_push (l : List Int) (x : Int) (i : Nat) : cntS (l ++ [x]) i = cntS l i + (if inS x i then 1 else 0) := by
  unfold cntS
  rw [List.filter_append, List.length_append]
  congr 1
  cases h : inS x i
  · rw [List.filter_cons_of_neg (by simp [h])]; rfl
  · rw [List.filter_cons_of_pos (by simp [h])]; rfl
theorem cntS_le (l : List Int) (i : Nat) : cntS l i ≤ l.length := List.length_filter_le _ _
theorem cntS_any (l : List (Fin 64)) (i : Nat) : decide (0 < cntS (l.map fun x => (x.val : Int)) i) = anyS l i := by
  unfold cntS anyS
  rw [List.filter_map, List.length_map, Bool.eq_iff_iff, decide_eq_true_eq, List.length_pos_iff, List.any_eq_true]
  constructor
  · intro h
    obtain ⟨x, hx⟩ := List.exists_mem_of_ne_nil _ h
    rw [List.mem_filter] at hx
    exact ⟨x, hx.1, hx.2⟩
  · rintro ⟨x, h1, h2⟩
    exact List.ne_nil_of_mem (List.mem_filter.2 ⟨h1, h2⟩)
theorem cntS_all (l : List (Fin 64)) (i : Nat) : decide (cntS (l.map fun x => (x.val : Int)) i = l.length) = allS l i := by
  unfold cntS allS
  rw [List.filter_map, List.length_map, Bool.eq_iff_iff, decide_eq_true_eq, List.length_filter_eq_length_iff, List.all_eq_true]
  rfl
theorem canF_mem {r : Rp} {x : Fin 64} (h : x ∈ r.canF) : x ∈ r.soundsF := by
  unfold canF heardF at h
  exact (List.mem_filter.1 h).1
theorem anyS_high {r : Rp} (hv : r.Valid) {i : Nat} (hi : r.n ≤ i) : anyS r.canF i = false := by
  unfold anyS
  rw [List.any_eq_false]
  intro x hx
  rw [inS_high (by omega) (val_lt hv (canF_mem hx)) hi]; simp
theorem allS_high {r : Rp} (hv : r.Valid) (hc : r.canF ≠ []) {i : Nat} (hi : r.n ≤ i) : allS r.canF i = false := by
  obtain ⟨x, hx⟩ := List.exists_mem_of_ne_nil _ hc
  unfold allS
  rw [List.all_eq_false]
  refine ⟨x, hx, ?_⟩
  rw [inS_high (by omega) (val_lt hv (canF_mem hx)) hi]; simp
theorem setsL_mem {r : Rp} (hv : r.Valid) {x : Int} (h : x ∈ r.setsL) : 0 ≤ x ∧ x < 2 ^ r.n := by
  rw [sets_eq hv] at h
  exact (refL_mem.1 h).1
theorem setsL_nil (r : Rp) : r.canF = [] ↔ r.setsL = [] := by unfold setsL; simp
theorem setsL_length (r : Rp) : r.setsL.length = r.canF.length := by unfold setsL; simp
theorem setsL_len {r : Rp} (hv : r.Valid) : r.setsL.length ≤ 64 := by
  rw [sets_eq hv]
  have := r.refL_len (2 ^ r.k - 1)
  have h6 : (2 : Nat) ^ r.n ≤ 2 ^ 6 := Nat.pow_le_pow_right (by omega) hv.d.n6
  omega
end Rp




end Go.Cw
end

/- The reference: Fewest and Next. -/
section
set_option maxRecDepth 100000
set_option linter.unusedSimpArgs false
namespace Go.Cw
open Go Go.Proofs


namespace Rp
/-- What the reference has found. -/
def refN (m : Int) (B : Option (Int × Int)) : Int × Int := B.getD (0, m)
theorem refN_lt (dl : Fin 64 → Int) (l : List (Fin 64)) (k : Nat) : ∀ b, bestC (nextG dl l) (tab k fun i => (i : Int)) = some b → b.2 < l.length ∧ 0 ≤ b.1 ∧ b.1 < k := by
  induction k with
  | zero => intro b h; simp [tab, bestC] at h
  | succ k ih =>
    intro b h
    rw [tab_nat, bestC_push] at h
    obtain ⟨B, hB⟩ : ∃ B, bestC (nextG dl l) (tab k fun i => (i : Int)) = B := ⟨_, rfl⟩
    rw [hB] at h ih
    have keep : B = some b → b.2 < l.length ∧ 0 ≤ b.1 ∧ b.1 < ((k + 1 : Nat) : Int) := fun e => by
      obtain ⟨h1, h2, h3⟩ := ih b e
      exact ⟨h1, h2, by omega⟩
    have new : (nextG dl l k).2 = true → some ((k : Int), (nextG dl l k).1) = some b → b.2 < l.length ∧ 0 ≤ b.1 ∧ b.1 < ((k + 1 : Nat) : Int) := fun h1 e => by
      cases e
      refine ⟨?_, by simp, by simp; omega⟩
      unfold nextG at h1 ⊢
      simp only [decide_eq_true_eq] at h1 ⊢
      omega
    unfold betC at h
    by_cases h2 : (nextG dl l k).2 = true
    · rw [if_pos h2] at h
      cases B with
      | none => exact new h2 h
      | some c =>
        simp only at h
        split at h
        · exact new h2 h
        · exact keep h
    · rw [if_neg h2] at h
      exact keep h
theorem refN_step (dl : Fin 64 → Int) (l : List (Fin 64)) (k : Nat) :
    refN l.length (bestC (nextG dl l) (tab (k + 1) fun i => (i : Int))) = if max (cntD dl l k : Int) (l.length - cntD dl l k) < (refN l.length (bestC (nextG dl l) (tab k fun i => (i : Int)))).2 then ((k : Int), max (cntD dl l k : Int) (l.length - cntD dl l k)) else refN l.length (bestC (nextG dl l) (tab k fun i => (i : Int))) := by
  have hi := refN_lt dl l k
  have hcl : cntD dl l k ≤ l.length := List.length_filter_le _ _
  rw [tab_nat, bestC_push]
  obtain ⟨B, hB⟩ : ∃ B, bestC (nextG dl l) (tab k fun i => (i : Int)) = B := ⟨_, rfl⟩
  rw [hB] at hi ⊢
  have hg1 : (nextG dl l k).1 = max (cntD dl l k : Int) (l.length - cntD dl l k) := rfl
  have hg2 : (nextG dl l k).2 = decide (1 ≤ (cntD dl l k : Int) ∧ (cntD dl l k : Int) ≤ l.length - 1) := rfl
  unfold betC
  by_cases h2 : 1 ≤ (cntD dl l k : Int) ∧ (cntD dl l k : Int) ≤ l.length - 1
  · rw [if_pos (by rw [hg2]; simpa using h2), hg1]
    cases B with
    | none =>
      show ((k : Int), max (cntD dl l k : Int) (l.length - cntD dl l k)) = if max (cntD dl l k : Int) (l.length - cntD dl l k) < (l.length : Int) then _ else _
      rw [if_pos (by omega)]
    | some c =>
      show refN l.length (if max (cntD dl l k : Int) (l.length - cntD dl l k) < c.2 then some ((k : Int), max (cntD dl l k : Int) (l.length - cntD dl l k)) else some c) = if max (cntD dl l k : Int) (l.length - cntD dl l k) < c.2 then _ else c
      split <;> rfl
  · rw [if_neg (by rw [hg2]; simpa using h2)]
    rw [if_neg]
    cases B with
    | none => show ¬ max (cntD dl l k : Int) (l.length - cntD dl l k) < (l.length : Int); omega
    | some c =>
      have := (hi c rfl).1
      show ¬ max (cntD dl l k : Int) (l.length - cntD dl l k) < c.2
      omega
end Rp


end Go.Cw
end

/- The reference: Wrong, Ints; the laws' own small functions. -/
section
set_option maxRecDepth 100000
set_option linter.unusedSimpArgs false
namespace Go.Cw
open Go Go.Proofs

namespace Rp
theorem opL_all {r : Rp} : ∀ x ∈ (r.opL.map fun (i : Nat) => (i : Int)), 0 ≤ x ∧ x < 2 ^ r.n := fun x hx => by
  obtain ⟨i, hi, rfl⟩ := List.mem_map.1 hx
  have := (r.mem_opL i).1 hi
  exact ⟨by omega, by exact_mod_cast this.1⟩
theorem opL_len {r : Rp} (hv : r.Valid) : (r.opL.map fun (i : Nat) => (i : Int)).length ≤ 1000 := by
  have hn6 : r.n ≤ 6 := hv.d.n6
  have : r.opL.length ≤ 2 ^ r.n := by
    unfold opL; refine Nat.le_trans (List.length_filter_le _ _) ?_; simp
  have h6 : (2 : Nat) ^ r.n ≤ 2 ^ 6 := Nat.pow_le_pow_right (by omega) hn6
  simp; omega
theorem opL_ne {r : Rp} (hv : r.Valid) : r.opL ≠ [] := by
  obtain ⟨t, ht⟩ := List.exists_mem_of_ne_nil _ hv.d.truths_ne
  have h := r.opn_lt t
  refine List.ne_nil_of_mem (a := (r.opn t).toNat) ((r.mem_opL _).2 ⟨?_, t, ht, by omega⟩)
  have : (((r.opn t).toNat : Nat) : Int) < ((2 ^ r.n : Nat) : Int) := by simp; omega
  exact_mod_cast this
theorem inS_zero (i : Nat) : inS 0 i = false := by simp [inS]
theorem fits_zero (r : Rp) (o : Int) : r.fits 0 o = true := by
  unfold fits
  rw [List.all_eq_true]
  intro j _
  simp [inS_zero]
theorem wr_ok {r : Rp} (hv : r.Valid) {q : Int} (hq : 0 ≤ q ∧ q < 2 ^ r.k) : (r.wrG q).2 = decide (r.refL (2 ^ r.k - 1 - q) ≠ []) := by
  have h := heard_eq hv (2 ^ r.k - 1 - q)
  unfold wrG
  simp only [rest_sub hq]
  rw [Bool.eq_iff_iff, decide_eq_true_eq, decide_eq_true_eq, ← h]
  simp [List.length_pos_iff]
end Rp


theorem ref13_Ints_ok (a b : List Int) (ha : a.length ≤ 100000) (hb : b.length ≤ 100000) : APure Pg fn_ref13_Ints [L a, L b] (.bool (decide (a = b))) := by
  refine ref13_Ints.pure (by simp) ?_
  simp
  refine PCallK.intro (PInv.func (ref05_Ints_ok a b ha hb)) ?_
  simp
  exact RetV.refl rfl
theorem law13_ints_ok (a b : List Int) (ha : a.length ≤ 100000) (hb : b.length ≤ 100000) : APure Pg fn_law13_ints [L a, L b] (.bool (decide (a = b))) := by
  refine law13_ints.pure (by simp) ?_
  simp
  refine PCallK.intro (PInv.func (ref13_Ints_ok a b ha hb)) ?_
  simp
  exact RetV.refl rfl
theorem law13_find_ok (a : Int) (b : Bool) : APure Pg fn_law13_find [.int .i64 a, .bool b] (.agg [.int .i64 a, .bool b]) := by
  refine law13_find.pure (by simp) ?_
  simp
  intro s
  exact RetV.refl rfl
theorem law13_span_ok (a b : Int) : APure Pg fn_law13_span [.int .i64 a, .int .i64 b] (SP2 (a, b)) := by
  refine law13_span.pure (by simp) ?_
  simp
  intro s
  exact RetV.refl (by simp [SP2])
/-- Is there far too much of something? -/
def Rp.longB (r : Rp) : Bool := decide ¬ (r.d.limits.length ≤ 40 ∧ r.d.beside.length ≤ 40 ∧ r.d.blows.length ≤ 40 ∧ r.rs.length ≤ 40)
theorem Rp.longB_iff {r : Rp} : r.longB = false ↔ r.Small := by
  unfold Rp.longB
  simp only [decide_eq_false_iff_not, Classical.not_not]
  exact ⟨fun ⟨a, b, c, d⟩ => ⟨⟨a, b, c⟩, d⟩, fun h => ⟨h.d.l, h.d.p, h.d.b, h.k⟩⟩

end Go.Cw
end

/- What the document fixes of its example is met. -/
section
set_option maxRecDepth 100000
set_option linter.unusedSimpArgs false
namespace Go.Cw
open Go Go.Proofs

namespace Drv
def runLs (d : Drv) (order : List Nat) : Nat → List Int → Option (List Nat × List Int)
  | 0, _ => none
  | f + 1, l => match d.firstCan order (ofL l) with
    | none => some ([], l)
    | some i => match runLs d order f (tab d.n (d.fire i (ofL l))) with
      | some (all, l') => some (i :: all, l')
      | none => none

theorem fire_tab {d : Drv} (hv : d.Valid) {i : Nat} (hi : i < d.n) {l : List Int} (hl : l.length = d.n) : ofL (tab d.n (d.fire i (ofL l))) = d.fire i (ofL l) := by
  funext j
  by_cases hj : j < d.n
  · simp [ofL, hj]
  · rw [ofL_none _ (by simp; omega)]
    unfold fire
    rw [ofL_none l (by omega), cnt_none hv i (by omega), if_neg (by omega)]
    rfl

theorem runLs_ok {d : Drv} (hv : d.Valid) {order : List Nat} (ho : ∀ i ∈ order, i < d.n) : ∀ {f : Nat} {l l' : List Int} {all : List Nat}, l.length = d.n → d.runLs order f l = some (all, l') → d.Runs order (ofL l) all (ofL l') ∧ l'.length = d.n
  | 0, _, _, _, _, h => by simp [runLs] at h
  | f + 1, l, l', all, hl, h => by
    simp only [runLs] at h
    split at h
    · rename_i hf
      simp only [Option.some.injEq, Prod.mk.injEq] at h
      obtain ⟨rfl, rfl⟩ := h
      exact ⟨.stop hf, hl⟩
    · rename_i i hf
      split at h
      · rename_i all' l'' hr
        simp only [Option.some.injEq, Prod.mk.injEq] at h
        obtain ⟨rfl, rfl⟩ := h
        obtain ⟨h1, h2⟩ := runLs_ok hv ho (by simp) hr
        rw [fire_tab hv (ho i (firstCan_some hf).1) hl] at h1
        exact ⟨.step hf h1, h2⟩
      · cases h

theorem run_of {d : Drv} (hv : d.Valid) {f : Nat} {l l' : List Int} {all : List Nat} (hl : l.length = d.n) (h : d.runLs (List.range d.n) f l = some (all, l')) : d.left (ofL l) = ofL l' ∧ d.odo (ofL l) = times all := by
  have r := (runLs_ok hv (by simp) hl h).1
  unfold left odo
  rw [r.eq]
  exact ⟨rfl, rfl⟩
end Drv

/-- The drive of the document's example, and a rap of it. -/
def smd : Drv := ⟨[3, 3, 3, 3], [(0, 1), (1, 2), (2, 3)], [(2, 3), (0, 0), (0, 0), (1, 3)]⟩
def smr (rs : List (Int × Bool)) : Rp := ⟨smd, rs⟩
theorem smd_valid : smd.Valid := by
  refine ⟨by decide, by decide, by decide, fun i p hp => ?_, fun i l s hl hs => ?_⟩
  · match i with
    | 0 =>
      simp [smd] at hp
      subst hp
      refine ⟨by decide, by decide, by decide, fun k hk => absurd hk (by omega)⟩
    | 1 =>
      simp [smd] at hp
      subst hp
      refine ⟨by decide, by decide, by decide, fun k hk => ?_⟩
      obtain rfl : k = 0 := by omega
      decide
    | 2 =>
      simp [smd] at hp
      subst hp
      refine ⟨by decide, by decide, by decide, fun k hk => ?_⟩
      rcases (show k = 0 ∨ k = 1 by omega) with rfl | rfl <;> decide
    | i + 3 => simp [smd] at hp
  · match i with
    | 0 => simp [smd] at hl hs; subst hl hs; decide
    | 1 => simp [smd] at hl hs; subst hl hs; decide
    | 2 => simp [smd] at hl hs; subst hl hs; decide
    | 3 => simp [smd] at hl hs; subst hl hs; decide
    | i + 4 => simp [smd] at hl
theorem smr_small (rs : List (Int × Bool)) (h : rs.length ≤ 10) : (smr rs).Small := ⟨⟨by simp [smr, smd], by simp [smr, smd], by simp [smr, smd]⟩, by simp [smr]; omega⟩
theorem smr_valid (rs : List (Int × Bool)) (h : rs.length ≤ 10 ∧ ∀ x ∈ rs, 0 ≤ x.1 ∧ x.1 < 4) : (smr rs).Valid := ⟨smd_valid, h.1, fun x hx => h.2 x hx⟩
theorem smd_truths : smd.truths = [[2, 0, 0, 1], [2, 0, 0, 2], [2, 0, 0, 3], [3, 0, 0, 1], [3, 0, 0, 2], [3, 0, 0, 3]] := by decide
theorem smr_opn (rs : List (Int × Bool)) {l l' : List Int} {all : List Nat} (hl : l.length = 4) (h : smd.runLs [0, 1, 2, 3] 60 l = some (all, l')) : (smr rs).opn l = bits (fun k => decide (0 < times all k)) 4 := by
  have e := (Drv.run_of smd_valid (f := 60) hl h).2
  unfold Rp.opn
  show bits (fun k => decide (0 < smd.odo (ofL l) k)) 4 = _
  rw [e]
theorem smr_opL (rs : List (Int × Bool)) : (smr rs).opL = [0, 1, 8, 9] := by
  have e1 : (smr rs).opn [2, 0, 0, 1] = 0 := smr_opn rs (all := []) (l' := [2, 0, 0, 1]) rfl (by decide)
  have e2 : (smr rs).opn [2, 0, 0, 2] = 0 := smr_opn rs (all := []) (l' := [2, 0, 0, 2]) rfl (by decide)
  have e3 : (smr rs).opn [2, 0, 0, 3] = 8 := smr_opn rs (all := [3]) (l' := [2, 0, 1, 0]) rfl (by decide)
  have e4 : (smr rs).opn [3, 0, 0, 1] = 1 := smr_opn rs (all := [0]) (l' := [0, 1, 0, 1]) rfl (by decide)
  have e5 : (smr rs).opn [3, 0, 0, 2] = 1 := smr_opn rs (all := [0]) (l' := [0, 1, 0, 2]) rfl (by decide)
  have e6 : (smr rs).opn [3, 0, 0, 3] = 9 := smr_opn rs (all := [0, 3]) (l' := [0, 1, 1, 0]) rfl (by decide)
  unfold Rp.opL
  have : (fun s : Nat => (smr rs).d.truths.any fun t => decide ((smr rs).opn t = (s : Int))) = fun s : Nat => decide ((0 : Int) = s) || decide ((8 : Int) = s) || decide ((1 : Int) = s) || decide ((9 : Int) = s) := by
    funext s
    show (smd.truths.any fun t => decide ((smr rs).opn t = (s : Int))) = _
    rw [smd_truths]
    simp only [List.any_cons, List.any_nil, e1, e2, e3, e4, e5, e6, Bool.or_false]
    cases decide ((0 : Int) = s) <;> cases decide ((8 : Int) = s) <;> cases decide ((1 : Int) = s) <;> cases decide ((9 : Int) = s) <;> rfl
  rw [this]
  show (List.range (2 ^ smd.n)).filter _ = _
  decide
theorem smr_sounds (rs : List (Int × Bool)) (h : rs.length ≤ 10 ∧ ∀ x ∈ rs, 0 ≤ x.1 ∧ x.1 < 4) : (smr rs).soundsF = [0, 1, 8, 9] := by
  have e := Rp.sounds_eq (smr_valid rs h)
  rw [smr_opL] at e
  have e2 : ([0, 1, 8, 9] : List (Fin 64)).map (fun x => x.val) = [0, 1, 8, 9] := rfl
  rw [← e2] at e
  exact (List.map_inj_right (fun x y h => Fin.ext h)).1 e
theorem smr_can (rs : List (Int × Bool)) (h : rs.length ≤ 10 ∧ ∀ x ∈ rs, 0 ≤ x.1 ∧ x.1 < 4) (l : List (Fin 64)) (hl : (smr rs).heardF (2 ^ (smr rs).k - 1) [0, 1, 8, 9] = l) : (smr rs).canF = l := by
  unfold Rp.canF
  rw [smr_sounds rs h, hl]
theorem smr_dull (q w : Int) (hq : 0 ≤ q ∧ q < 16) (hw : (smr []).dullS q = w) : (smr []).dullV q = .tup [.int .i64 w, .int .i64 0] := by
  unfold Rp.dullV
  rw [if_pos (smr_valid [] (by decide)), if_pos (show 0 ≤ q ∧ q < 2 ^ (smr []).n from hq), hw]
section
variable (rs : List (Int × Bool)) (h : rs.length ≤ 10 ∧ ∀ x ∈ rs, 0 ≤ x.1 ∧ x.1 < 4) {l : List (Fin 64)} (hl : (smr rs).heardF (2 ^ (smr rs).k - 1) [0, 1, 8, 9] = l)
include h hl
theorem smr_sets (hne : l ≠ []) (m : List Int) (hm : l.map (fun x => (x.val : Int)) = m) : (smr rs).setsV = .tup [L m, .int .i64 0] := by
  unfold Rp.setsV Rp.setsL
  rw [smr_can rs h l hl, if_pos (smr_valid rs h), if_neg hne, hm]
theorem smr_open (hne : l ≠ []) (a b : Int) (ha : bits (anyS l) 6 = a) (hb : bits (allS l) 6 = b) : (smr rs).openV = .tup [.int .i64 a, .int .i64 b, .int .i64 0] := by
  unfold Rp.openV
  rw [smr_can rs h l hl, if_pos (smr_valid rs h), if_neg hne, ha, hb]
theorem smr_sound (hne : l ≠ []) (a : Int) (ha : Rp.soundN l = a) : (smr rs).soundV = .tup [.int .i64 a, .int .i64 0] := by
  unfold Rp.soundV
  rw [smr_can rs h l hl, if_pos (smr_valid rs h), if_neg hne, ha]
theorem smr_few (hne : l ≠ []) (b : Int × Int) (hb : bestC (Rp.fewG (smr rs).dl l) (tab (2 ^ (smr rs).n) fun i => (i : Int)) = some b) : (smr rs).fewV = .tup [.int .i64 b.2, .int .i64 b.1, .int .i64 0] := by
  unfold Rp.fewV Rp.fewB
  rw [smr_can rs h l hl, if_pos (smr_valid rs h), if_neg hne, hb]
theorem smr_next (hne : l ≠ []) (h1 : ¬ l.length ≤ 1) (b : Int × Int) (hb : bestC (Rp.nextG (smr rs).dl l) (tab (smr rs).n fun i => (i : Int)) = some b) : (smr rs).nextV = .tup [.int .i64 b.1, .int .i64 b.2, .int .i64 0] := by
  unfold Rp.nextV Rp.nextB
  rw [smr_can rs h l hl, if_pos (smr_valid rs h), if_neg hne, if_neg h1, hb]
theorem smr_next1 (hne : l ≠ []) (h1 : l.length ≤ 1) : (smr rs).nextV = .tup [.int .i64 0, .int .i64 0, .int .i64 11] := by
  unfold Rp.nextV
  rw [smr_can rs h l hl, if_pos (smr_valid rs h), if_neg hne, if_pos h1]
theorem smr_clash (he : l = []) : (smr rs).setsV = .tup [L [], .int .i64 10] := by
  unfold Rp.setsV
  rw [smr_can rs h l hl, if_pos (smr_valid rs h), if_pos he]
omit hl in
theorem smr_wrong (b : Int × Int) (hb : bestC (fun q => (sizeS q, decide (0 < (((smr rs).heardF ((smr rs).restS q) [0, 1, 8, 9]).length : Int)))) (tab (2 ^ (smr rs).k) fun i => (i : Int)) = some b) : (smr rs).wrV = if b.1 = 0 then .tup [.int .i64 0, .int .i64 4] else .tup [.int .i64 b.1, .int .i64 0] := by
  unfold Rp.wrV Rp.wrB Rp.wrG
  rw [smr_sounds rs h, if_pos (smr_valid rs h), hb]
end

theorem law13_sample_ok (rs : List (Int × Bool)) : APure Pg fn_law13_sample [LR rs] (smr rs).v := by
  refine law13_sample.pure (by simp) ?_
  simp
  intro s1 s2 s3
  refine PCallK.intro (PInv.func (law13_span_ok _ _)) ?_
  simp [SP2]
  refine PCallK.intro (PInv.func (law13_span_ok _ _)) ?_
  simp [SP2]
  refine PCallK.intro (PInv.func (law13_span_ok _ _)) ?_
  simp [SP2]
  refine PCallK.intro (PInv.func (law13_span_ok _ _)) ?_
  simp [SP2]
  intro s4
  refine RetV.frz 3 rfl (RetV.frz 7 rfl (RetV.frz 12 rfl (RetV.refl ?_)))
  simp [smr, smd, L, LP, prs]
theorem law13_sample_nil : PInv Pg (.func (.func fn_law13_sample) [] []) [.nils] (smr []).v := fun h =>
  AInvoke.ale (args' := [LR []]) (ALe.refl _) ⟨ALe.nils_vl, trivial⟩ (PInv.func (first := []) (cap := []) (args := [LR []]) (law13_sample_ok []) h)

theorem law13_alive_ok : APure Pg fn_law13_alive [] (.bool true) := by
  refine law13_alive.pure (by simp) ?_
  simp
  refine FCall.pure law13_sample_nil ?_
  simp
  refine PCallK.intro (PInv.func (rap_Dull_ok (smr []) (smr_small _ (by decide)) 9)) ?_
  rw [smr_dull 9 15 (by decide) (by decide +kernel)]
  simp
  refine FCall.pure law13_sample_nil ?_
  simp
  refine PCallK.intro (PInv.func (rap_Sets_ok (smr []) (smr_small _ (by decide)))) ?_
  rw [smr_sets [] (by decide) (l := [0, 1, 8, 9]) (by decide +kernel) (by decide) [0, 1, 8, 9] (by decide)]
  simp
  refine FCall.pure law13_sample_nil ?_
  simp
  refine PCallK.intro (PInv.func (rap_Open_ok (smr []) (smr_small _ (by decide)))) ?_
  rw [smr_open [] (by decide) (l := [0, 1, 8, 9]) (by decide +kernel) (by decide) 9 0 (by decide +kernel) (by decide +kernel)]
  simp
  refine PCallK.intro (PInv.func (law13_find_ok _ _)) ?_
  simp
  refine PCallK.intro (PInv.func (law13_find_ok _ _)) ?_
  simp
  intro s37
  refine FCall.frz1 37 rfl (v := (smr [(0, false), (3, false)]).v) ?_ trivial ?_
  · have := PInv.func (first := []) (cap := []) (args := [LR [(0, false), (3, false)]]) (law13_sample_ok [(0, false), (3, false)])
    simpa [LR, rfs, fl, rfC] using this
  simp
  refine PCallK.intro (PInv.func (rap_Sound_ok (smr [(0, false), (3, false)]) (smr_small _ (by decide)))) ?_
  rw [smr_sound [(0, false), (3, false)] (by decide) (l := [0]) (by decide +kernel) (by decide) 2 (by decide +kernel)]
  simp
  refine FCall.pure law13_sample_nil ?_
  simp
  refine PCallK.intro (PInv.func (rap_Fewest_ok (smr []) (smr_small _ (by decide)))) ?_
  rw [smr_few [] (by decide) (l := [0, 1, 8, 9]) (by decide +kernel) (by decide) (5, 2) (by decide +kernel)]
  simp
  refine FCall.pure law13_sample_nil ?_
  simp
  refine PCallK.intro (PInv.func (rap_Next_ok (smr []) (smr_small _ (by decide)))) ?_
  rw [smr_next [] (by decide) (l := [0, 1, 8, 9]) (by decide +kernel) (by decide) (by decide) (0, 2) (by decide +kernel)]
  simp
  refine PCallK.intro (PInv.func (law13_find_ok _ _)) ?_
  simp
  refine PCallK.intro (PInv.func (law13_find_ok _ _)) ?_
  simp
  intro s57
  refine FCall.frz1 57 rfl (v := (smr [(0, true), (1, false)]).v) ?_ trivial ?_
  · have := PInv.func (first := []) (cap := []) (args := [LR [(0, true), (1, false)]]) (law13_sample_ok [(0, true), (1, false)])
    simpa [LR, rfs, fl, rfC] using this
  simp
  refine PCallK.intro (PInv.func (rap_Wrong_ok (smr [(0, true), (1, false)]) (smr_small _ (by decide)))) ?_
  rw [smr_wrong [(0, true), (1, false)] (by decide) (1, 1) (by decide +kernel)]
  simp
  intro s70
  refine FCall.frz1 70 rfl (v := .bool true) ?_ (by simp) ?_
  · have := PInv.func (first := []) (cap := []) (args := [L [0, 1, 8, 9], L [0, 1, 8, 9]]) (law13_ints_ok [0, 1, 8, 9] [0, 1, 8, 9] (by simp) (by simp))
    simpa [L] using this
  simp
  exact RetV.refl rfl
end Go.Cw
end

/- The law Names (this text is built for its own seat only). -/
section
set_option maxRecDepth 100000
set_option linter.unusedSimpArgs false
namespace Go.Cw
open Go Go.Proofs

theorem law13_sample_one (a : Int × Bool) (r s : Nat) : PInv Pg (frz r s [.int .i64 a.1, .bool a.2] (.func (.func fn_law13_sample) [] [])) (frzL r s [.int .i64 a.1, .bool a.2] [.sl r 0 s 1 (.ex 1)]) (smr [a]).v := by
  have := PInv.func (first := []) (cap := []) (args := [LR [a]]) (law13_sample_ok [a])
  simpa [LR, rfs, fl, rfC] using this
theorem law13_sample_two (a b : Int × Bool) (r s : Nat) : PInv Pg (frz r s [.int .i64 a.1, .bool a.2, .int .i64 b.1, .bool b.2] (.func (.func fn_law13_sample) [] [])) (frzL r s [.int .i64 a.1, .bool a.2, .int .i64 b.1, .bool b.2] [.sl r 0 s 2 (.ex 2)]) (smr [a, b]).v := by
  have := PInv.func (first := []) (cap := []) (args := [LR [a, b]]) (law13_sample_ok [a, b])
  simpa [LR, rfs, fl, rfC] using this

theorem law13_RapNames_ok : APure Pg fn_law13_RapNames [] (.bool true) := by
  refine law13_RapNames.pure (by simp) ?_
  simp
  intro s25
  refine Lp.intro (σ := Nat) (inv := fun k => k ≤ 4) (vw := fun k => [(25, .sl 25 0 (s25+1) 4 (.ex 4)), (26, .int .i64 4), (27, .int .i64 k)])
    (hp := fun _ => [(25, .row [.int .i64 1, .int .i64 3, .int .i64 8, .int .i64 12, .int .i64 9, .int .i64 15, .int .i64 0, .int .i64 0] (s25+1))]) (ms := fun k => 4 - k) 0 (by simp) (by simp) (by simp) ?_
  intro k hk J hJ
  by_cases hkc : k < 4
  · have hcase : k = 0 ∨ k = 1 ∨ k = 2 ∨ k = 3 := by omega
    have go : ∀ (q w : Int), 0 ≤ q ∧ q < 16 → (smr []).dullS q = w → APure Pg fn_rap_Dull [(smr []).v, .int .i64 q] (.tup [.int .i64 w, .int .i64 0]) := by
      intro q w h1 h2
      have := rap_Dull_ok (smr []) (smr_small _ (by decide)) q
      rwa [smr_dull q w h1 h2] at this
    rcases hcase with rfl | rfl | rfl | rfl
    all_goals simp
    all_goals intro s2
    all_goals refine FCall.pure' law13_sample_nil (by simp) (by simp) ?_
    all_goals simp
    · refine PCallK.intro (PInv.func (go 1 3 (by decide) (by decide +kernel))) ?_
      simp
      (repeat first | refine And.intro (by omega) ?_ | refine And.intro (Fits.of (by omega) (by omega)) ?_)
      exact hJ.next 1 (by omega) (by omega) (by simp) (by simp)
    · refine PCallK.intro (PInv.func (go 8 12 (by decide) (by decide +kernel))) ?_
      simp
      (repeat first | refine And.intro (by omega) ?_ | refine And.intro (Fits.of (by omega) (by omega)) ?_)
      exact hJ.next 2 (by omega) (by omega) (by simp) (by simp)
    · refine PCallK.intro (PInv.func (go 9 15 (by decide) (by decide +kernel))) ?_
      simp
      (repeat first | refine And.intro (by omega) ?_ | refine And.intro (Fits.of (by omega) (by omega)) ?_)
      exact hJ.next 3 (by omega) (by omega) (by simp) (by simp)
    · refine PCallK.intro (PInv.func (go 0 0 (by decide) (by decide +kernel))) ?_
      simp
      (repeat first | refine And.intro (by omega) ?_ | refine And.intro (Fits.of (by omega) (by omega)) ?_)
      exact hJ.next 4 (by omega) (by omega) (by simp) (by simp)
  obtain rfl : k = 4 := by omega
  simp
  refine hJ.exit ?_
  simp
  refine PCallK.intro (PInv.func (law13_find_ok _ _)) ?_
  simp
  intro s49
  refine FCall.frz1 49 rfl (law13_sample_one (0, false) 49 (s49+1)) trivial ?_
  simp
  refine PCallK.intro (PInv.func (rap_Sets_ok (smr [(0, false)]) (smr_small _ (by decide)))) ?_
  rw [smr_sets [(0, false)] (by decide) (l := [0, 8]) (by decide +kernel) (by decide) [0, 8] (by decide)]
  simp
  refine FCall.pure law13_sample_nil ?_
  simp
  refine PCallK.intro (PInv.func (rap_Sound_ok (smr []) (smr_small _ (by decide)))) ?_
  rw [smr_sound [] (by decide) (l := [0, 1, 8, 9]) (by decide +kernel) (by decide) 1 (by decide +kernel)]
  simp
  refine PCallK.intro (PInv.func (law13_find_ok _ _)) ?_
  simp
  intro s61
  refine FCall.frz1 61 rfl (law13_sample_one (1, true) 61 (s61+1)) trivial ?_
  simp
  refine PCallK.intro (PInv.func (rap_Sound_ok (smr [(1, true)]) (smr_small _ (by decide)))) ?_
  rw [smr_sound [(1, true)] (by decide) (l := [1, 9]) (by decide +kernel) (by decide) 0 (by decide +kernel)]
  simp
  refine PCallK.intro (PInv.func (law13_find_ok _ _)) ?_
  simp
  intro s68
  refine FCall.frz1 68 rfl (law13_sample_one (0, false) 68 (s68+1)) trivial ?_
  simp
  refine PCallK.intro (PInv.func (rap_Fewest_ok (smr [(0, false)]) (smr_small _ (by decide)))) ?_
  rw [smr_few [(0, false)] (by decide) (l := [0, 8]) (by decide +kernel) (by decide) (4, 1) (by decide +kernel)]
  simp
  refine PCallK.intro (PInv.func (law13_find_ok _ _)) ?_
  simp
  refine PCallK.intro (PInv.func (law13_find_ok _ _)) ?_
  simp
  intro s77
  refine FCall.frz1 77 rfl (law13_sample_two (0, false) (3, false) 77 (s77+1)) trivial ?_
  simp
  refine PCallK.intro (PInv.func (rap_Next_ok (smr [(0, false), (3, false)]) (smr_small _ (by decide)))) ?_
  rw [smr_next1 [(0, false), (3, false)] (by decide) (l := [0]) (by decide +kernel) (by decide) (by decide)]
  simp
  refine FCall.pure law13_sample_nil ?_
  simp
  refine PCallK.intro (PInv.func (rap_Wrong_ok (smr []) (smr_small _ (by decide)))) ?_
  rw [smr_wrong [] (by decide) (0, 0) (by decide +kernel)]
  simp
  refine PCallK.intro (PInv.func (law13_find_ok _ _)) ?_
  simp
  refine PCallK.intro (PInv.func (law13_find_ok _ _)) ?_
  simp
  intro s91
  refine FCall.frz1 91 rfl (law13_sample_two (0, true) (1, false) 91 (s91+1)) trivial ?_
  simp
  refine PCallK.intro (PInv.func (rap_Sets_ok (smr [(0, true), (1, false)]) (smr_small _ (by decide)))) ?_
  rw [smr_clash [(0, true), (1, false)] (by decide) (l := []) (by decide +kernel) rfl]
  simp
  refine PCallK.intro (PInv.func law13_alive_ok) ?_
  simp
  intro s101
  refine FCall.frz1 101 rfl (v := .bool true) ?_ trivial ⟨trivial, ?_⟩
  · have := PInv.func (first := []) (cap := []) (args := [L [0, 8], L [0, 8]]) (law13_ints_ok [0, 8] [0, 8] (by simp) (by simp))
    simpa [L] using this
  simp
  exact RetV.refl rfl

theorem kids : Kids Pg (· < Pg.types.size) := kids_rows (by kernel_rfl) (by kernel_rfl)
theorem slices_full : ∀ t e, t < Pg.types.size → Pg.underlying t = some (.slice e) → 0 < Pg.cellsOf e := slices_full_of Pg (by kernel_rfl)
theorem ownKnobNone : ownKnob Pg.godebug = none := by kernel_rfl
end Go.Cw
end
