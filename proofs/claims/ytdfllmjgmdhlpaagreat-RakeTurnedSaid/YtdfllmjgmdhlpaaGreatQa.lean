/-
  Rakes in plain words: the best way, orders, what tells all.
-/
import Derived.Test.YtdfllmjgmdhlpaaGreatLa
set_option linter.unusedVariables false
set_option linter.unusedSimpArgs false
set_option linter.unusedSectionVars false

/- The best way to rake, in plain words: sets of seams are gone through by what is found. -/
section
set_option maxRecDepth 100000
set_option linter.unusedSimpArgs false
namespace Go.Cw
open Go

theorem bits_add {p q : Nat → Bool} : ∀ {n : Nat}, (∀ i, i < n → ¬ (p i = true ∧ q i = true)) → bits (fun i => p i || q i) n = bits p n + bits q n
  | 0, _ => rfl
  | n + 1, h => by
    have ih := bits_add (p := p) (q := q) (n := n) fun i hi => h i (by omega)
    have hn := h n (by omega)
    simp only [bits, ih]
    by_cases hp : p n = true <;> by_cases hq : q n = true
    · exact absurd ⟨hp, hq⟩ hn
    · simp [hp, hq]; omega
    · simp [hp, hq]; omega
    · simp [hp, hq]
theorem bits_one {i n : Nat} (hi : i < n) : bits (fun j => decide (j = i)) n = 2 ^ i := by
  induction n with
  | zero => omega
  | succ n ih =>
    simp only [bits]
    by_cases h : i = n
    · subst h
      have : bits (fun j => decide (j = i)) i = 0 := bits_zero.2 fun j hj => by simp; omega
      rw [this]; simp
    · rw [ih (by omega)]
      have : ¬ n = i := fun e => h e.symm
      simp [this]

namespace Rk
theorem add_bits {n : Nat} {q : Int} (hq : 0 ≤ q ∧ q < 2 ^ n) {i : Nat} (hi : i < n) (h : inS q i = false) : q + 2 ^ i = bits (fun j => inS q j || decide (j = i)) n := by
  rw [bits_add fun j hj ⟨h1, h2⟩ => by
    simp only [decide_eq_true_eq] at h2
    subst h2; rw [h] at h1; cases h1]
  rw [bits_one hi]
  congr 1
  exact (bits_of hq.1 hq.2).symm
theorem add_lt {n : Nat} {q : Int} (hq : 0 ≤ q ∧ q < 2 ^ n) {i : Nat} (hi : i < n) (h : inS q i = false) : 0 ≤ q + 2 ^ i ∧ q + 2 ^ i < 2 ^ n := by
  rw [add_bits hq hi h]; exact bits_lt _ _
theorem inS_add {n : Nat} {q : Int} (hq : 0 ≤ q ∧ q < 2 ^ n) {i : Nat} (hi : i < n) (h : inS q i = false) {j : Nat} (hj : j < n) : inS (q + 2 ^ i) j = (inS q j || decide (j = i)) := by
  rw [add_bits hq hi h, inS_bits _ hj]

/-- Of some sets those in which a seam is, or is not. -/
def wl (l : List Int) (i : Nat) (b : Bool) : List Int := l.filter fun s => inS s i == b
theorem mem_wl {l : List Int} {i : Nat} {b : Bool} {s : Int} : s ∈ wl l i b ↔ s ∈ l ∧ inS s i = b := by
  unfold wl; simp [List.mem_filter]

/-- The first of some seams of which a number is least, and this one. -/
def betR (g : Nat → Int) (b : Option (Nat × Int)) (i : Nat) : Option (Nat × Int) :=
  match b with
  | none => some (i, g i)
  | some c => if g i < c.2 then some (i, g i) else some c
def bestR (g : Nat → Int) (l : List Nat) : Option (Nat × Int) := l.foldl (betR g) none
theorem bestR_push (g : Nat → Int) (l : List Nat) (i : Nat) : bestR g (l ++ [i]) = betR g (bestR g l) i := by simp [bestR]
theorem push_ind {α : Type} {p : List α → Prop} (h0 : p []) (h1 : ∀ l x, p l → p (l ++ [x])) (l : List α) : p l := by
  have : ∀ l : List α, p l.reverse := fun l => by
    induction l with
    | nil => exact h0
    | cons x l ih => rw [List.reverse_cons]; exact h1 _ _ ih
  have h := this l.reverse
  rwa [List.reverse_reverse] at h
theorem bestR_congr {g g' : Nat → Int} {l : List Nat} (h : ∀ i ∈ l, g i = g' i) : bestR g l = bestR g' l := by
  induction l using push_ind with
  | h0 => rfl
  | h1 l x ih =>
    rw [bestR_push, bestR_push, ih fun i hi => h i (by simp [hi])]
    unfold betR
    rw [h x (by simp)]
theorem bestR_some {g : Nat → Int} {l : List Nat} (h : l ≠ []) : ∃ b, bestR g l = some b := by
  induction l using push_ind with
  | h0 => exact absurd rfl h
  | h1 l x _ =>
    rw [bestR_push]
    unfold betR
    cases bestR g l with
    | none => exact ⟨_, rfl⟩
    | some c => simp only; split <;> exact ⟨_, rfl⟩
theorem bestR_spec {g : Nat → Int} {l : List Nat} (hs : l.Pairwise (· < ·)) {b : Nat × Int} (hb : bestR g l = some b) : b.1 ∈ l ∧ b.2 = g b.1 ∧ ∀ i ∈ l, b.2 < g i ∨ (b.2 = g i ∧ b.1 ≤ i) := by
  induction l using push_ind generalizing b with
  | h0 => simp [bestR] at hb
  | h1 l x ih =>
    rw [List.pairwise_append] at hs
    have hlx : ∀ i ∈ l, i < x := fun i hi => hs.2.2 i hi x (by simp)
    rw [bestR_push] at hb
    cases hc : bestR g l with
    | none =>
      have hl : l = [] := by
        cases l with
        | nil => rfl
        | cons a m => obtain ⟨c, h⟩ := bestR_some (g := g) (l := a :: m) (by simp); rw [hc] at h; cases h
      subst hl
      rw [hc] at hb
      simp only [betR, Option.some.injEq] at hb
      subst hb
      exact ⟨by simp, rfl, fun i hi => by simp at hi; subst hi; exact .inr ⟨rfl, Nat.le_refl _⟩⟩
    | some c =>
      obtain ⟨h1, h2, h3⟩ := ih hs.1 hc
      rw [hc] at hb
      simp only [betR] at hb
      split at hb
      · rename_i hlt
        simp only [Option.some.injEq] at hb
        subst hb
        refine ⟨by simp, rfl, fun i hi => ?_⟩
        rcases List.mem_append.1 hi with hi | hi
        · have := h3 i hi; simp only; omega
        · simp at hi; subst hi; exact .inr ⟨rfl, Nat.le_refl _⟩
      · rename_i hlt
        simp only [Option.some.injEq] at hb
        subst hb
        refine ⟨by simp [h1], h2, fun i hi => ?_⟩
        rcases List.mem_append.1 hi with hi | hi
        · exact h3 i hi
        · simp at hi; subst hi
          have := hlx _ h1
          by_cases he : c.2 = g i
          · exact .inr ⟨he, by omega⟩
          · exact .inl (by omega)

/-- The seams below n that are not in a set. -/
def un (n : Nat) (q : Int) : List Nat := (List.range n).filter fun i => !inS q i
theorem mem_un {n : Nat} {q : Int} {i : Nat} : i ∈ un n q ↔ i < n ∧ inS q i = false := by
  unfold un; simp [List.mem_filter]
theorem un_lt (n : Nat) (q : Int) : (un n q).Pairwise (· < ·) := List.Pairwise.filter _ List.pairwise_lt_range
theorem un_add {n : Nat} {q : Int} (hq : 0 ≤ q ∧ q < 2 ^ n) {i : Nat} (hi : i ∈ un n q) : un n (q + 2 ^ i) = (un n q).filter fun j => !decide (j = i) := by
  obtain ⟨h1, h2⟩ := mem_un.1 hi
  unfold un
  rw [List.filter_filter]
  refine List.filter_congr fun j hj => ?_
  rw [inS_add hq h1 h2 (List.mem_range.1 hj), Bool.not_or, Bool.and_comm]
theorem erase_len {l : List Nat} (hn : l.Pairwise (· < ·)) {i : Nat} (hi : i ∈ l) : (l.filter fun j => !decide (j = i)).length + 1 = l.length := by
  induction l with
  | nil => simp at hi
  | cons a l ih =>
    rw [List.pairwise_cons] at hn
    rcases List.mem_cons.1 hi with rfl | h
    · rw [List.filter_cons_of_neg (by simp), List.filter_eq_self.2 fun j hj => by have := hn.1 j hj; simp; omega]; rfl
    · have := hn.1 i h
      rw [List.filter_cons_of_pos (by simp; omega), List.length_cons, List.length_cons, ih hn.2 h]
theorem un_len {n : Nat} {q : Int} (hq : 0 ≤ q ∧ q < 2 ^ n) {i : Nat} (hi : i ∈ un n q) : (un n (q + 2 ^ i)).length + 1 = (un n q).length := by
  rw [un_add hq hi]; exact erase_len (un_lt n q) hi

/-- What is enough behind a seam, by what is enough for the sets that are left. -/
def behind (any : Bool) (f : Nat → Int) (w : List Int → Int → Int) (l : List Int) (q : Int) (i : Nat) : Int :=
  f i + if any then w (wl l i false) (q + 2 ^ i) else max (w (wl l i false) (q + 2 ^ i)) (w (wl l i true) (q + 2 ^ i))
/-- Is nothing left to be raked? -/
def doneL (any : Bool) (l : List Int) : Prop := l = [] ∨ (l.length = 1 ∧ any = false)
instance (any : Bool) (l : List Int) : Decidable (doneL any l) := inferInstanceAs (Decidable (_ ∨ _))
/-- The seam to begin with, and how many fathoms are enough, with as many seams to go. -/
def plan (n : Nat) (f : Nat → Int) (any : Bool) : Nat → List Int → Int → Nat × Int
  | 0, _, _ => (0, 0)
  | k + 1, l, q => if doneL any l then (0, 0) else (bestR (behind any f (fun l q => (plan n f any k l q).2) l q) (un n q)).getD (0, 0)
def planQ (n : Nat) (f : Nat → Int) (any : Bool) (l : List Int) (q : Int) : Nat × Int := plan n f any (un n q).length l q
theorem planQ_eq {n : Nat} {f : Nat → Int} {any : Bool} {l : List Int} {q : Int} (hq : 0 ≤ q ∧ q < 2 ^ n) :
    planQ n f any l q = if doneL any l then (0, 0) else (bestR (behind any f (fun l q => (planQ n f any l q).2) l q) (un n q)).getD (0, 0) := by
  cases hk : (un n q).length with
  | zero =>
    have hu : un n q = [] := List.eq_nil_of_length_eq_zero hk
    unfold planQ
    rw [hk, hu]
    simp [plan, bestR]
  | succ k =>
    conv => lhs; unfold planQ
    rw [hk]
    simp only [plan]
    split
    · rfl
    · congr 1
      refine bestR_congr fun i hi => ?_
      have h1 := un_len hq hi
      have h2 : (un n (q + 2 ^ i)).length = k := by omega
      unfold behind planQ
      simp only [h2]
theorem planQ_done {n : Nat} {f : Nat → Int} {any : Bool} {l : List Int} {q : Int} (hq : 0 ≤ q ∧ q < 2 ^ n) (h : doneL any l) : planQ n f any l q = (0, 0) := by rw [planQ_eq hq, if_pos h]
theorem planQ_nonneg {n : Nat} {f : Nat → Int} (hf : ∀ i, i < n → 0 ≤ f i) {any : Bool} : ∀ (k : Nat) (l : List Int) (q : Int), 0 ≤ (plan n f any k l q).2
  | 0, _, _ => Int.le_refl _
  | k + 1, l, q => by
    simp only [plan]
    split
    · exact Int.le_refl _
    · cases hb : bestR (behind any f (fun l q => (plan n f any k l q).2) l q) (un n q) with
      | none => exact Int.le_refl _
      | some b =>
        obtain ⟨h1, h2, _⟩ := bestR_spec (un_lt n q) hb
        have h3 := hf b.1 (mem_un.1 h1).1
        have h4 := planQ_nonneg hf (any := any) k (wl l b.1 false) (q + 2 ^ b.1)
        show 0 ≤ b.2
        rw [h2]
        unfold behind
        simp only
        split <;> omega
end Rk
end Go.Cw
end

/- The best way to rake: with fewer sets, longer seams; some leak is found soon. -/
section
set_option maxRecDepth 100000
set_option linter.unusedSimpArgs false
namespace Go.Cw
open Go

namespace Rk
variable {n : Nat}
theorem wl_sub {l m : List Int} (h : l.Sublist m) (i : Nat) (b : Bool) : (wl l i b).Sublist (wl m i b) := h.filter _
theorem done_sub {any : Bool} {l m : List Int} (h : l.Sublist m) (d : doneL any m) : doneL any l := by
  have hl := h.length_le
  rcases d with rfl | ⟨h1, h2⟩
  · exact .inl (List.sublist_nil.1 h)
  · rcases (show l.length = 0 ∨ l.length = 1 by omega) with h0 | h0
    · exact .inl (List.eq_nil_of_length_eq_zero h0)
    · exact .inr ⟨h0, h2⟩
/-- The least of some seams. -/
theorem best_le {g g' : Nat → Int} {l : List Nat} (hs : l.Pairwise (· < ·)) (h : ∀ i ∈ l, g i ≤ g' i) : ((bestR g l).getD (0, 0)).2 ≤ ((bestR g' l).getD (0, 0)).2 := by
  cases l with
  | nil => exact Int.le_refl _
  | cons a m =>
    obtain ⟨b, hb⟩ := bestR_some (g := g) (l := a :: m) (by simp)
    obtain ⟨c, hc⟩ := bestR_some (g := g') (l := a :: m) (by simp)
    rw [hb, hc]
    obtain ⟨b1, b2, b3⟩ := bestR_spec hs hb
    obtain ⟨c1, c2, c3⟩ := bestR_spec hs hc
    have h1 := b3 c.1 c1
    have h2 := h c.1 c1
    show b.2 ≤ c.2
    omega
theorem best_at {g : Nat → Int} {l : List Nat} (hs : l.Pairwise (· < ·)) {i : Nat} (hi : i ∈ l) : ((bestR g l).getD (0, 0)).2 ≤ g i := by
  obtain ⟨b, hb⟩ := bestR_some (g := g) (List.ne_nil_of_mem hi)
  obtain ⟨b1, b2, b3⟩ := bestR_spec hs hb
  rw [hb]
  have := b3 i hi
  show b.2 ≤ g i
  omega
theorem behind_le {any : Bool} {f f' : Nat → Int} {w w' : List Int → Int → Int} {l l' : List Int} {q : Int} {i : Nat} (hf : f i ≤ f' i) (hw : ∀ b, w (wl l i b) (q + 2 ^ i) ≤ w' (wl l' i b) (q + 2 ^ i)) : behind any f w l q i ≤ behind any f' w' l' q i := by
  have h1 := hw false
  have h2 := hw true
  unfold behind
  split <;> omega
/-- With fewer sets, and shorter seams, no more fathoms are enough. -/
theorem plan_mono {f f' : Nat → Int} (hf0 : ∀ i, i < n → 0 ≤ f i) (hf : ∀ i, i < n → f i ≤ f' i) {any : Bool} : ∀ (k : Nat) {l l' : List Int} (q : Int), l.Sublist l' → (plan n f any k l q).2 ≤ (plan n f' any k l' q).2
  | 0, _, _, _, _ => Int.le_refl _
  | k + 1, l, l', q, h => by
    by_cases hd : doneL any l
    · have h0 : (plan n f any (k + 1) l q).2 = 0 := by simp only [plan]; rw [if_pos hd]
      rw [h0]
      exact planQ_nonneg (fun i hi => Int.le_trans (hf0 i hi) (hf i hi)) _ _ _
    · have hd' : ¬ doneL any l' := fun x => hd (done_sub h x)
      simp only [plan]
      rw [if_neg hd, if_neg hd']
      refine best_le (un_lt n q) fun i hi => ?_
      exact behind_le (hf i (mem_un.1 hi).1) fun b => plan_mono hf0 hf k _ (wl_sub h i b)
theorem bestR_mul {g : Nat → Int} {c : Int} (hc : 0 < c) (l : List Nat) : bestR (fun i => c * g i) l = (bestR g l).map fun b => (b.1, c * b.2) := by
  induction l using push_ind with
  | h0 => rfl
  | h1 l x ih =>
    rw [bestR_push, bestR_push, ih]
    cases bestR g l with
    | none => rfl
    | some b =>
      simp only [betR, Option.map_some]
      by_cases h : g x < b.2
      · rw [if_pos h, if_pos (Int.mul_lt_mul_of_pos_left h hc)]; rfl
      · rw [if_neg h, if_neg (fun h' => h (Int.lt_of_mul_lt_mul_left h' (by omega)))]; rfl
/-- If all seams are as many times as long, as many times as many fathoms are enough. -/
theorem plan_mul {f : Nat → Int} {c : Int} (hc : 0 < c) {any : Bool} : ∀ (k : Nat) (l : List Int) (q : Int), plan n (fun i => c * f i) any k l q = ((plan n f any k l q).1, c * (plan n f any k l q).2)
  | 0, _, _ => by simp [plan]
  | k + 1, l, q => by
    simp only [plan]
    split
    · simp
    · have hb : ∀ i, behind any (fun i => c * f i) (fun l q => (plan n (fun i => c * f i) any k l q).2) l q i = c * behind any f (fun l q => (plan n f any k l q).2) l q i := fun i => by
        have hm : ∀ a b : Int, max (c * a) (c * b) = c * max a b := fun a b => by
          by_cases h : a ≤ b
          · have := Int.mul_le_mul_of_nonneg_left h (show 0 ≤ c by omega)
            rw [Int.max_eq_right h, Int.max_eq_right this]
          · have h' : b ≤ a := by omega
            have := Int.mul_le_mul_of_nonneg_left h' (show 0 ≤ c by omega)
            rw [Int.max_eq_left h', Int.max_eq_left this]
        unfold behind
        simp only [plan_mul hc k]
        split
        · rw [Int.mul_add]
        · rw [hm, Int.mul_add]
      rw [bestR_congr (g' := fun i => c * behind any f (fun l q => (plan n f any k l q).2) l q i) fun i _ => hb i, bestR_mul hc]
      cases bestR (behind any f (fun l q => (plan n f any k l q).2) l q) (un n q) <;> simp

/-- A leak is found behind no more fathoms than are enough to know all, and one seam more. -/
theorem plan_any {f : Nat → Int} {M : Int} (hf : ∀ i, i < n → 0 ≤ f i ∧ f i ≤ M) (hM : 0 ≤ M) : ∀ (k : Nat) (l : List Int) (q : Int), 0 ≤ q ∧ q < 2 ^ n → (un n q).length = k → (∀ s ∈ l, ∃ i, i ∈ un n q ∧ inS s i = true) → (plan n f true k l q).2 ≤ (plan n f false k l q).2 + M
  | 0, l, q, _, _, _ => by simpa [plan] using hM
  | k + 1, l, q, hq, hk, h => by
    by_cases h0 : l = []
    · subst h0
      have e : (plan n f true (k + 1) [] q).2 = 0 := by simp only [plan]; rw [if_pos (.inl rfl)]
      have := planQ_nonneg (n := n) (fun i hi => (hf i hi).1) (any := false) (k + 1) [] q
      omega
    · have hdt : ¬ doneL true l := by rintro (h1 | ⟨_, h1⟩); exact h0 h1; cases h1
      have et : (plan n f true (k + 1) l q).2 = ((bestR (behind true f (fun l q => (plan n f true k l q).2) l q) (un n q)).getD (0, 0)).2 := by simp only [plan]; rw [if_neg hdt]
      have hnn := planQ_nonneg (n := n) (fun i hi => (hf i hi).1) (any := false) (k + 1) l q
      by_cases h1 : l.length = 1
      · obtain ⟨s, hs⟩ := List.length_eq_one_iff.1 h1
        obtain ⟨i, hi, his⟩ := h s (by rw [hs]; simp)
        have hle := best_at (g := behind true f (fun l q => (plan n f true k l q).2) l q) (un_lt n q) hi
        have hw : wl l i false = [] := by rw [hs]; unfold wl; simp [his]
        have hz : (plan n f true k (wl l i false) (q + 2 ^ i)).2 = 0 := by
          rw [hw]
          cases k with
          | zero => rfl
          | succ k => simp only [plan]; rw [if_pos (.inl rfl)]
        have : behind true f (fun l q => (plan n f true k l q).2) l q i = f i := by unfold behind; simp only [if_true, hz]; omega
        rw [this] at hle
        have := (hf i (mem_un.1 hi).1).2
        omega
      · have hdf : ¬ doneL false l := by rintro (h2 | ⟨h2, _⟩); exact h0 h2; exact h1 h2
        have hun : un n q ≠ [] := fun e => by rw [e] at hk; simp at hk
        have ef : (plan n f false (k + 1) l q).2 = ((bestR (behind false f (fun l q => (plan n f false k l q).2) l q) (un n q)).getD (0, 0)).2 := by simp only [plan]; rw [if_neg hdf]
        obtain ⟨b, hb⟩ := bestR_some (g := behind false f (fun l q => (plan n f false k l q).2) l q) hun
        obtain ⟨b1, b2, _⟩ := bestR_spec (un_lt n q) hb
        have hle := best_at (g := behind true f (fun l q => (plan n f true k l q).2) l q) (un_lt n q) b1
        have hlen := un_len hq b1
        have ih := plan_any hf hM k (wl l b.1 false) (q + 2 ^ b.1) (add_lt hq (mem_un.1 b1).1 (mem_un.1 b1).2) (by omega) fun s hs => by
          obtain ⟨hs1, hs2⟩ := mem_wl.1 hs
          obtain ⟨i, hi, his⟩ := h s hs1
          refine ⟨i, ?_, his⟩
          rw [un_add hq b1]
          refine List.mem_filter.2 ⟨hi, ?_⟩
          have : i ≠ b.1 := fun e => by rw [e, hs2] at his; cases his
          simpa using this
        have e1 : behind true f (fun l q => (plan n f true k l q).2) l q b.1 = f b.1 + (plan n f true k (wl l b.1 false) (q + 2 ^ b.1)).2 := by unfold behind; simp
        have e2 : behind false f (fun l q => (plan n f false k l q).2) l q b.1 = f b.1 + max (plan n f false k (wl l b.1 false) (q + 2 ^ b.1)).2 (plan n f false k (wl l b.1 true) (q + 2 ^ b.1)).2 := by unfold behind; simp
        rw [hb] at ef
        have ef' : (plan n f false (k + 1) l q).2 = b.2 := ef
        rw [et, ef', b2, e2]
        rw [e1] at hle
        omega
end Rk
end Go.Cw
end

/- Raking in an order, in plain words. -/
section
set_option maxRecDepth 100000
set_option linter.unusedSimpArgs false
namespace Go.Cw
open Go

namespace Rk
variable {n : Nat}
/-- How many fathoms are raked in an order if a set leaks, until one set of some is left. -/
def costL (f : Nat → Int) : List Nat → List Int → Int → Int
  | [], _, _ => 0
  | i :: o, l, s => if l.length ≤ 1 then 0 else f i + costL f o (wl l i (inS s i)) s
theorem costL_nonneg {f : Nat → Int} {o : List Nat} (hf : ∀ i ∈ o, 0 ≤ f i) : ∀ (l : List Int) (s : Int), 0 ≤ costL f o l s := by
  induction o with
  | nil => exact fun _ _ => Int.le_refl _
  | cons i o ih =>
    intro l s
    simp only [costL]
    split
    · exact Int.le_refl _
    · have h1 := hf i (by simp)
      have h2 := ih (fun j hj => hf j (by simp [hj])) (wl l i (inS s i)) s
      omega
theorem costL_done {f : Nat → Int} (o : List Nat) {l : List Int} (h : l.length ≤ 1) (s : Int) : costL f o l s = 0 := by
  cases o with
  | nil => rfl
  | cons i o => simp only [costL]; rw [if_pos h]
/-- What an order costs at worst. -/
def mostL (f : Nat → Int) (o : List Nat) (l : List Int) (S : List Int) : Int := S.foldl (fun m s => max m (costL f o l s)) 0
theorem foldl_max_le' (g : Int → Int) (S : List Int) : ∀ a, a ≤ S.foldl (fun m s => max m (g s)) a ∧ ∀ s ∈ S, g s ≤ S.foldl (fun m s => max m (g s)) a := by
  induction S with
  | nil => exact fun a => ⟨Int.le_refl _, by simp⟩
  | cons x S ih =>
    intro a
    obtain ⟨h1, h2⟩ := ih (max a (g x))
    simp only [List.foldl_cons]
    refine ⟨by omega, fun s hs => ?_⟩
    rcases List.mem_cons.1 hs with rfl | h
    · omega
    · exact h2 s h
theorem foldl_max_at (g : Int → Int) (S : List Int) : ∀ a, S.foldl (fun m s => max m (g s)) a = a ∨ ∃ s ∈ S, S.foldl (fun m s => max m (g s)) a = g s := by
  induction S with
  | nil => exact fun a => .inl rfl
  | cons x S ih =>
    intro a
    simp only [List.foldl_cons]
    rcases ih (max a (g x)) with h | ⟨s, h1, h2⟩
    · by_cases hle : g x ≤ a
      · left; rw [h]; omega
      · right; exact ⟨x, by simp, by rw [h]; omega⟩
    · exact .inr ⟨s, by simp [h1], h2⟩
theorem most_le {f : Nat → Int} {o : List Nat} {l S : List Int} {s : Int} (hs : s ∈ S) : costL f o l s ≤ mostL f o l S := (foldl_max_le' _ S 0).2 s hs
theorem most_nonneg {f : Nat → Int} {o : List Nat} {l S : List Int} : 0 ≤ mostL f o l S := (foldl_max_le' _ S 0).1
theorem most_bound {f : Nat → Int} {o : List Nat} {l S : List Int} {m : Int} (h0 : 0 ≤ m) (h : ∀ s ∈ S, costL f o l s ≤ m) : mostL f o l S ≤ m := by
  rcases foldl_max_at (costL f o l) S 0 with e | ⟨s, h1, e⟩
  · unfold mostL; rw [e]; exact h0
  · unfold mostL; rw [e]; exact h s h1

/-- No order of the seams that are left costs less at worst than the best way. -/
theorem plan_le_cost {f : Nat → Int} (hf : ∀ i, i < n → 0 ≤ f i) : ∀ (o : List Nat) {m : Int} (_ : 0 ≤ m) (l : List Int) (q : Int), 0 ≤ q ∧ q < 2 ^ n → o.Nodup → (∀ i, i ∈ o ↔ i ∈ un n q) → (∀ s ∈ l, costL f o l s ≤ m) → (planQ n f false l q).2 ≤ m := by
  intro o
  induction o with
  | nil =>
    intro m h0 l q hq _ hu _
    have : un n q = [] := by
      cases h : un n q with
      | nil => rfl
      | cons i r => have := (hu i).2 (by rw [h]; simp); simp at this
    unfold planQ
    rw [this]; exact h0
  | cons i o ih =>
    intro m h0 l q hq hn hu hc
    rw [List.nodup_cons] at hn
    rw [planQ_eq hq]
    by_cases hd : doneL false l
    · rw [if_pos hd]; exact h0
    · rw [if_neg hd]
      have h1 : ¬ l.length ≤ 1 := fun h => by
        rcases (show l.length = 0 ∨ l.length = 1 by omega) with h2 | h2
        · exact hd (.inl (List.eq_nil_of_length_eq_zero h2))
        · exact hd (.inr ⟨h2, rfl⟩)
      have hi : i ∈ un n q := (hu i).1 (by simp)
      obtain ⟨hin, hiq⟩ := mem_un.1 hi
      have hfi := hf i hin
      have hof : ∀ j ∈ o, 0 ≤ f j := fun j hj => hf j (mem_un.1 ((hu j).1 (by simp [hj]))).1
      have step : ∀ s ∈ l, f i + costL f o (wl l i (inS s i)) s ≤ m := fun s hs => by
        have := hc s hs
        simp only [costL] at this
        rwa [if_neg h1] at this
      have hle := best_at (g := behind false f (fun l q => (planQ n f false l q).2) l q) (un_lt n q) hi
      have e2 : behind false f (fun l q => (planQ n f false l q).2) l q i = f i + max (planQ n f false (wl l i false) (q + 2 ^ i)).2 (planQ n f false (wl l i true) (q + 2 ^ i)).2 := by unfold behind; simp
      have hmi : ∀ b, (planQ n f false (wl l i b) (q + 2 ^ i)).2 ≤ m - f i := fun b => by
        by_cases hb : wl l i b = []
        · rw [hb, planQ_done (add_lt hq hin hiq) (.inl rfl)]
          obtain ⟨s, hs⟩ := List.exists_mem_of_ne_nil l (fun e => h1 (by rw [e]; simp))
          have := step s hs
          have := costL_nonneg hof (wl l i (inS s i)) s
          show (0 : Int) ≤ m - f i
          omega
        · obtain ⟨s0, hs0⟩ := List.exists_mem_of_ne_nil _ hb
          have h3 := step s0 (mem_wl.1 hs0).1
          have h4 := costL_nonneg hof (wl l i (inS s0 i)) s0
          refine ih (by omega) (wl l i b) (q + 2 ^ i) (add_lt hq hin hiq) hn.2 (fun j => ?_) fun s hs => ?_
          · rw [un_add hq hi, List.mem_filter, ← hu j]
            constructor
            · intro hj
              refine ⟨by simp [hj], ?_⟩
              have : j ≠ i := fun e => hn.1 (e ▸ hj)
              simpa using this
            · rintro ⟨hj1, hj2⟩
              rcases List.mem_cons.1 hj1 with rfl | h
              · simp at hj2
              · exact h
          · obtain ⟨hs1, hs2⟩ := mem_wl.1 hs
            have := step s hs1
            rw [hs2] at this
            omega
      have h5 := hmi false
      have h6 := hmi true
      rw [e2] at hle
      omega
end Rk
end Go.Cw
end

/- All orders of seams, lexicographically. -/
section
set_option maxRecDepth 100000
set_option linter.unusedSimpArgs false
namespace Go.Cw
open Go

namespace Rk
variable {n : Nat}
/-- The seams below n that are in a list not. -/
def fr (n : Nat) (b : List Nat) : List Nat := (List.range n).filter fun i => !b.contains i
theorem mem_fr {b : List Nat} {i : Nat} : i ∈ fr n b ↔ i < n ∧ i ∉ b := by
  unfold fr; simp [List.mem_filter]
theorem fr_lt (b : List Nat) : (fr n b).Pairwise (· < ·) := List.Pairwise.filter _ List.pairwise_lt_range
/-- All orders that go on from some seams by as many more. -/
def ords (n : Nat) : Nat → List Nat → List (List Nat)
  | 0, b => [b]
  | k + 1, b => (fr n b).flatMap fun i => ords n k (b ++ [i])
theorem mem_ords : ∀ {k : Nat} {b o : List Nat}, o ∈ ords n k b ↔ ∃ r, o = b ++ r ∧ r.length = k ∧ r.Nodup ∧ ∀ i ∈ r, i < n ∧ i ∉ b
  | 0, b, o => by
    simp only [ords, List.mem_singleton]
    constructor
    · rintro rfl; exact ⟨[], by simp, rfl, by simp, by simp⟩
    · rintro ⟨r, rfl, h, _⟩
      rw [List.eq_nil_of_length_eq_zero h]; simp
  | k + 1, b, o => by
    simp only [ords, List.mem_flatMap, mem_fr, mem_ords (k := k)]
    constructor
    · rintro ⟨i, ⟨h1, h2⟩, r, rfl, h3, h4, h5⟩
      refine ⟨i :: r, by simp, by simp [h3], ?_, fun j hj => ?_⟩
      · rw [List.nodup_cons]
        exact ⟨fun h => (h5 i h).2 (by simp), h4⟩
      · rcases List.mem_cons.1 hj with rfl | h
        · exact ⟨h1, h2⟩
        · have := h5 j h
          exact ⟨this.1, fun h6 => this.2 (by simp [h6])⟩
    · rintro ⟨r, rfl, h1, h2, h3⟩
      cases r with
      | nil => simp at h1
      | cons i r =>
        rw [List.nodup_cons] at h2
        refine ⟨i, h3 i (by simp), r, by simp, by simpa using h1, h2.2, fun j hj => ?_⟩
        have := h3 j (by simp [hj])
        refine ⟨this.1, fun h => ?_⟩
        rcases List.mem_append.1 h with h | h
        · exact this.2 h
        · simp at h; subst h; exact h2.1 hj
/-- Does an order come before another one? -/
def Lex (a b : List Nat) : Prop := ∃ p x y r r', a = p ++ x :: r ∧ b = p ++ y :: r' ∧ x < y
theorem ords_lex : ∀ (k : Nat) (b : List Nat), (ords n k b).Pairwise Lex
  | 0, b => by simp [ords]
  | k + 1, b => by
    simp only [ords]
    rw [List.flatMap_def, List.pairwise_flatten]
    refine ⟨fun l hl => ?_, ?_⟩
    · obtain ⟨i, _, rfl⟩ := List.mem_map.1 hl
      exact ords_lex k (b ++ [i])
    · rw [List.pairwise_map]
      refine (fr_lt b).imp fun {i j} hij o ho o' ho' => ?_
      obtain ⟨r, rfl, _⟩ := mem_ords.1 ho
      obtain ⟨r', rfl, _⟩ := mem_ords.1 ho'
      exact ⟨b, i, j, r, r', by simp, by simp, hij⟩
theorem mem_all {o : List Nat} : o ∈ ords n n [] ↔ o.length = n ∧ o.Nodup ∧ ∀ i ∈ o, i < n := by
  rw [mem_ords]
  constructor
  · rintro ⟨r, rfl, h1, h2, h3⟩
    exact ⟨by simpa using h1, by simpa using h2, fun i hi => (h3 i (by simpa using hi)).1⟩
  · rintro ⟨h1, h2, h3⟩
    exact ⟨o, by simp, h1, h2, fun i hi => ⟨h3 i hi, by simp⟩⟩
theorem nodup_len {α : Type} [DecidableEq α] {l : List α} (hn : l.Nodup) : ∀ {m : List α}, l ⊆ m → l.length ≤ m.length := by
  induction l with
  | nil => exact fun _ => Nat.zero_le _
  | cons a l ih =>
    intro m h
    rw [List.nodup_cons] at hn
    have ha : a ∈ m := h (by simp)
    have := ih hn.2 (m := m.erase a) fun x hx => by
      refine (List.mem_erase_of_ne ?_).2 (h (by simp [hx]))
      rintro rfl
      exact hn.1 hx
    rw [List.length_erase_of_mem ha] at this
    have := List.length_pos_of_mem ha
    simp only [List.length_cons]
    omega
theorem ords_ne : ∀ (k : Nat) (b : List Nat), b.Nodup → (∀ i ∈ b, i < n) → b.length + k = n → ords n k b ≠ []
  | 0, b, _, _, _ => by simp [ords]
  | k + 1, b, hn, hb, hl => by
    have : ∃ i, i < n ∧ i ∉ b := by
      refine Classical.byContradiction fun hc => ?_
      have hsub : List.range n ⊆ b := fun i hi => by
        refine Classical.byContradiction fun h => hc ⟨i, List.mem_range.1 hi, h⟩
      have := nodup_len List.nodup_range hsub
      rw [List.length_range] at this
      omega
    obtain ⟨i, h1, h2⟩ := this
    have ih := ords_ne k (b ++ [i]) (by
      rw [List.nodup_append]
      exact ⟨hn, by simp, fun a ha c hc => by simp at hc; subst hc; exact fun e => h2 (e ▸ ha)⟩) (fun j hj => by
      rcases List.mem_append.1 hj with h | h
      · exact hb j h
      · simp at h; subst h; exact h1) (by simp; omega)
    obtain ⟨o, ho⟩ := List.exists_mem_of_ne_nil _ ih
    exact List.ne_nil_of_mem (a := o) (by
      simp only [ords]
      exact List.mem_flatMap.2 ⟨i, mem_fr.2 ⟨h1, h2⟩, ho⟩)

/-- The first of some orders of which a number is least, and this one. -/
def betO (g : List Nat → Int) (b : Option (List Nat × Int)) (o : List Nat) : Option (List Nat × Int) :=
  match b with
  | none => some (o, g o)
  | some c => if g o < c.2 then some (o, g o) else some c
def bestO (g : List Nat → Int) (l : List (List Nat)) : Option (List Nat × Int) := l.foldl (betO g) none
theorem bestO_push (g : List Nat → Int) (l : List (List Nat)) (o : List Nat) : bestO g (l ++ [o]) = betO g (bestO g l) o := by simp [bestO]
theorem bestO_some {g : List Nat → Int} {l : List (List Nat)} (h : l ≠ []) : ∃ b, bestO g l = some b := by
  induction l using push_ind with
  | h0 => exact absurd rfl h
  | h1 l x _ =>
    rw [bestO_push]
    unfold betO
    cases bestO g l with
    | none => exact ⟨_, rfl⟩
    | some c => simp only; split <;> exact ⟨_, rfl⟩
theorem bestO_spec {g : List Nat → Int} {l : List (List Nat)} (hs : l.Pairwise Lex) {b : List Nat × Int} (hb : bestO g l = some b) : b.1 ∈ l ∧ b.2 = g b.1 ∧ ∀ o ∈ l, b.2 < g o ∨ (b.2 = g o ∧ (b.1 = o ∨ Lex b.1 o)) := by
  induction l using push_ind generalizing b with
  | h0 => simp [bestO] at hb
  | h1 l x ih =>
    rw [List.pairwise_append] at hs
    have hlx : ∀ o ∈ l, Lex o x := fun o ho => hs.2.2 o ho x (by simp)
    rw [bestO_push] at hb
    cases hc : bestO g l with
    | none =>
      have hl : l = [] := by
        cases l with
        | nil => rfl
        | cons a m => obtain ⟨c, h⟩ := bestO_some (g := g) (l := a :: m) (by simp); rw [hc] at h; cases h
      subst hl
      rw [hc] at hb
      simp only [betO, Option.some.injEq] at hb
      subst hb
      exact ⟨by simp, rfl, fun o ho => by simp at ho; subst ho; exact .inr ⟨rfl, .inl rfl⟩⟩
    | some c =>
      obtain ⟨h1, h2, h3⟩ := ih hs.1 hc
      rw [hc] at hb
      simp only [betO] at hb
      split at hb
      · simp only [Option.some.injEq] at hb
        subst hb
        refine ⟨by simp, rfl, fun o ho => ?_⟩
        rcases List.mem_append.1 ho with ho | ho
        · have := h3 o ho; simp only; left; omega
        · simp at ho; subst ho; exact .inr ⟨rfl, .inl rfl⟩
      · rename_i hlt
        simp only [Option.some.injEq] at hb
        subst hb
        refine ⟨by simp [h1], h2, fun o ho => ?_⟩
        rcases List.mem_append.1 ho with ho | ho
        · exact h3 o ho
        · simp at ho; subst ho
          have := hlx _ h1
          by_cases he : c.2 = g o
          · exact .inr ⟨he, .inr this⟩
          · exact .inl (by omega)
end Rk
end Go.Cw
end

/- Which seams would tell all, in plain words. -/
section
set_option maxRecDepth 100000
set_option linter.unusedSimpArgs false
namespace Go.Cw
open Go

namespace Rk
variable {n : Nat}
/-- Do two sets agree at the seams of a set? -/
def same (n : Nat) (q s t : Int) : Bool := (List.range n).all fun i => !inS q i || (inS s i == inS t i)
theorem same_iff {q s t : Int} : same n q s t = true ↔ ∀ i, i < n → inS q i = true → inS s i = inS t i := by
  unfold same
  rw [List.all_eq_true]
  constructor
  · intro h i hi hq
    have := h i (List.mem_range.2 hi)
    rw [hq] at this
    simpa using this
  · intro h i hi
    have := h i (List.mem_range.1 hi)
    cases hq : inS q i
    · rfl
    · simp [this hq]
theorem same_refl (q s : Int) : same n q s s = true := same_iff.2 fun _ _ _ => rfl
/-- Is it known which seams leak, if those of a set are raked? -/
def tellsP (n : Nat) (S : List Int) (q : Int) : Prop := S.Pairwise fun s t => same n q s t = false
instance (n : Nat) (S : List Int) (q : Int) : Decidable (tellsP n S q) := inferInstanceAs (Decidable (List.Pairwise _ _))
theorem tells_iff {S : List Int} (hn : S.Nodup) {q : Int} : tellsP n S q ↔ ∀ s ∈ S, ∀ t ∈ S, same n q s t = true → s = t := by
  unfold tellsP
  constructor
  · intro h s hs t ht hst
    refine Classical.byContradiction fun hne => ?_
    obtain ⟨i, hi, rfl⟩ := List.getElem_of_mem hs
    obtain ⟨j, hj, rfl⟩ := List.getElem_of_mem ht
    have hp := List.pairwise_iff_getElem.1 h
    rcases Nat.lt_trichotomy i j with hij | hij | hij
    · rw [hp i j hi hj hij] at hst; cases hst
    · subst hij; exact hne rfl
    · have h1 := hp j i hj hi hij
      have : same n q S[j] S[i] = true := same_iff.2 fun k hk hq => (same_iff.1 hst k hk hq).symm
      rw [this] at h1; cases h1
  · intro h
    refine List.Pairwise.imp_of_mem (fun {s t} hs ht hne => ?_) hn
    cases hst : same n q s t
    · rfl
    · exact absurd (h s hs t ht hst) hne
theorem all_same {s t : Int} (hs : 0 ≤ s ∧ s < 2 ^ n) (ht : 0 ≤ t ∧ t < 2 ^ n) (h : ∀ i, i < n → inS s i = inS t i) : s = t := by
  have e1 : bits (inS s) n = s := bits_of hs.1 hs.2
  have e2 : bits (inS t) n = t := bits_of ht.1 ht.2
  rw [← e1, ← e2]
  exact bits_congr h
theorem inS_full {i : Nat} (hi : i < n) : inS (2 ^ n - 1) i = true := by
  have h : ∀ n : Nat, bits (fun _ => true) n = 2 ^ n - 1 := fun n => by
    induction n with
    | zero => rfl
    | succ n ih => simp only [bits, ih, if_true, Int.pow_succ]; omega
  rw [← h, inS_bits _ hi]
theorem tells_full {S : List Int} (hn : S.Nodup) (hS : ∀ s ∈ S, 0 ≤ s ∧ s < 2 ^ n) : tellsP n S (2 ^ n - 1) :=
  (tells_iff hn).2 fun s hs t ht h => all_same (hS s hs) (hS t ht) fun i hi => same_iff.1 h i hi (inS_full hi)

/-- How many fathoms the seams of a set are together. -/
def lenS (f : Nat → Int) : Nat → Int → Int
  | 0, _ => 0
  | n + 1, q => lenS f n q + if inS q n then f n else 0
theorem lenS_nonneg {f : Nat → Int} : ∀ {n : Nat}, (∀ i, i < n → 0 ≤ f i) → ∀ q, 0 ≤ lenS f n q
  | 0, _, _ => Int.le_refl _
  | n + 1, h, q => by
    have := lenS_nonneg (n := n) (fun i hi => h i (by omega)) q
    have := h n (by omega)
    simp only [lenS]
    split <;> omega
theorem lenS_congr {f : Nat → Int} : ∀ {n : Nat} {p q : Int}, (∀ i, i < n → inS p i = inS q i) → lenS f n p = lenS f n q
  | 0, _, _, _ => rfl
  | n + 1, p, q, h => by simp only [lenS]; rw [lenS_congr fun i hi => h i (by omega), h n (by omega)]
/-- Without one of its seams a set is shorter. -/
theorem lenS_less {f : Nat → Int} : ∀ {n : Nat} {p q : Int} {j : Nat}, j < n → inS q j = true → (∀ i, i < n → inS p i = (inS q i && !decide (i = j))) → lenS f n q = lenS f n p + f j
  | 0, _, _, _, h, _, _ => by omega
  | n + 1, p, q, j, hj, hq, h => by
    simp only [lenS]
    by_cases hjn : j = n
    · subst hjn
      have h1 : lenS f j q = lenS f j p := (lenS_congr fun i hi => by rw [h i (by omega)]; have : i ≠ j := by omega
                                                                      simp [this]).symm
      have h2 : inS p j = false := by rw [h j (by omega)]; simp
      rw [h1, hq, h2]; simp
    · have h1 := lenS_less (f := f) (n := n) (p := p) (q := q) (j := j) (by omega) hq fun i hi => h i (by omega)
      have h2 : inS p n = inS q n := by rw [h n (by omega)]; have : n ≠ j := fun e => hjn e.symm
                                        simp [this]
      rw [h1, h2]; omega

/-- The sets that are left behind some seams. -/
def wls (l : List Int) (o : List Nat) (s : Int) : List Int := o.foldl (fun l i => wl l i (inS s i)) l
theorem wls_cons (l : List Int) (i : Nat) (o : List Nat) (s : Int) : wls l (i :: o) s = wls (wl l i (inS s i)) o s := rfl
theorem mem_wls {l : List Int} {o : List Nat} {s t : Int} : t ∈ wls l o s ↔ t ∈ l ∧ ∀ i ∈ o, inS t i = inS s i := by
  induction o generalizing l with
  | nil => simp [wls]
  | cons i o ih =>
    rw [wls_cons, ih, mem_wl]
    constructor
    · rintro ⟨⟨h1, h2⟩, h3⟩
      exact ⟨h1, fun j hj => by
        rcases List.mem_cons.1 hj with rfl | h
        · exact h2
        · exact h3 j h⟩
    · rintro ⟨h1, h2⟩
      exact ⟨⟨h1, h2 i (by simp)⟩, fun j hj => h2 j (by simp [hj])⟩
theorem wls_sub (o : List Nat) (s : Int) : ∀ l : List Int, (wls l o s).Sublist l := by
  induction o with
  | nil => exact fun l => List.Sublist.refl _
  | cons i o ih => intro l; exact (ih _).trans List.filter_sublist
/-- If some seams tell all, an order that begins with them costs no more than they take. -/
theorem cost_prefix {f : Nat → Int} (o r : List Nat) (hf : ∀ i ∈ o, 0 ≤ f i) : ∀ (l : List Int) (s : Int), (wls l o s).length ≤ 1 → costL f (o ++ r) l s ≤ (o.map f).sum := by
  induction o with
  | nil => intro l s h; rw [List.nil_append, costL_done (l := l) r h]; simp
  | cons i o ih =>
    intro l s h
    rw [List.cons_append]
    simp only [costL, List.map_cons, List.sum_cons]
    have h1 := ih (fun j hj => hf j (by simp [hj])) (wl l i (inS s i)) s h
    have h2 := hf i (by simp)
    have h3 : 0 ≤ (o.map f).sum := by
      have : ∀ o : List Nat, (∀ j ∈ o, 0 ≤ f j) → 0 ≤ (o.map f).sum := fun o => by
        induction o with
        | nil => intro _; simp
        | cons a o ih2 => intro h; simp only [List.map_cons, List.sum_cons]; have := h a (by simp); have := ih2 fun j hj => h j (by simp [hj]); omega
      exact this o fun j hj => hf j (by simp [hj])
    split <;> omega
end Rk
end Go.Cw
end

/- The next seam, in plain words. -/
section
set_option maxRecDepth 100000
set_option linter.unusedSimpArgs false
namespace Go.Cw
open Go

namespace Rk
variable {n : Nat}
/-- Some sets that agree at the seams that were raked. -/
structure Some' (n : Nat) (l : List Int) (q : Int) : Prop where
  rng : ∀ s ∈ l, 0 ≤ s ∧ s < 2 ^ n
  lt : l.Pairwise (· < ·)
  ag : ∀ s ∈ l, ∀ t ∈ l, ∀ i, i < n → inS q i = true → inS s i = inS t i
  q : 0 ≤ q ∧ q < 2 ^ n
theorem Some'.wl {l : List Int} {q : Int} (h : Some' n l q) {i : Nat} (hi : i ∈ un n q) (b : Bool) : Some' n (wl l i b) (q + 2 ^ i) := by
  obtain ⟨h1, h2⟩ := mem_un.1 hi
  refine ⟨fun s hs => h.rng s (mem_wl.1 hs).1, List.Pairwise.filter _ h.lt, fun s hs t ht j hj hq => ?_, add_lt h.q h1 h2⟩
  rw [inS_add h.q h1 h2 hj, Bool.or_eq_true] at hq
  rcases hq with hq | hq
  · exact h.ag s (mem_wl.1 hs).1 t (mem_wl.1 ht).1 j hj hq
  · simp only [decide_eq_true_eq] at hq
    subst hq
    rw [(mem_wl.1 hs).2, (mem_wl.1 ht).2]
theorem Some'.un_ne {l : List Int} {q : Int} (h : Some' n l q) (h2 : 2 ≤ l.length) : un n q ≠ [] := by
  intro e
  have h01 := List.pairwise_iff_getElem.1 h.lt 0 1 (by omega) (by omega) (by omega)
  have : l[0] = l[1] := all_same (n := n) (h.rng _ (by simp)) (h.rng _ (by simp)) fun i hi => by
    refine h.ag _ (by simp) _ (by simp) i hi ?_
    cases hq : inS q i
    · have : i ∈ un n q := mem_un.2 ⟨hi, hq⟩
      rw [e] at this; simp at this
    · rfl
  omega
theorem plan_next {f : Nat → Int} {l : List Int} {q : Int} (h : Some' n l q) (h2 : 2 ≤ l.length) :
    (planQ n f false l q).1 ∈ un n q ∧ (planQ n f false l q).2 = behind false f (fun l q => (planQ n f false l q).2) l q (planQ n f false l q).1 ∧
    ∀ i ∈ un n q, (planQ n f false l q).2 < behind false f (fun l q => (planQ n f false l q).2) l q i ∨ ((planQ n f false l q).2 = behind false f (fun l q => (planQ n f false l q).2) l q i ∧ (planQ n f false l q).1 ≤ i) := by
  have hd : ¬ doneL false l := by rintro (h1 | ⟨h1, _⟩); rw [h1] at h2; simp at h2; omega
  have e := planQ_eq (f := f) (any := false) (l := l) h.q
  rw [if_neg hd] at e
  obtain ⟨b, hb⟩ := bestR_some (g := behind false f (fun l q => (planQ n f false l q).2) l q) (h.un_ne h2)
  rw [hb] at e
  have e' : planQ n f false l q = b := e
  rw [e']
  exact bestR_spec (un_lt n q) hb
theorem behind_eq {f : Nat → Int} {l : List Int} {q : Int} {i : Nat} : behind false f (fun l q => (planQ n f false l q).2) l q i = f i + max (planQ n f false (wl l i false) (q + 2 ^ i)).2 (planQ n f false (wl l i true) (q + 2 ^ i)).2 := by unfold behind; simp
theorem plan_short {f : Nat → Int} {l : List Int} {q : Int} (hq : 0 ≤ q ∧ q < 2 ^ n) (h : l.length ≤ 1) : planQ n f false l q = (0, 0) := by
  refine planQ_done hq ?_
  rcases (show l.length = 0 ∨ l.length = 1 by omega) with h0 | h0
  · exact .inl (List.eq_nil_of_length_eq_zero h0)
  · exact .inr ⟨h0, rfl⟩
/-- By any leak: the seam to begin with, and what is behind it. -/
theorem plan_first {f : Nat → Int} {l : List Int} {q : Int} (hq : 0 ≤ q ∧ q < 2 ^ n) (hl : l ≠ []) (hu : un n q ≠ []) :
    (planQ n f true l q).1 ∈ un n q ∧ (planQ n f true l q).2 = f (planQ n f true l q).1 + (planQ n f true (wl l (planQ n f true l q).1 false) (q + 2 ^ (planQ n f true l q).1)).2 := by
  have hd : ¬ doneL true l := by rintro (h1 | ⟨_, h1⟩); exact hl h1; cases h1
  have e := planQ_eq (f := f) (any := true) (l := l) hq
  rw [if_neg hd] at e
  obtain ⟨b, hb⟩ := bestR_some (g := behind true f (fun l q => (planQ n f true l q).2) l q) hu
  rw [hb] at e
  have e' : planQ n f true l q = b := e
  obtain ⟨b1, b2, _⟩ := bestR_spec (un_lt n q) hb
  rw [e']
  refine ⟨b1, ?_⟩
  rw [b2]
  unfold behind
  simp
/-- If all seams that are left were raked one set is left. -/
theorem one_left {l : List Int} {q : Int} (h : Some' n l q) (hu : un n q = []) : l.length ≤ 1 := by
  refine Classical.byContradiction fun hc => h.un_ne (by omega) hu
end Rk
end Go.Cw
end

/- Which seams would tell all: the least sets, by two ways of going through them; what the best order costs is between. -/
section
set_option maxRecDepth 100000
set_option linter.unusedSimpArgs false
namespace Go.Cw
open Go

namespace Rk
variable {n : Nat}
/-- The sets that would tell all. -/
def cand (n : Nat) (S : List Int) : List Nat := (List.range (2 ^ n)).filter fun q => decide (tellsP n S (q : Int))
theorem mem_cand {S : List Int} {q : Nat} : q ∈ cand n S ↔ q < 2 ^ n ∧ tellsP n S (q : Int) := by
  unfold cand; simp [List.mem_filter]
theorem cand_lt (S : List Int) : (cand n S).Pairwise (· < ·) := List.Pairwise.filter _ List.pairwise_lt_range
theorem pow_cast (n : Nat) : ((2 ^ n : Nat) : Int) = 2 ^ n := by norm_cast
theorem pow_pos' (n : Nat) : 0 < 2 ^ n := Nat.pow_pos (by omega)
theorem full_cand {S : List Int} (hn : S.Nodup) (hS : ∀ s ∈ S, 0 ≤ s ∧ s < 2 ^ n) : 2 ^ n - 1 ∈ cand n S := by
  have h0 := pow_pos' n
  refine mem_cand.2 ⟨by omega, ?_⟩
  have e : ((2 ^ n - 1 : Nat) : Int) = 2 ^ n - 1 := by have := pow_cast n; omega
  rw [e]
  exact tells_full hn hS
/-- The set that would tell all, and how long it is. -/
def enP (n : Nat) (f : Nat → Int) (S : List Int) : Nat × Int := (bestR (fun q => lenS f n (q : Int)) (cand n S)).getD (0, 0)
theorem enP_spec {f : Nat → Int} {S : List Int} (hn : S.Nodup) (hS : ∀ s ∈ S, 0 ≤ s ∧ s < 2 ^ n) :
    (enP n f S).1 < 2 ^ n ∧ tellsP n S (((enP n f S).1 : Nat) : Int) ∧ (enP n f S).2 = lenS f n (((enP n f S).1 : Nat) : Int) ∧
    ∀ p : Nat, p < 2 ^ n → tellsP n S (p : Int) → (enP n f S).2 < lenS f n (p : Int) ∨ ((enP n f S).2 = lenS f n (p : Int) ∧ (enP n f S).1 ≤ p) := by
  obtain ⟨b, hb⟩ := bestR_some (g := fun q : Nat => lenS f n (q : Int)) (List.ne_nil_of_mem (full_cand hn hS))
  obtain ⟨h1, h2, h3⟩ := bestR_spec (cand_lt S) hb
  have e : enP n f S = b := by unfold enP; rw [hb]; rfl
  rw [e]
  obtain ⟨h4, h5⟩ := mem_cand.1 h1
  exact ⟨h4, h5, h2, fun p hp ht => h3 p (mem_cand.2 ⟨hp, ht⟩)⟩
/-- From above: what is as short is better. -/
def refE (n : Nat) (f : Nat → Int) (S : List Int) : Nat → Nat → Nat
  | 0, b => b
  | k + 1, b => refE n f S k (if tellsP n S (k : Int) ∧ lenS f n (k : Int) ≤ lenS f n (b : Int) then k else b)
theorem refE_spec {f : Nat → Int} {S : List Int} : ∀ (k b : Nat), k ≤ 2 ^ n → k ≤ b + 1 → b < 2 ^ n → tellsP n S (b : Int) →
    (∀ p : Nat, k ≤ p → p < 2 ^ n → tellsP n S (p : Int) → lenS f n (b : Int) < lenS f n (p : Int) ∨ (lenS f n (b : Int) = lenS f n (p : Int) ∧ b ≤ p)) →
    refE n f S k b < 2 ^ n ∧ tellsP n S ((refE n f S k b : Nat) : Int) ∧ ∀ p : Nat, p < 2 ^ n → tellsP n S (p : Int) → lenS f n ((refE n f S k b : Nat) : Int) < lenS f n (p : Int) ∨ (lenS f n ((refE n f S k b : Nat) : Int) = lenS f n (p : Int) ∧ refE n f S k b ≤ p)
  | 0, b, _, _, hb, ht, h => ⟨hb, ht, fun p hp hpt => h p (Nat.zero_le _) hp hpt⟩
  | k + 1, b, hk, hkb, hb, ht, h => by
    simp only [refE]
    by_cases hc : tellsP n S (k : Int) ∧ lenS f n (k : Int) ≤ lenS f n (b : Int)
    · rw [if_pos hc]
      refine refE_spec k k (by omega) (by omega) (by omega) hc.1 fun p hp hp2 hpt => ?_
      by_cases he : p = k
      · subst he; exact .inr ⟨rfl, Nat.le_refl _⟩
      · have := h p (by omega) hp2 hpt
        have := hc.2
        by_cases h3 : lenS f n (k : Int) < lenS f n (p : Int)
        · exact .inl h3
        · exact .inr ⟨by omega, hp⟩
    · rw [if_neg hc]
      refine refE_spec k b (by omega) (by omega) hb ht fun p hp hp2 hpt => ?_
      by_cases he : p = k
      · subst he
        left
        refine Classical.byContradiction fun h3 => hc ⟨hpt, by omega⟩
      · exact h p (by omega) hp2 hpt
theorem refE_eq {f : Nat → Int} {S : List Int} (hn : S.Nodup) (hS : ∀ s ∈ S, 0 ≤ s ∧ s < 2 ^ n) : refE n f S (2 ^ n) (2 ^ n - 1) = (enP n f S).1 := by
  have h0 := pow_pos' n
  have hf := mem_cand.1 (full_cand hn hS)
  obtain ⟨r1, r2, r3⟩ := refE_spec (f := f) (S := S) (2 ^ n) (2 ^ n - 1) (by omega) (by omega) (by omega) hf.2 fun p hp hp2 _ => by omega
  obtain ⟨e1, e2, e3, e4⟩ := enP_spec (f := f) hn hS
  have h1 := r3 _ e1 e2
  have h2 := e4 _ r1 r2
  omega

/-- The seams of a set. -/
def els (n : Nat) (q : Int) : List Nat := (List.range n).filter fun i => inS q i
theorem mem_els {q : Int} {i : Nat} : i ∈ els n q ↔ i < n ∧ inS q i = true := by unfold els; simp [List.mem_filter]
theorem els_succ (n : Nat) (q : Int) : els (n + 1) q = els n q ++ if inS q n then [n] else [] := by
  unfold els
  rw [List.range_succ, List.filter_append]
  cases h : inS q n <;> simp [h]
theorem lenS_els {f : Nat → Int} (q : Int) : ∀ n : Nat, lenS f n q = ((els n q).map f).sum
  | 0 => rfl
  | n + 1 => by
    rw [els_succ]
    simp only [lenS, List.map_append, List.sum_append, lenS_els q n]
    cases inS q n <;> simp
theorem els_un {q : Int} : els n q ++ un n q ∈ ords n n [] := by
  rw [mem_all]
  have hp : (els n q ++ un n q).Nodup := by
    rw [List.nodup_append]
    refine ⟨List.nodup_range.sublist List.filter_sublist, List.nodup_range.sublist List.filter_sublist, fun a ha b hb e => ?_⟩
    subst e
    have h1 := (mem_els.1 ha).2
    have h2 := (mem_un.1 hb).2
    rw [h1] at h2; cases h2
  have hl : ∀ i ∈ els n q ++ un n q, i < n := fun i hi => by
    rcases List.mem_append.1 hi with h | h
    · exact (mem_els.1 h).1
    · exact (mem_un.1 h).1
  refine ⟨?_, hp, hl⟩
  have a1 := nodup_len hp (m := List.range n) fun i hi => List.mem_range.2 (hl i hi)
  have a2 := nodup_len List.nodup_range (l := List.range n) (m := els n q ++ un n q) fun i hi => by
    have hi := List.mem_range.1 hi
    cases h : inS q i
    · exact List.mem_append.2 (.inr (mem_un.2 ⟨hi, h⟩))
    · exact List.mem_append.2 (.inl (mem_els.2 ⟨hi, h⟩))
  rw [List.length_range] at a1 a2
  omega
theorem short_of_eq {l : List Int} (hn : l.Nodup) (h : ∀ s ∈ l, ∀ t ∈ l, s = t) : l.length ≤ 1 := by
  match l, hn, h with
  | [], _, _ => simp
  | [_], _, _ => simp
  | a :: b :: l, hn, h =>
    have := h a (by simp) b (by simp)
    rw [List.nodup_cons] at hn
    exact absurd (by rw [this]; simp) hn.1
theorem wls_tells {S : List Int} (hn : S.Nodup) {q : Int} (ht : tellsP n S q) (s : Int) : (wls S (els n q) s).length ≤ 1 := by
  refine short_of_eq (hn.sublist (wls_sub _ _ _)) fun a ha b hb => ?_
  obtain ⟨a1, a2⟩ := mem_wls.1 ha
  obtain ⟨b1, b2⟩ := mem_wls.1 hb
  refine (tells_iff hn).1 ht a a1 b b1 (same_iff.2 fun i hi hq => ?_)
  rw [a2 i (mem_els.2 ⟨hi, hq⟩), b2 i (mem_els.2 ⟨hi, hq⟩)]

/-- The best order, and what it costs at worst. -/
def ordP (n : Nat) (f : Nat → Int) (S : List Int) : List Nat × Int := (bestO (fun o => mostL f o S S) (ords n n [])).getD ([], 0)
theorem ordP_spec {f : Nat → Int} {S : List Int} :
    (ordP n f S).1 ∈ ords n n [] ∧ (ordP n f S).2 = mostL f (ordP n f S).1 S S ∧ ∀ o ∈ ords n n [], (ordP n f S).2 < mostL f o S S ∨ ((ordP n f S).2 = mostL f o S S ∧ ((ordP n f S).1 = o ∨ Lex (ordP n f S).1 o)) := by
  obtain ⟨b, hb⟩ := bestO_some (g := fun o => mostL f o S S) (ords_ne (n := n) n [] (by simp) (by simp) (by simp))
  have e : ordP n f S = b := by unfold ordP; rw [hb]; rfl
  rw [e]
  exact bestO_spec (ords_lex n []) hb
theorem ordP_le {f : Nat → Int} {S : List Int} {o : List Nat} (ho : o ∈ ords n n []) : (ordP n f S).2 ≤ mostL f o S S := by
  have := (ordP_spec (n := n) (f := f) (S := S)).2.2 o ho
  omega
/-- The best order costs no less than the best way. -/
theorem plan_le_ord {f : Nat → Int} (hf : ∀ i, i < n → 0 ≤ f i) {S : List Int} : (planQ n f false S 0).2 ≤ (ordP n f S).2 := by
  obtain ⟨h1, h2, _⟩ := ordP_spec (n := n) (f := f) (S := S)
  obtain ⟨h3, h4, h5⟩ := mem_all.1 h1
  rw [h2]
  have hq : (0 : Int) ≤ 0 ∧ (0 : Int) < 2 ^ n := ⟨Int.le_refl _, by have := pow_cast n; have := pow_pos' n; omega⟩
  refine plan_le_cost hf (ordP n f S).1 most_nonneg S 0 hq h4 (fun i => ?_) fun s hs => most_le hs
  rw [mem_un]
  constructor
  · intro h; exact ⟨h5 i h, by unfold inS; simp⟩
  · rintro ⟨h, _⟩
    refine Classical.byContradiction fun hc => ?_
    have a := nodup_len h4 (m := (List.range n).filter fun j => !decide (j = i)) fun j hj => by
      rw [List.mem_filter]
      refine ⟨List.mem_range.2 (h5 j hj), ?_⟩
      have : j ≠ i := fun e => hc (e ▸ hj)
      simpa using this
    have b := erase_len (l := List.range n) List.pairwise_lt_range (List.mem_range.2 h)
    rw [List.length_range] at b
    omega
/-- The best order costs no more than seams that would tell all. -/
theorem ord_le_en {f : Nat → Int} (hf : ∀ i, i < n → 0 ≤ f i) {S : List Int} (hn : S.Nodup) (hS : ∀ s ∈ S, 0 ≤ s ∧ s < 2 ^ n) : (ordP n f S).2 ≤ (enP n f S).2 := by
  obtain ⟨e1, e2, e3, _⟩ := enP_spec (f := f) hn hS
  refine Int.le_trans (ordP_le els_un (o := els n ((enP n f S).1 : Int) ++ un n ((enP n f S).1 : Int))) ?_
  rw [e3]
  refine most_bound (lenS_nonneg hf _) fun s _ => ?_
  rw [lenS_els]
  exact cost_prefix _ _ (fun i hi => hf i (mem_els.1 hi).1) S s (wls_tells hn e2 s)
end Rk
end Go.Cw
end

/- Raking by what is told next; what holds with fewer sets, longer seams; seams that tell all. -/
section
set_option maxRecDepth 100000
set_option linter.unusedSimpArgs false
namespace Go.Cw
open Go

namespace Rk
variable {n : Nat}
theorem zero_rng (n : Nat) : (0 : Int) ≤ 0 ∧ (0 : Int) < 2 ^ n := ⟨Int.le_refl _, by have := pow_cast n; have := pow_pos' n; omega⟩
theorem inS_zero (i : Nat) : inS 0 i = false := by unfold inS; simp
theorem mem_un0 {i : Nat} : i ∈ un n 0 ↔ i < n := by rw [mem_un]; simp [inS_zero]
/-- One seam more. -/
theorem lenS_add {f : Nat → Int} {q : Int} (hq : 0 ≤ q ∧ q < 2 ^ n) {i : Nat} (hi : i ∈ un n q) : lenS f n (q + 2 ^ i) = lenS f n q + f i := by
  obtain ⟨h1, h2⟩ := mem_un.1 hi
  refine lenS_less (j := i) h1 (by rw [inS_add hq h1 h2 h1]; simp) fun j hj => ?_
  rw [inS_add hq h1 h2 hj]
  by_cases he : j = i
  · subst he; simp [h2]
  · simp [he]
theorem lenS_zero {f : Nat → Int} : ∀ n : Nat, lenS f n 0 = 0
  | 0 => rfl
  | n + 1 => by simp [lenS, lenS_zero n, inS_zero]

/-- With the seam that is told no more is left, whichever it is found to be. -/
theorem follow {f : Nat → Int} {l : List Int} {q : Int} (h : Some' n l q) (h2 : 2 ≤ l.length) {i : Nat} (hi : i = (planQ n f false l q).1) (b : Bool) :
    i ∈ un n q ∧ (planQ n f false (wl l i b) (q + 2 ^ i)).2 ≤ (planQ n f false l q).2 - f i := by
  subst hi
  obtain ⟨h3, h4, _⟩ := plan_next (f := f) h h2
  refine ⟨h3, ?_⟩
  rw [behind_eq] at h4
  cases b <;> omega
/-- Nothing is left to rake just if one set is. -/
theorem plan_zero {f : Nat → Int} (hf : ∀ i, i < n → 1 ≤ f i) {l : List Int} {q : Int} (h : Some' n l q) (hl : l ≠ []) : (planQ n f false l q).2 = 0 ↔ l.length = 1 := by
  constructor
  · intro h0
    have : l.length ≠ 0 := fun e => hl (List.eq_nil_of_length_eq_zero e)
    refine Classical.byContradiction fun hc => ?_
    have h2 : 2 ≤ l.length := by omega
    obtain ⟨h3, h4, _⟩ := plan_next (f := f) h h2
    have h5 := hf _ (mem_un.1 h3).1
    have h6 := planQ_nonneg (n := n) (f := f) (fun i hi => by have := hf i hi; omega) (any := false) (un n (q + 2 ^ (planQ n f false l q).1)).length (wl l (planQ n f false l q).1 false) (q + 2 ^ (planQ n f false l q).1)
    have h7 := planQ_nonneg (n := n) (f := f) (fun i hi => by have := hf i hi; omega) (any := false) (un n (q + 2 ^ (planQ n f false l q).1)).length (wl l (planQ n f false l q).1 true) (q + 2 ^ (planQ n f false l q).1)
    rw [behind_eq] at h4
    unfold planQ at h0 h4 h5 h6 h7
    omega
  · intro h1
    rw [plan_short h.q (by omega)]
theorem some_all {S : List Int} (hS : ∀ s ∈ S, 0 ≤ s ∧ s < 2 ^ n) (hl : S.Pairwise (· < ·)) : Some' n S 0 := ⟨hS, hl, fun s _ t _ i _ hq => by rw [inS_zero] at hq; (cases hq), zero_rng n⟩
theorem lt_nodup {S : List Int} (hl : S.Pairwise (· < ·)) : S.Nodup := hl.imp fun h e => by omega

/-- With fewer sets, and shorter seams. -/
theorem worst_mono {f f' : Nat → Int} (hf0 : ∀ i, i < n → 0 ≤ f i) (hf : ∀ i, i < n → f i ≤ f' i) {any : Bool} {l l' : List Int} (q : Int) (h : l.Sublist l') : (planQ n f any l q).2 ≤ (planQ n f' any l' q).2 := plan_mono hf0 hf _ q h
theorem worst_mul {f : Nat → Int} {c : Int} (hc : 0 < c) {any : Bool} (l : List Int) (q : Int) : planQ n (fun i => c * f i) any l q = ((planQ n f any l q).1, c * (planQ n f any l q).2) := plan_mul hc _ l q
theorem cost_mono {f f' : Nat → Int} : ∀ (o : List Nat) (_ : ∀ i ∈ o, 0 ≤ f i) (_ : ∀ i ∈ o, f i ≤ f' i) {l l' : List Int} (s : Int), l.Sublist l' → costL f o l s ≤ costL f' o l' s
  | [], _, _, _, _, _, _ => Int.le_refl _
  | i :: o, h0, h1, l, l', s, h => by
    have hl := h.length_le
    have g0 := h0 i (by simp)
    have g1 := h1 i (by simp)
    have ih := cost_mono o (fun j hj => h0 j (by simp [hj])) (fun j hj => h1 j (by simp [hj])) s (wl_sub h i (inS s i))
    have n1 := costL_nonneg (f := f') (o := o) (fun j hj => by have := h0 j (by simp [hj]); have := h1 j (by simp [hj]); omega) (wl l' i (inS s i)) s
    simp only [costL]
    by_cases a : l.length ≤ 1
    · rw [if_pos a]
      split <;> omega
    · rw [if_neg a, if_neg (by omega)]
      omega
theorem ord_mono {f f' : Nat → Int} (hf0 : ∀ i, i < n → 0 ≤ f i) (hf : ∀ i, i < n → f i ≤ f' i) {S S' : List Int} (h : S.Sublist S') : (ordP n f S).2 ≤ (ordP n f' S').2 := by
  obtain ⟨h1, h2, _⟩ := ordP_spec (n := n) (f := f') (S := S')
  refine Int.le_trans (ordP_le h1) ?_
  rw [h2]
  have ho := (mem_all.1 h1).2.2
  refine most_bound most_nonneg fun s hs => ?_
  exact Int.le_trans (cost_mono _ (fun i hi => hf0 i (ho i hi)) (fun i hi => hf i (ho i hi)) s h) (most_le (h.subset hs))
theorem cost_mul {f : Nat → Int} {c : Int} : ∀ (o : List Nat) (l : List Int) (s : Int), costL (fun i => c * f i) o l s = c * costL f o l s
  | [], _, _ => by simp [costL]
  | i :: o, l, s => by
    simp only [costL, cost_mul o]
    split
    · simp
    · rw [Int.mul_add]
theorem most_mul {f : Nat → Int} {c : Int} (hc : 0 < c) (o : List Nat) (l S : List Int) : mostL (fun i => c * f i) o l S = c * mostL f o l S := by
  have : ∀ (S : List Int) (a : Int), S.foldl (fun m s => max m (costL (fun i => c * f i) o l s)) (c * a) = c * S.foldl (fun m s => max m (costL f o l s)) a := fun S => by
    induction S with
    | nil => intro a; rfl
    | cons x S ih =>
      intro a
      simp only [List.foldl_cons]
      rw [← ih, cost_mul]
      congr 1
      by_cases h : a ≤ costL f o l x
      · have := Int.mul_le_mul_of_nonneg_left h (show 0 ≤ c by omega)
        rw [Int.max_eq_right h, Int.max_eq_right this]
      · have h' : costL f o l x ≤ a := by omega
        have := Int.mul_le_mul_of_nonneg_left h' (show 0 ≤ c by omega)
        rw [Int.max_eq_left h', Int.max_eq_left this]
  have h := this S 0
  rw [Int.mul_zero] at h
  exact h
theorem bestO_mul {g : List Nat → Int} {c : Int} (hc : 0 < c) (l : List (List Nat)) : bestO (fun i => c * g i) l = (bestO g l).map fun b => (b.1, c * b.2) := by
  induction l using push_ind with
  | h0 => rfl
  | h1 l x ih =>
    rw [bestO_push, bestO_push, ih]
    cases bestO g l with
    | none => rfl
    | some b =>
      simp only [betO, Option.map_some]
      by_cases h : g x < b.2
      · rw [if_pos h, if_pos (Int.mul_lt_mul_of_pos_left h hc)]; rfl
      · rw [if_neg h, if_neg (fun h' => h (Int.lt_of_mul_lt_mul_left h' (by omega)))]; rfl
theorem ord_mul {f : Nat → Int} {c : Int} (hc : 0 < c) (S : List Int) : (ordP n (fun i => c * f i) S).2 = c * (ordP n f S).2 := by
  unfold ordP
  have e : (fun o => mostL (fun i => c * f i) o S S) = fun o => c * mostL f o S S := funext fun o => most_mul hc o S S
  rw [e, bestO_mul hc]
  cases bestO (fun o => mostL f o S S) (ords n n []) <;> simp
theorem lenS_mono {f f' : Nat → Int} (q : Int) : ∀ n : Nat, (∀ i, i < n → f i ≤ f' i) → lenS f n q ≤ lenS f' n q
  | 0, _ => Int.le_refl _
  | n + 1, h => by
    have := lenS_mono q n fun i hi => h i (by omega)
    have := h n (by omega)
    simp only [lenS]
    split <;> omega
theorem lenS_mul {f : Nat → Int} {c : Int} (q : Int) : ∀ n : Nat, lenS (fun i => c * f i) n q = c * lenS f n q
  | 0 => by simp [lenS]
  | n + 1 => by simp only [lenS, lenS_mul q n]; split <;> simp [Int.mul_add]
theorem tells_sub {S S' : List Int} (h : S.Sublist S') {q : Int} (ht : tellsP n S' q) : tellsP n S q := List.Pairwise.sublist h ht
theorem en_mono {f f' : Nat → Int} (hf : ∀ i, i < n → f i ≤ f' i) {S S' : List Int} (h : S.Sublist S') (hn : S'.Nodup) (hS : ∀ s ∈ S', 0 ≤ s ∧ s < 2 ^ n) : (enP n f S).2 ≤ (enP n f' S').2 := by
  obtain ⟨a1, a2, a3, a4⟩ := enP_spec (f := f) (hn.sublist h) fun s hs => hS s (h.subset hs)
  obtain ⟨b1, b2, b3, b4⟩ := enP_spec (f := f') hn hS
  have h1 := a4 _ b1 (tells_sub h b2)
  have h2 := lenS_mono (((enP n f' S').1 : Nat) : Int) n hf
  omega
theorem en_mul {f : Nat → Int} {c : Int} (hc : 0 < c) (S : List Int) : (enP n (fun i => c * f i) S).2 = c * (enP n f S).2 := by
  unfold enP
  have e : (fun q : Nat => lenS (fun i => c * f i) n (q : Int)) = fun q : Nat => c * lenS f n (q : Int) := funext fun q => lenS_mul _ n
  rw [e, bestR_mul hc]
  cases bestR (fun q : Nat => lenS f n (q : Int)) (cand n S) <;> simp

/-- Some leak: at least one seam is raked, and no more than to know all, and one more. -/
theorem any_bounds {f : Nat → Int} {M : Int} (hf : ∀ i, i < n → 1 ≤ f i ∧ f i ≤ M) {S : List Int} (hS : ∀ s ∈ S, 0 < s ∧ s < 2 ^ n) (hl : S ≠ []) :
    1 ≤ (planQ n f true S 0).2 ∧ (planQ n f true S 0).2 ≤ (planQ n f false S 0).2 + M := by
  have hsome : ∀ s ∈ S, ∃ i, i ∈ un n 0 ∧ inS s i = true := fun s hs => by
    obtain ⟨h1, h2⟩ := hS s hs
    refine Classical.byContradiction fun hc => ?_
    have : s = 0 := all_same (n := n) ⟨by omega, h2⟩ (zero_rng n) fun i hi => by
      rw [inS_zero]
      cases h : inS s i
      · rfl
      · exact absurd ⟨i, mem_un0.2 hi, h⟩ hc
    omega
  obtain ⟨s, hs⟩ := List.exists_mem_of_ne_nil _ hl
  obtain ⟨i, hi, _⟩ := hsome s hs
  have hn := mem_un0.1 hi
  refine ⟨?_, ?_⟩
  · obtain ⟨h1, h2⟩ := plan_first (f := f) (zero_rng n) hl (List.ne_nil_of_mem hi)
    have h3 := hf _ (mem_un.1 h1).1
    have h4 := planQ_nonneg (n := n) (f := f) (fun i hi => by have := hf i hi; omega) (any := true) (un n (0 + 2 ^ (planQ n f true S 0).1)).length (wl S (planQ n f true S 0).1 false) (0 + 2 ^ (planQ n f true S 0).1)
    rw [h2]
    show 1 ≤ _ + (plan n f true _ _ _).2
    omega
  · exact plan_any (fun i hi => by have := hf i hi; omega) (by have := hf i hn; omega) _ S 0 (zero_rng n) rfl hsome
/-- None of the seams that tell all surely leaks, or surely does not. -/
theorem en_open {f : Nat → Int} (hf : ∀ i, i < n → 1 ≤ f i) {S : List Int} (hn : S.Nodup) (hS : ∀ s ∈ S, 0 ≤ s ∧ s < 2 ^ n) {i : Nat} (hi : i < n) (hq : inS ((enP n f S).1 : Int) i = true) : ∃ s ∈ S, ∃ t ∈ S, inS s i = true ∧ inS t i = false := by
  obtain ⟨a1, a2, a3, a4⟩ := enP_spec (f := f) hn hS
  refine Classical.byContradiction fun hc => ?_
  have hsame : ∀ s ∈ S, ∀ t ∈ S, inS s i = inS t i := fun s hs t ht => by
    cases h1 : inS s i <;> cases h2 : inS t i
    · rfl
    · exact absurd ⟨t, ht, s, hs, h2, h1⟩ hc
    · exact absurd ⟨s, hs, t, ht, h1, h2⟩ hc
    · rfl
  have hp : ∀ j, j < n → inS (bits (fun j => inS ((enP n f S).1 : Int) j && !decide (j = i)) n) j = (inS ((enP n f S).1 : Int) j && !decide (j = i)) := fun j hj => inS_bits _ hj
  obtain ⟨p, hpe⟩ : ∃ p : Nat, (p : Int) = bits (fun j => inS ((enP n f S).1 : Int) j && !decide (j = i)) n := ⟨_, Int.toNat_of_nonneg (bits_lt _ n).1⟩
  have hlt : p < 2 ^ n := by
    have h1 := (bits_lt (fun j => inS ((enP n f S).1 : Int) j && !decide (j = i)) n).2
    have h2 := pow_cast n
    omega
  rw [← hpe] at hp
  have ht : tellsP n S (p : Int) := (tells_iff hn).2 fun s hs t ht hst => by
    refine (tells_iff hn).1 a2 s hs t ht (same_iff.2 fun j hj hjq => ?_)
    by_cases he : j = i
    · subst he; exact hsame s hs t ht
    · exact same_iff.1 hst j hj (by rw [hp j hj, hjq]; simp [he])
  have h1 := a4 p hlt ht
  have h2 := lenS_less (f := f) hi hq hp
  have h3 := hf i hi
  omega
/-- Without one of its seams a set that is least tells not all. -/
theorem en_without {f : Nat → Int} (hf : ∀ i, i < n → 1 ≤ f i) {S : List Int} (hn : S.Nodup) (hS : ∀ s ∈ S, 0 ≤ s ∧ s < 2 ^ n) {i : Nat} (hi : i < n) (hq : inS ((enP n f S).1 : Int) i = true) {p : Nat} (hlt : p < 2 ^ n) (hp : ∀ j, j < n → inS (p : Int) j = (inS ((enP n f S).1 : Int) j && !decide (j = i))) : ¬ tellsP n S (p : Int) := by
  obtain ⟨a1, a2, a3, a4⟩ := enP_spec (f := f) hn hS
  intro ht
  have h1 := a4 p hlt ht
  have h2 := lenS_less (f := f) hi hq hp
  have h3 := hf i hi
  omega
end Rk
end Go.Cw
end

/- What is known: which seams were raked, and which of them leak; orders as lists of numbers. -/
section
set_option maxRecDepth 100000
set_option linter.unusedSimpArgs false
namespace Go.Cw
open Go

namespace Rk
variable {n : Nat}
/-- The sets that agree with what is known. -/
def agQ (n : Nat) (S : List Int) (q p : Int) : List Int := S.filter fun s => same n q s p
theorem mem_agQ {S : List Int} {q p s : Int} : s ∈ agQ n S q p ↔ s ∈ S ∧ same n q s p = true := by unfold agQ; simp [List.mem_filter]
theorem agQ_zero (S : List Int) (p : Int) : agQ n S 0 p = S := by
  unfold agQ
  refine List.filter_eq_self.2 fun s _ => same_iff.2 fun i _ hq => ?_
  rw [inS_zero] at hq; cases hq
/-- What is known behind a seam more. -/
def lk (p : Int) (i : Nat) (b : Bool) : Int := if b then p + 2 ^ i else p
theorem lk_rng {p : Int} (hp : 0 ≤ p ∧ p < 2 ^ n) {i : Nat} (hi : i < n) (h : inS p i = false) (b : Bool) : 0 ≤ lk p i b ∧ lk p i b < 2 ^ n := by
  cases b
  · exact hp
  · exact add_lt hp hi h
theorem inS_lk {p : Int} (hp : 0 ≤ p ∧ p < 2 ^ n) {i : Nat} (hi : i < n) (h : inS p i = false) (b : Bool) {j : Nat} (hj : j < n) : inS (lk p i b) j = if j = i then b else inS p j := by
  cases b
  · by_cases e : j = i
    · subst e; simpa [lk] using h
    · simp [lk, e]
  · show inS (p + 2 ^ i) j = _
    rw [inS_add hp hi h hj]
    by_cases e : j = i <;> simp [e]
theorem agQ_wl {S : List Int} {q p : Int} (hq : 0 ≤ q ∧ q < 2 ^ n) (hp : 0 ≤ p ∧ p < 2 ^ n) {i : Nat} (hi : i < n) (hiq : inS q i = false) (hip : inS p i = false) (b : Bool) :
    agQ n S (q + 2 ^ i) (lk p i b) = wl (agQ n S q p) i b := by
  unfold agQ wl
  rw [List.filter_filter]
  refine List.filter_congr fun s _ => ?_
  rw [Bool.eq_iff_iff, Bool.and_eq_true, same_iff, same_iff]
  constructor
  · intro h
    refine ⟨?_, fun j hj hjq => ?_⟩
    · have := h i hi (by rw [inS_add hq hi hiq hi]; simp)
      rw [inS_lk hp hi hip b hi] at this
      simpa using this
    · have hne : j ≠ i := fun e => by subst e; rw [hiq] at hjq; cases hjq
      have := h j hj (by rw [inS_add hq hi hiq hj, hjq]; simp)
      rw [inS_lk hp hi hip b hj, if_neg hne] at this
      exact this
  · rintro ⟨h1, h2⟩ j hj hjq
    rw [inS_lk hp hi hip b hj]
    by_cases e : j = i
    · subst e; simpa using h1
    · rw [if_neg e]
      rw [inS_add hq hi hiq hj] at hjq
      refine h2 j hj ?_
      simpa [e] using hjq
/-- What is known, as it can be. -/
structure Kn (n : Nat) (q p : Int) : Prop where
  qr : 0 ≤ q ∧ q < 2 ^ n
  pr : 0 ≤ p ∧ p < 2 ^ n
  sub : ∀ i, i < n → inS p i = true → inS q i = true
theorem Kn.zero : Kn n 0 0 := ⟨zero_rng n, zero_rng n, fun i _ h => by rw [inS_zero] at h; cases h⟩
theorem Kn.off {q p : Int} (h : Kn n q p) {i : Nat} (hi : i < n) (hq : inS q i = false) : inS p i = false := by
  cases hp : inS p i
  · rfl
  · rw [h.sub i hi hp] at hq; cases hq
theorem Kn.step {q p : Int} (h : Kn n q p) {i : Nat} (hi : i < n) (hq : inS q i = false) (b : Bool) : Kn n (q + 2 ^ i) (lk p i b) := by
  have hp := h.off hi hq
  refine ⟨add_lt h.qr hi hq, lk_rng h.pr hi hp b, fun j hj hj1 => ?_⟩
  rw [inS_lk h.pr hi hp b hj] at hj1
  rw [inS_add h.qr hi hq hj]
  by_cases e : j = i
  · simp [e]
  · rw [if_neg e] at hj1; rw [h.sub j hj hj1]; simp
/-- Does a set agree, by its bits? -/
theorem agrees_bits {q p s : Int} (h : Kn n q p) (hn : n ≤ 60) (hs : 0 ≤ s ∧ s < 2 ^ n) : decide (bitI .and .i64 s q = p) = same n q s p := by
  rw [Bool.eq_iff_iff, decide_eq_true_eq, same_iff]
  rw [show bitI .and .i64 s q = bits (fun i => inS s i && inS q i) n from by
    conv => lhs; rw [← bits_of hs.1 hs.2, ← bits_of h.qr.1 h.qr.2]
    exact bitsI_and _ _ hn]
  constructor
  · intro e i hi hq
    rw [← e, inS_bits _ hi, hq]; simp
  · intro ha
    have e2 : bits (inS p) n = p := bits_of h.pr.1 h.pr.2
    rw [← e2]
    refine bits_congr fun i hi => ?_
    cases hq : inS q i
    · rw [h.off hi hq]; simp
    · rw [ha i hi hq]; simp
/-- One bit more. -/
theorem or_bit {p : Int} (hp : 0 ≤ p ∧ p < 2 ^ n) (hn : n ≤ 60) {i : Nat} (hi : i < n) (h : inS p i = false) : bitI .or .i64 p (2 ^ i) = p + 2 ^ i := by
  conv => lhs; rw [← bits_of hp.1 hp.2, ← bits_one hi]
  rw [add_bits hp hi h]
  exact bitsI_or _ _ hn

/-- What tells the seam to rake next, by what is known. -/
def tellK (n : Nat) (f : Nat → Int) (any : Bool) (S : List Int) (q p : Int) : Nat × Int := if any = true ∧ p ≠ 0 then (0, 0) else planQ n f any (agQ n S q p) q
/-- Can one stop? -/
def doneK (n : Nat) (any : Bool) (S : List Int) (q p : Int) : Prop := agQ n S q p = [] ∨ (any = true ∧ p ≠ 0) ∨ (any = false ∧ (agQ n S q p).length = 1)
instance (any : Bool) (S : List Int) (q p : Int) : Decidable (doneK n any S q p) := inferInstanceAs (Decidable (_ ∨ _ ∨ _))
theorem tellK_done {f : Nat → Int} {any : Bool} {S : List Int} {q p : Int} (h : Kn n q p) (hd : doneK n any S q p) : tellK n f any S q p = (0, 0) := by
  unfold tellK
  rcases hd with hd | hd | ⟨h1, h2⟩
  · split
    · rfl
    · exact planQ_done h.qr (.inl hd)
  · rw [if_pos hd]
  · rw [if_neg (by simp [h1])]
    exact planQ_done h.qr (.inr ⟨h2, h1⟩)
theorem tellK_nonneg {f : Nat → Int} (hf : ∀ i, i < n → 0 ≤ f i) {any : Bool} {S : List Int} {q p : Int} : 0 ≤ (tellK n f any S q p).2 := by
  unfold tellK
  split
  · exact Int.le_refl _
  · exact planQ_nonneg hf _ _ _
theorem lk_pos {p : Int} (hp : 0 ≤ p) (i : Nat) : lk p i true ≠ 0 := by
  have : (0 : Int) < 2 ^ i := by have := pow_cast i; have := pow_pos' i; omega
  unfold lk; simp; omega
theorem tellK_step {f : Nat → Int} (hf : ∀ i, i < n → 0 ≤ f i) {any : Bool} {S : List Int} {q p : Int} (h : Kn n q p) (hd : ¬ doneK n any S q p) :
    tellK n f any S q p = (bestR (fun i => f i + max (tellK n f any S (q + 2 ^ i) (lk p i true)).2 (tellK n f any S (q + 2 ^ i) (lk p i false)).2) (un n q)).getD (0, 0) := by
  have h0 : ¬ (any = true ∧ p ≠ 0) := fun x => hd (.inr (.inl x))
  have hD : ¬ doneL any (agQ n S q p) := by
    rintro (x | ⟨x, y⟩)
    · exact hd (.inl x)
    · exact hd (.inr (.inr ⟨y, x⟩))
  conv => lhs; unfold tellK
  rw [if_neg h0, planQ_eq h.qr, if_neg hD]
  congr 1
  refine bestR_congr fun i hi => ?_
  obtain ⟨hi1, hi2⟩ := mem_un.1 hi
  have hip := h.off hi1 hi2
  unfold behind
  congr 1
  cases any with
  | true =>
    have hp0 : p = 0 := Classical.byContradiction fun x => h0 ⟨rfl, x⟩
    rw [if_pos rfl]
    have e1 : tellK n f true S (q + 2 ^ i) (lk p i true) = (0, 0) := by unfold tellK; rw [if_pos ⟨rfl, lk_pos h.pr.1 i⟩]
    have e2 : tellK n f true S (q + 2 ^ i) (lk p i false) = planQ n f true (wl (agQ n S q p) i false) (q + 2 ^ i) := by
      unfold tellK
      rw [if_neg (by simp [lk, hp0]), agQ_wl h.qr h.pr hi1 hi2 hip false]
    rw [e1, e2]
    have := planQ_nonneg hf (any := true) (un n (q + 2 ^ i)).length (wl (agQ n S q p) i false) (q + 2 ^ i)
    unfold planQ
    simp only
    omega
  | false =>
    have e : ∀ b, tellK n f false S (q + 2 ^ i) (lk p i b) = planQ n f false (wl (agQ n S q p) i b) (q + 2 ^ i) := fun b => by
      unfold tellK
      rw [if_neg (by simp), agQ_wl h.qr h.pr hi1 hi2 hip b]
    rw [e, e, if_neg (by simp)]
    exact Int.max_comm _ _
end Rk
end Go.Cw
end

/- Orders as lists of numbers; what an order costs, by what is known; seams that tell all, by what they tell. -/
section
set_option maxRecDepth 100000
set_option linter.unusedSimpArgs false
namespace Go.Cw
open Go

namespace Rk
variable {n : Nat}
/-- Is a list all seams, each once? -/
def IsOrd (n : Nat) (l : List Int) : Prop := l.length = n ∧ l.Nodup ∧ ∀ x ∈ l, 0 ≤ x ∧ x < n
instance (n : Nat) (l : List Int) : Decidable (IsOrd n l) := inferInstanceAs (Decidable (_ ∧ _ ∧ _))
def toN (l : List Int) : List Nat := l.map Int.toNat
def toI (l : List Nat) : List Int := l.map fun (i : Nat) => (i : Int)
theorem toN_toI (l : List Nat) : toN (toI l) = l := by
  unfold toN toI
  rw [List.map_map]
  conv => rhs; rw [← List.map_id l]
  exact List.map_congr_left fun i _ => by simp
theorem toI_toN {l : List Int} (h : ∀ x ∈ l, 0 ≤ x) : toI (toN l) = l := by
  unfold toN toI
  rw [List.map_map]
  conv => rhs; rw [← List.map_id l]
  exact List.map_congr_left fun x hx => by have := h x hx; simp; omega
theorem ord_iff {l : List Int} : IsOrd n l ↔ ∃ o ∈ ords n n [], l = toI o := by
  constructor
  · rintro ⟨h1, h2, h3⟩
    have e := toI_toN (l := l) fun x hx => (h3 x hx).1
    refine ⟨toN l, mem_all.2 ⟨by simpa [toN] using h1, ?_, fun i hi => ?_⟩, e.symm⟩
    · have : (toI (toN l)).Nodup := by rw [e]; exact h2
      exact List.Pairwise.of_map (R := fun a b => a ≠ b) (S := fun a b => a ≠ b) (fun (i : Nat) => (i : Int)) (fun a b hab e => hab (by rw [e])) this
    · obtain ⟨x, hx, rfl⟩ := List.mem_map.1 hi
      have := h3 x hx
      omega
  · rintro ⟨o, ho, rfl⟩
    obtain ⟨h1, h2, h3⟩ := mem_all.1 ho
    refine ⟨by simpa [toI] using h1, ?_, fun x hx => ?_⟩
    · unfold toI
      exact List.Pairwise.map _ (fun a b hab e => hab (by simpa using e)) h2
    · obtain ⟨i, hi, rfl⟩ := List.mem_map.1 hx
      have := h3 i hi
      omega
theorem sorted_range (n : Nat) : (toI (List.range n)).Pairwise (· ≤ ·) := by
  unfold toI
  exact List.Pairwise.map _ (fun a b hab => by omega) (List.pairwise_lt_range (n := n))
theorem ord_perm {l : List Int} (h : IsOrd n l) : l.Perm (toI (List.range n)) := by
  obtain ⟨h1, h2, h3⟩ := h
  refine (List.perm_ext_iff_of_nodup h2 ?_).2 fun x => ?_
  · unfold toI
    exact List.Pairwise.map _ (fun a b hab e => by omega) (List.pairwise_lt_range (n := n))
  · constructor
    · intro hx
      have := h3 x hx
      exact List.mem_map.2 ⟨x.toNat, List.mem_range.2 (by omega), by omega⟩
    · intro hx
      obtain ⟨i, hi, rfl⟩ := List.mem_map.1 hx
      have hi := List.mem_range.1 hi
      refine Classical.byContradiction fun hc => ?_
      have a := nodup_len h2 (m := toI ((List.range n).filter fun j => !decide (j = i))) fun y hy => by
        have := h3 y hy
        refine List.mem_map.2 ⟨y.toNat, ?_, by omega⟩
        rw [List.mem_filter]
        refine ⟨List.mem_range.2 (by omega), ?_⟩
        have : y.toNat ≠ i := fun e => hc (by rw [← e, Int.toNat_of_nonneg (by omega)]; exact hy)
        simpa using this
      have b := erase_len (l := List.range n) List.pairwise_lt_range (List.mem_range.2 hi)
      rw [List.length_range] at b
      unfold toI at a
      rw [List.length_map] at a
      omega
/-- By sorting. -/
theorem ord_sort {l : List Int} (hl : l.length = n) : IsOrd n l ↔ sortI l = toI (List.range n) := by
  constructor
  · intro h
    refine List.Perm.eq_of_pairwise (le := (· ≤ ·)) (fun a b _ _ h1 h2 => Int.le_antisymm h1 h2) (sortI_sorted l) (sorted_range n) ?_
    exact (sortI_perm l).trans (ord_perm h)
  · intro h
    have hp : l.Perm (toI (List.range n)) := h ▸ (sortI_perm l).symm
    have hn : (toI (List.range n)).Nodup := by
      unfold toI
      exact List.Pairwise.map _ (fun a b hab e => by omega) (List.pairwise_lt_range (n := n))
    refine ⟨hl, hp.nodup_iff.2 hn, fun x hx => ?_⟩
    obtain ⟨i, hi, rfl⟩ := List.mem_map.1 (hp.mem_iff.1 hx)
    have := List.mem_range.1 hi
    omega
theorem nodup_count {l : List Int} (hn : l.Nodup) {x : Int} (hx : x ∈ l) : l.count x = 1 := by
  induction l with
  | nil => simp at hx
  | cons a l ih =>
    rw [List.nodup_cons] at hn
    rw [List.count_cons]
    rcases List.mem_cons.1 hx with rfl | h
    · rw [List.count_eq_zero_of_not_mem hn.1]; simp
    · have : a ≠ x := fun e => hn.1 (e ▸ h)
      rw [ih hn.2 h]; simp [this]
theorem count_nodup {l : List Int} (h : ∀ x ∈ l, l.count x ≤ 1) : l.Nodup := by
  induction l with
  | nil => simp
  | cons a l ih =>
    rw [List.nodup_cons]
    refine ⟨fun ha => ?_, ih fun x hx => ?_⟩
    · have h1 := h a (by simp)
      rw [List.count_cons_self] at h1
      have := List.count_pos_iff.2 ha
      omega
    · have h1 := h x (by simp [hx])
      have h2 := List.count_le_count_cons (a := x) (b := a) (l := l)
      omega
/-- By counting. -/
theorem ord_count {l : List Int} (hl : l.length = n) : IsOrd n l ↔ ∀ i : Nat, i < n → l.count (i : Int) = 1 := by
  constructor
  · intro h i hi
    exact nodup_count h.2.1 ((ord_perm h).mem_iff.2 (List.mem_map.2 ⟨i, List.mem_range.2 hi, rfl⟩))
  · intro h
    have hm : ∀ i : Nat, i < n → (i : Int) ∈ l := fun i hi => List.count_pos_iff.1 (by rw [h i hi]; omega)
    have hr : (toI (List.range n)).Nodup := by
      unfold toI
      exact List.Pairwise.map _ (fun a b hab e => by omega) (List.pairwise_lt_range (n := n))
    have hin : ∀ x ∈ l, 0 ≤ x ∧ x < n := fun x hx => by
      refine Classical.byContradiction fun hc => ?_
      have a := nodup_len hr (m := l.erase x) fun y hy => by
        obtain ⟨i, hi, rfl⟩ := List.mem_map.1 hy
        have hi := List.mem_range.1 hi
        refine (List.mem_erase_of_ne fun e => hc ?_).2 (hm i hi)
        omega
      rw [List.length_erase_of_mem hx] at a
      have := List.length_pos_of_mem hx
      simp only [toI, List.length_map, List.length_range] at a
      omega
    refine ⟨hl, count_nodup fun x hx => ?_, hin⟩
    have h1 := hin x hx
    have h2 := h x.toNat (by omega)
    rw [Int.toNat_of_nonneg h1.1] at h2
    omega

/-- What two sets tell is the same just if they agree. -/
theorem and_same {q s t : Int} (hn : n ≤ 60) (hq : 0 ≤ q ∧ q < 2 ^ n) (hs : 0 ≤ s ∧ s < 2 ^ n) (ht : 0 ≤ t ∧ t < 2 ^ n) : bitI .and .i64 s q = bitI .and .i64 t q ↔ same n q s t = true := by
  have e : ∀ s : Int, 0 ≤ s ∧ s < 2 ^ n → bitI .and .i64 s q = bits (fun i => inS s i && inS q i) n := fun s hs => by
    conv => lhs; rw [← bits_of hs.1 hs.2, ← bits_of hq.1 hq.2]
    exact bitsI_and _ _ hn
  rw [e s hs, e t ht, same_iff]
  constructor
  · intro h i hi hiq
    have h1 := inS_bits (fun i => inS s i && inS q i) hi
    rw [h, inS_bits _ hi, hiq] at h1
    simpa using h1.symm
  · intro h
    refine bits_congr fun i hi => ?_
    cases hiq : inS q i
    · simp
    · simp [h i hi hiq]
theorem costL_step {f : Nat → Int} {S : List Int} {q p : Int} (h : Kn n q p) {i : Nat} (hi : i < n) (hq : inS q i = false) (o : List Nat) (s : Int) :
    costL f (i :: o) (agQ n S q p) s = if (agQ n S q p).length ≤ 1 then 0 else f i + costL f o (agQ n S (q + 2 ^ i) (lk p i (inS s i))) s := by
  simp only [costL]
  rw [agQ_wl h.qr h.pr hi hq (h.off hi hq)]
/-- The first order that is best, once the others are gone through. -/
theorem betO_def (g : List Nat → Int) (b : Option (List Nat × Int)) (o : List Nat) : betO g b o = match b with | none => some (o, g o) | some c => if g o < c.2 then some (o, g o) else some c := by
  cases b <;> rfl
/-- What an order costs at most. -/
theorem cost_bound {f : Nat → Int} {M : Int} (hM : 0 ≤ M) : ∀ (o : List Nat) (_ : ∀ i ∈ o, 0 ≤ f i ∧ f i ≤ M) (l : List Int) (s : Int), costL f o l s ≤ o.length * M
  | [], _, _, _ => by simp [costL]
  | i :: o, h, l, s => by
    have ih := cost_bound hM o (fun j hj => h j (by simp [hj])) (wl l i (inS s i)) s
    have h1 := h i (by simp)
    have h2 : (0 : Int) ≤ o.length * M := Int.mul_nonneg (by omega) hM
    have e : ((i :: o).length : Int) * M = o.length * M + M := by rw [List.length_cons, Int.natCast_add, Int.add_mul]; simp
    rw [e]
    simp only [costL]
    split <;> omega
theorem plan_bound {f : Nat → Int} {M : Int} (hf : ∀ i, i < n → 0 ≤ f i ∧ f i ≤ M) (hM : 0 ≤ M) {any : Bool} : ∀ (k : Nat) (l : List Int) (q : Int), (plan n f any k l q).2 ≤ k * M
  | 0, _, _ => by simp [plan]
  | k + 1, l, q => by
    have e : ((k + 1 : Nat) : Int) * M = k * M + M := by rw [Int.natCast_add, Int.add_mul]; simp
    have h2 : (0 : Int) ≤ k * M := Int.mul_nonneg (by omega) hM
    rw [e]
    simp only [plan]
    split
    · show (0 : Int) ≤ _; omega
    · cases hb : bestR (behind any f (fun l q => (plan n f any k l q).2) l q) (un n q) with
      | none => show (0 : Int) ≤ _; omega
      | some b =>
        obtain ⟨h1, h3, _⟩ := bestR_spec (un_lt n q) hb
        have h4 := hf b.1 (mem_un.1 h1).1
        have h5 := plan_bound hf hM (any := any) k (wl l b.1 false) (q + 2 ^ b.1)
        have h6 := plan_bound hf hM (any := any) k (wl l b.1 true) (q + 2 ^ b.1)
        show b.2 ≤ _
        rw [h3]
        unfold behind
        simp only
        split <;> omega
theorem un_len_le (n : Nat) (q : Int) : (un n q).length ≤ n := by
  unfold un
  have := List.length_filter_le (fun i => !inS q i) (List.range n)
  rw [List.length_range] at this
  exact this
theorem planQ_bound {f : Nat → Int} {M : Int} (hf : ∀ i, i < n → 0 ≤ f i ∧ f i ≤ M) (hM : 0 ≤ M) {any : Bool} (l : List Int) (q : Int) : (planQ n f any l q).2 ≤ n * M := by
  have h1 := plan_bound hf hM (any := any) (un n q).length l q
  have h2 := un_len_le n q
  have h3 : ((un n q).length : Int) * M ≤ n * M := Int.mul_le_mul_of_nonneg_right (by omega) hM
  unfold planQ
  omega
theorem lenS_bound {f : Nat → Int} {M : Int} : ∀ {n : Nat}, (∀ i, i < n → 0 ≤ f i ∧ f i ≤ M) → 0 ≤ M → ∀ q, lenS f n q ≤ n * M
  | 0, _, _, _ => by simp [lenS]
  | n + 1, hf, hM, q => by
    have h1 := lenS_bound (n := n) (fun i hi => hf i (by omega)) hM q
    have h2 := hf n (by omega)
    have e : ((n + 1 : Nat) : Int) * M = n * M + M := by rw [Int.natCast_add, Int.add_mul]; simp
    rw [e]
    simp only [lenS]
    split <;> omega
end Rk
end Go.Cw
end

/- What was found, and what is known by it. -/
section
set_option maxRecDepth 100000
set_option linter.unusedSimpArgs false
namespace Go.Cw
open Go

namespace Rk
variable {n : Nat}
/-- Are findings of seams, each once? -/
structure Fnd (n : Nat) (l : List (Int × Bool)) : Prop where
  rng : ∀ x ∈ l, 0 ≤ x.1 ∧ x.1 < n
  once : (l.map Prod.fst).Nodup
theorem Fnd.nil : Fnd n [] := ⟨by simp, by simp⟩
theorem Fnd.push {l : List (Int × Bool)} (h : Fnd n l) {x : Int × Bool} (h1 : 0 ≤ x.1 ∧ x.1 < n) (h2 : x.1 ∉ l.map Prod.fst) : Fnd n (l ++ [x]) := by
  refine ⟨fun y hy => ?_, ?_⟩
  · rcases List.mem_append.1 hy with hy | hy
    · exact h.rng y hy
    · simp at hy; subst hy; exact h1
  · rw [List.map_append, List.nodup_append]
    refine ⟨h.once, by simp, fun a ha b hb e => ?_⟩
    simp at hb; subst hb; subst e; exact h2 ha
theorem Fnd.init {l : List (Int × Bool)} {x : Int × Bool} (h : Fnd n (l ++ [x])) : Fnd n l ∧ (0 ≤ x.1 ∧ x.1 < n) ∧ x.1 ∉ l.map Prod.fst := by
  refine ⟨⟨fun y hy => h.rng y (by simp [hy]), ?_⟩, h.rng x (by simp), fun hx => ?_⟩
  · have := h.once; rw [List.map_append, List.nodup_append] at this; exact this.1
  · have := h.once; rw [List.map_append, List.nodup_append] at this
    exact this.2.2 _ hx x.1 (by simp) rfl
theorem Fnd.perm {l m : List (Int × Bool)} (h : Fnd n l) (hp : l.Perm m) : Fnd n m :=
  ⟨fun x hx => h.rng x (hp.mem_iff.2 hx), (hp.map Prod.fst).nodup_iff.1 h.once⟩
/-- The seams that were raked, and those that leak. -/
def fq (l : List (Int × Bool)) : Int := l.foldl (fun q x => q + 2 ^ x.1.toNat) 0
def fp (l : List (Int × Bool)) : Int := l.foldl (fun p x => lk p x.1.toNat x.2) 0
theorem fq_push (l : List (Int × Bool)) (x : Int × Bool) : fq (l ++ [x]) = fq l + 2 ^ x.1.toNat := by simp [fq]
theorem fp_push (l : List (Int × Bool)) (x : Int × Bool) : fp (l ++ [x]) = lk (fp l) x.1.toNat x.2 := by simp [fp]
/-- Does a set agree with all that was found? -/
def agB (l : List (Int × Bool)) (s : Int) : Bool := l.all fun x => inS s x.1.toNat == x.2
theorem agB_iff {l : List (Int × Bool)} {s : Int} : agB l s = true ↔ ∀ x ∈ l, inS s x.1.toNat = x.2 := by
  unfold agB; rw [List.all_eq_true]
  exact ⟨fun h x hx => by simpa using h x hx, fun h x hx => by simpa using h x hx⟩
theorem fnd_kn {l : List (Int × Bool)} (h : Fnd n l) : Kn n (fq l) (fp l) ∧ (∀ i : Nat, i < n → inS (fq l) i = decide ((i : Int) ∈ l.map Prod.fst)) ∧ ∀ s : Int, same n (fq l) s (fp l) = agB l s := by
  induction l using push_ind with
  | h0 =>
    refine ⟨Kn.zero, fun i _ => by simp [fq, inS_zero], fun s => ?_⟩
    rw [Bool.eq_iff_iff, same_iff, agB_iff]
    exact ⟨fun _ x hx => by simp at hx, fun _ i _ hq => by simp [fq, inS_zero] at hq⟩
  | h1 l x ih =>
    obtain ⟨h1, h2, h3⟩ := h.init
    obtain ⟨hk, hm, ha⟩ := ih h1
    have hx : x.1.toNat < n := by omega
    have hq : inS (fq l) x.1.toNat = false := by
      rw [hm _ hx, Int.toNat_of_nonneg h2.1]
      exact decide_eq_false h3
    have hp := hk.off hx hq
    rw [fq_push, fp_push]
    refine ⟨hk.step hx hq x.2, fun i hi => ?_, fun s => ?_⟩
    · rw [inS_add hk.qr hx hq hi, hm i hi, Bool.eq_iff_iff]
      simp only [Bool.or_eq_true, decide_eq_true_eq, List.map_append, List.mem_append, List.map_cons, List.map_nil, List.mem_singleton]
      constructor
      · rintro (h | h)
        · exact .inl h
        · right; omega
      · rintro (h | h)
        · exact .inl h
        · right; omega
    · have e : ∀ s, same n (fq l + 2 ^ x.1.toNat) s (lk (fp l) x.1.toNat x.2) = ((inS s x.1.toNat == x.2) && same n (fq l) s (fp l)) := fun s => by
        have e1 := agQ_wl (S := [s]) hk.qr hk.pr hx hq hp x.2
        have e2 : s ∈ agQ n [s] (fq l + 2 ^ x.1.toNat) (lk (fp l) x.1.toNat x.2) ↔ s ∈ wl (agQ n [s] (fq l) (fp l)) x.1.toNat x.2 := by rw [e1]
        rw [mem_agQ, mem_wl, mem_agQ] at e2
        rw [Bool.eq_iff_iff, Bool.and_eq_true, beq_iff_eq]
        simpa [and_comm] using e2
      rw [e, ha, Bool.and_comm]
      unfold agB
      rw [List.all_append]
      simp
/-- The sets that agree with what was found. -/
def agF (S : List Int) (l : List (Int × Bool)) : List Int := S.filter (agB l)
theorem agF_eq {S : List Int} {l : List (Int × Bool)} (h : Fnd n l) : agF S l = agQ n S (fq l) (fp l) := by
  unfold agF agQ
  exact List.filter_congr fun s _ => ((fnd_kn h).2.2 s).symm
theorem mem_agF {S : List Int} {l : List (Int × Bool)} {s : Int} : s ∈ agF S l ↔ s ∈ S ∧ ∀ x ∈ l, inS s x.1.toNat = x.2 := by
  unfold agF; rw [List.mem_filter, agB_iff]
theorem agF_sub (S : List Int) (l : List (Int × Bool)) : (agF S l).Sublist S := List.filter_sublist
theorem agF_push (S : List Int) (l : List (Int × Bool)) (x : Int × Bool) : agF S (l ++ [x]) = wl (agF S l) x.1.toNat x.2 := by
  unfold agF wl
  rw [List.filter_filter]
  refine List.filter_congr fun s _ => ?_
  unfold agB
  rw [List.all_append, Bool.and_comm]
  simp
/-- The order of what was found makes no difference. -/
theorem agF_perm (S : List Int) {l m : List (Int × Bool)} (hp : l.Perm m) : agF S l = agF S m := by
  unfold agF
  refine List.filter_congr fun s _ => ?_
  rw [Bool.eq_iff_iff, agB_iff, agB_iff]
  exact ⟨fun h x hx => h x (hp.mem_iff.2 hx), fun h x hx => h x (hp.mem_iff.1 hx)⟩
theorem fq_perm {l m : List (Int × Bool)} (h : Fnd n l) (hp : l.Perm m) : fq l = fq m := by
  obtain ⟨h1, h2, _⟩ := fnd_kn h
  obtain ⟨h3, h4, _⟩ := fnd_kn (h.perm hp)
  refine all_same (n := n) h1.qr h3.qr fun i hi => ?_
  rw [h2 i hi, h4 i hi]
  exact decide_eq_decide.2 ((hp.map Prod.fst).mem_iff)
theorem fnd_some {S : List Int} (hS : ∀ s ∈ S, 0 ≤ s ∧ s < 2 ^ n) (hl : S.Pairwise (· < ·)) {l : List (Int × Bool)} (h : Fnd n l) : Some' n (agF S l) (fq l) := by
  obtain ⟨h1, h2, _⟩ := fnd_kn h
  refine ⟨fun s hs => hS s (mem_agF.1 hs).1, hl.sublist (agF_sub S l), fun s hs t ht i hi hq => ?_, h1.qr⟩
  rw [h2 i hi, decide_eq_true_eq] at hq
  obtain ⟨x, hx, hxi⟩ := List.mem_map.1 hq
  have e : x.1.toNat = i := by omega
  have a := (mem_agF.1 hs).2 x hx
  have b := (mem_agF.1 ht).2 x hx
  rw [e] at a b
  rw [a, b]
/-- What is found if the seams of a set are raked, and a set leaks. -/
def fnds (n : Nat) (q t : Int) : List (Int × Bool) := (els n q).map fun (i : Nat) => ((i : Int), inS t i)
theorem fnds_ok (n : Nat) (q t : Int) : Fnd n (fnds n q t) := by
  refine ⟨fun x hx => ?_, ?_⟩
  · obtain ⟨i, hi, rfl⟩ := List.mem_map.1 hx
    have := (mem_els.1 hi).1
    exact ⟨by simp, by simp; omega⟩
  · unfold fnds
    rw [List.map_map]
    exact List.Pairwise.map (R := fun (a b : Nat) => a ≠ b) (S := fun (a b : Int) => a ≠ b) _ (fun a b hab (e : (a : Int) = (b : Int)) => hab (by omega)) (List.nodup_range.sublist List.filter_sublist)
theorem mem_fnds_fst {q t : Int} {i : Nat} : (((i : Nat) : Int) ∈ (fnds n q t).map Prod.fst) ↔ i < n ∧ inS q i = true := by
  unfold fnds
  rw [List.map_map, List.mem_map]
  constructor
  · rintro ⟨j, hj, e⟩
    have : j = i := by simpa using e
    subst this
    exact mem_els.1 hj
  · intro h
    exact ⟨i, mem_els.2 h, rfl⟩
theorem agF_fnds {S : List Int} {q t s : Int} : s ∈ agF S (fnds n q t) ↔ s ∈ S ∧ same n q s t = true := by
  rw [mem_agF, same_iff]
  refine and_congr_right fun _ => ⟨fun h i hi hq => ?_, fun h x hx => ?_⟩
  · have := h ((i : Int), inS t i) (List.mem_map.2 ⟨i, mem_els.2 ⟨hi, hq⟩, rfl⟩)
    simpa using this
  · obtain ⟨i, hi, rfl⟩ := List.mem_map.1 hx
    obtain ⟨h1, h2⟩ := mem_els.1 hi
    simpa using h i h1 h2
theorem fq_fnds {q t : Int} (hq : 0 ≤ q ∧ q < 2 ^ n) : fq (fnds n q t) = q := by
  obtain ⟨h1, h2, _⟩ := fnd_kn (fnds_ok n q t)
  refine all_same (n := n) h1.qr hq fun i hi => ?_
  rw [h2 i hi, Bool.eq_iff_iff, decide_eq_true_eq, mem_fnds_fst]
  exact ⟨fun h => h.2, fun h => ⟨hi, h⟩⟩
theorem fnds_succ (n : Nat) (q t : Int) : fnds (n + 1) q t = fnds n q t ++ if inS q n then [((n : Int), inS t n)] else [] := by
  unfold fnds
  rw [els_succ, List.map_append]
  cases inS q n <;> simp
/-- All that would be found tells all just if the seams do. -/
theorem tells_fnds {S : List Int} (hn : S.Nodup) {q : Int} : tellsP n S q ↔ ∀ t ∈ S, (agF S (fnds n q t)).length = 1 := by
  rw [tells_iff hn]
  constructor
  · intro h t ht
    have h1 : t ∈ agF S (fnds n q t) := agF_fnds.2 ⟨ht, same_refl _ _⟩
    have h2 := short_of_eq (hn.sublist (agF_sub S (fnds n q t))) fun a ha b hb => by
      obtain ⟨a1, a2⟩ := agF_fnds.1 ha
      obtain ⟨b1, b2⟩ := agF_fnds.1 hb
      rw [h a a1 t ht a2, h b b1 t ht b2]
    have := List.length_pos_of_mem h1
    omega
  · intro h s hs t ht hst
    have h1 : s ∈ agF S (fnds n q t) := agF_fnds.2 ⟨hs, hst⟩
    have h2 : t ∈ agF S (fnds n q t) := agF_fnds.2 ⟨ht, same_refl _ _⟩
    obtain ⟨a, ha⟩ := List.length_eq_one_iff.1 (h t ht)
    rw [ha] at h1 h2
    simp at h1 h2
    rw [h1, h2]
end Rk
end Go.Cw
end

/- Raking by what is told next, round by round; what is left behind one seam more. -/
section
set_option maxRecDepth 100000
set_option linter.unusedSimpArgs false
namespace Go.Cw
open Go

namespace Rk
variable {n : Nat}
/-- What holds while a leak is raked. -/
structure Fol (n : Nat) (f : Nat → Int) (S : List Int) (t : Int) (l : List (Int × Bool)) (left : Int) : Prop where
  fnd : Fnd n l
  tru : ∀ x ∈ l, x.2 = inS t x.1.toNat
  le : (planQ n f false (agF S l) (fq l)).2 ≤ left
  sum : lenS f n (fq l) + left ≤ (planQ n f false S 0).2
theorem Fol.start {f : Nat → Int} {S : List Int} {t : Int} : Fol n f S t [] (planQ n f false S 0).2 := by
  have e : agF S [] = S := by unfold agF agB; simp
  refine ⟨Fnd.nil, by simp, ?_, ?_⟩
  · rw [e]; exact Int.le_refl _
  · show lenS f n 0 + _ ≤ _
    rw [lenS_zero]; omega
section
variable {f : Nat → Int} {S : List Int} {t : Int} {l : List (Int × Bool)} {left : Int}
theorem Fol.mem (h : Fol n f S t l left) (ht : t ∈ S) : t ∈ agF S l := mem_agF.2 ⟨ht, fun x hx => (h.tru x hx).symm⟩
theorem Fol.two (h : Fol n f S t l left) (ht : t ∈ S) (h1 : (agF S l).length ≠ 1) : 2 ≤ (agF S l).length := by
  have := List.length_pos_of_mem (h.mem ht)
  omega
theorem Fol.one (h : Fol n f S t l left) (ht : t ∈ S) (h1 : (agF S l).length = 1) : agF S l = [t] := by
  obtain ⟨a, ha⟩ := List.length_eq_one_iff.1 h1
  have := h.mem ht
  rw [ha] at this ⊢
  simp at this
  rw [this]
theorem Fol.step (hf : ∀ i, i < n → 1 ≤ f i) (hS : ∀ s ∈ S, 0 ≤ s ∧ s < 2 ^ n) (hl : S.Pairwise (· < ·)) (h : Fol n f S t l left) (ht : t ∈ S) (h1 : (agF S l).length ≠ 1) {i : Nat} (hi : i = (planQ n f false (agF S l) (fq l)).1) :
    i < n ∧ inS (fq l) i = false ∧ f i ≤ (planQ n f false (agF S l) (fq l)).2 ∧ fq (l ++ [((i : Int), inS t i)]) = fq l + 2 ^ i ∧ Fol n f S t (l ++ [((i : Int), inS t i)]) ((planQ n f false (agF S l) (fq l)).2 - f i) := by
  have hs := fnd_some hS hl h.fnd
  obtain ⟨h2, h3⟩ := follow (f := f) hs (h.two ht h1) hi (inS t i)
  obtain ⟨h4, h5⟩ := mem_un.1 h2
  have e1 : fq (l ++ [((i : Int), inS t i)]) = fq l + 2 ^ i := by rw [fq_push]; simp
  have e2 : agF S (l ++ [((i : Int), inS t i)]) = wl (agF S l) i (inS t i) := by rw [agF_push]; simp
  have hnn := planQ_nonneg (n := n) (f := f) (fun i hi => by have := hf i hi; omega) (any := false) (un n (fq l + 2 ^ i)).length (wl (agF S l) i (inS t i)) (fq l + 2 ^ i)
  have hnn' : 0 ≤ (planQ n f false (wl (agF S l) i (inS t i)) (fq l + 2 ^ i)).2 := hnn
  refine ⟨h4, h5, by omega, e1, ?_⟩
  refine ⟨h.fnd.push ⟨by simp, by simp; omega⟩ ?_, fun x hx => ?_, ?_, ?_⟩
  · have := (fnd_kn h.fnd).2.1 i h4
    rw [h5] at this
    simpa using this.symm
  · rcases List.mem_append.1 hx with hx | hx
    · exact h.tru x hx
    · simp at hx; subst hx; simp
  · rw [e1, e2]; exact h3
  · rw [e1, lenS_add hs.q h2]
    have := h.sum
    have := h.le
    omega
/-- If as many seams were raked as there are all is known. -/
theorem Fol.full (hS : ∀ s ∈ S, 0 ≤ s ∧ s < 2 ^ n) (hl : S.Pairwise (· < ·)) (h : Fol n f S t l left) (ht : t ∈ S) (hn : n ≤ l.length) : (agF S l).length = 1 := by
  have hs := fnd_some hS hl h.fnd
  have hu : un n (fq l) = [] := by
    refine Classical.byContradiction fun hc => ?_
    obtain ⟨i, hi⟩ := List.exists_mem_of_ne_nil _ hc
    obtain ⟨h1, h2⟩ := mem_un.1 hi
    have hnot : ((i : Nat) : Int) ∉ l.map Prod.fst := by
      have := (fnd_kn h.fnd).2.1 i h1
      rw [h2] at this
      simpa using this.symm
    have a := nodup_len h.fnd.once (m := toI ((List.range n).filter fun j => !decide (j = i))) fun y hy => by
      obtain ⟨x, hx, rfl⟩ := List.mem_map.1 hy
      have := h.fnd.rng x hx
      refine List.mem_map.2 ⟨x.1.toNat, ?_, by omega⟩
      rw [List.mem_filter]
      refine ⟨List.mem_range.2 (by omega), ?_⟩
      have : x.1.toNat ≠ i := fun e => hnot (by rw [← e, Int.toNat_of_nonneg (by omega)]; exact hy)
      simpa using this
    have b := erase_len (l := List.range n) List.pairwise_lt_range (List.mem_range.2 h1)
    rw [List.length_range] at b
    unfold toI at a
    rw [List.length_map, List.length_map] at a
    omega
  have := one_left hs hu
  have := List.length_pos_of_mem (h.mem ht)
  omega
theorem Fol.raked_le (hf : ∀ i, i < n → 1 ≤ f i) (h : Fol n f S t l left) : lenS f n (fq l) ≤ (planQ n f false S 0).2 := by
  have hnn : 0 ≤ (planQ n f false (agF S l) (fq l)).2 := planQ_nonneg (n := n) (f := f) (fun i hi => by have := hf i hi; omega) (any := false) (un n (fq l)).length (agF S l) (fq l)
  have := h.sum
  have := h.le
  omega
end
/-- What is left at worst behind one seam more. -/
def leftB (n : Nat) (f : Nat → Int) (S : List Int) (l : List (Int × Bool)) (i : Nat) (b : Bool) : Int := if 2 ≤ (agF S (l ++ [((i : Int), b)])).length then (planQ n f false (agF S (l ++ [((i : Int), b)])) (fq (l ++ [((i : Int), b)]))).2 else 0
theorem after_eq {f : Nat → Int} (hf : ∀ i, i < n → 0 ≤ f i) {S : List Int} {l : List (Int × Bool)} (hS : ∀ s ∈ S, 0 ≤ s ∧ s < 2 ^ n) (hl : S.Pairwise (· < ·)) (h : Fnd n l) {i : Nat} (hi : i ∈ un n (fq l)) :
    f i + max (max 0 (leftB n f S l i true)) (leftB n f S l i false) = behind false f (fun l q => (planQ n f false l q).2) (agF S l) (fq l) i := by
  have hs := fnd_some hS hl h
  obtain ⟨h1, h2⟩ := mem_un.1 hi
  have hq := add_lt hs.q h1 h2
  have e : ∀ b, leftB n f S l i b = (planQ n f false (wl (agF S l) i b) (fq l + 2 ^ i)).2 := fun b => by
    unfold leftB
    have e1 : agF S (l ++ [((i : Int), b)]) = wl (agF S l) i b := by rw [agF_push]; simp
    have e2 : fq (l ++ [((i : Int), b)]) = fq l + 2 ^ i := by rw [fq_push]; simp
    rw [e1, e2]
    split
    · rfl
    · rw [plan_short hq (by omega)]
  have hnn : 0 ≤ (planQ n f false (wl (agF S l) i true) (fq l + 2 ^ i)).2 := planQ_nonneg hf (any := false) (un n (fq l + 2 ^ i)).length _ _
  rw [e, e, behind_eq]
  omega
end Rk
end Go.Cw
end
