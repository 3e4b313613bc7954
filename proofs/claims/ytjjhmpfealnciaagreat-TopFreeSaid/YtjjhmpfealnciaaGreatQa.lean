/-
  Raking, and ships that come back, in plain words.
-/
import Derived.Test.YtjjhmpfealnciaaGreatLa
import Derived.Test.YtjjhmpfealnciaaGreatAf
set_option linter.unusedVariables false
set_option linter.unusedSimpArgs false
set_option linter.unusedSectionVars false

/- The best way to rake, in plain words: sets of seams are gone through by what is found. -/
section
set_option maxRecDepth 100000
set_option linter.unusedSimpArgs false
namespace Go.Cw
open Go

theorem bits_add {p q : Nat → Bool} : ∀ {n : Nat}, (∀ i, i < n → ¬ (p i = true ∧ q i = true)) → bits (fun i => p i || q i) n = bits p n + bits q n
  | 0, _ => rfl
  | n + 1, h => by
    have ih := bits_add (p := p) (q := q) (n := n) fun i hi => h i (by omega)
    have hn := h n (by omega)
    simp only [bits, ih]
    by_cases hp : p n = true <;> by_cases hq : q n = true
    · exact absurd ⟨hp, hq⟩ hn
    · simp [hp, hq]; omega
    · simp [hp, hq]; omega
    · simp [hp, hq]
theorem bits_one {i n : Nat} (hi : i < n) : bits (fun j => decide (j = i)) n = 2 ^ i := by
  induction n with
  | zero => omega
  | succ n ih =>
    simp only [bits]
    by_cases h : i = n
    · subst h
      have : bits (fun j => decide (j = i)) i = 0 := bits_zero.2 fun j hj => by simp; omega
      rw [this]; simp
    · rw [ih (by omega)]
      have : ¬ n = i := fun e => h e.symm
      simp [this]

namespace Rk
theorem add_bits {n : Nat} {q : Int} (hq : 0 ≤ q ∧ q < 2 ^ n) {i : Nat} (hi : i < n) (h : inS q i = false) : q + 2 ^ i = bits (fun j => inS q j || decide (j = i)) n := by
  rw [bits_add fun j hj ⟨h1, h2⟩ => by
    simp only [decide_eq_true_eq] at h2
    subst h2; rw [h] at h1; cases h1]
  rw [bits_one hi]
  congr 1
  exact (bits_of hq.1 hq.2).symm
theorem add_lt {n : Nat} {q : Int} (hq : 0 ≤ q ∧ q < 2 ^ n) {i : Nat} (hi : i < n) (h : inS q i = false) : 0 ≤ q + 2 ^ i ∧ q + 2 ^ i < 2 ^ n := by
  rw [add_bits hq hi h]; exact bits_lt _ _
theorem inS_add {n : Nat} {q : Int} (hq : 0 ≤ q ∧ q < 2 ^ n) {i : Nat} (hi : i < n) (h : inS q i = false) {j : Nat} (hj : j < n) : inS (q + 2 ^ i) j = (inS q j || decide (j = i)) := by
  rw [add_bits hq hi h, inS_bits _ hj]

def wl (l : List Int) (i : Nat) (b : Bool) : List Int := l.filter fun s => inS s i == b
theorem mem_wl {l : List Int} {i : Nat} {b : Bool} {s : Int} : s ∈ wl l i b ↔ s ∈ l ∧ inS s i = b := by
  unfold wl; simp [List.mem_filter]

def betR (g : Nat → Int) (b : Option (Nat × Int)) (i : Nat) : Option (Nat × Int) :=
  match b with
  | none => some (i, g i)
  | some c => if g i < c.2 then some (i, g i) else some c
def bestR (g : Nat → Int) (l : List Nat) : Option (Nat × Int) := l.foldl (betR g) none
theorem bestR_push (g : Nat → Int) (l : List Nat) (i : Nat) : bestR g (l ++ [i]) = betR g (bestR g l) i := by simp [bestR]
theorem push_ind {α : Type} {p : List α → Prop} (h0 : p []) (h1 : ∀ l x, p l → p (l ++ [x])) (l : List α) : p l := by
  have : ∀ l : List α, p l.reverse := fun l => by
    induction l with
    | nil => exact h0
    | cons x l ih => rw [List.reverse_cons]; exact h1 _ _ ih
  have h := this l.reverse
  rwa [List.reverse_reverse] at h
theorem bestR_congr {g g' : Nat → Int} {l : List Nat} (h : ∀ i ∈ l, g i = g' i) : bestR g l = bestR g' l := by
  induction l using push_ind with
  | h0 => rfl
  | h1 l x ih =>
    rw [bestR_push, bestR_push, ih fun i hi => h i (by simp [hi])]
    unfold betR
    rw [h x (by simp)]
theorem bestR_some {g : Nat → Int} {l : List Nat} (h : l ≠ []) : ∃ b, bestR g l = some b := by
  induction l using push_ind with
  | h0 => exact absurd rfl h
  | h1 l x _ =>
    rw [bestR_push]
    unfold betR
    cases bestR g l with
    | none => exact ⟨_, rfl⟩
    | some c => simp only; split <;> exact ⟨_, rfl⟩
theorem bestR_spec {g : Nat → Int} {l : List Nat} (hs : l.Pairwise (· < ·)) {b : Nat × Int} (hb : bestR g l = some b) : b.1 ∈ l ∧ b.2 = g b.1 ∧ ∀ i ∈ l, b.2 < g i ∨ (b.2 = g i ∧ b.1 ≤ i) := by
  induction l using push_ind generalizing b with
  | h0 => simp [bestR] at hb
  | h1 l x ih =>
    rw [List.pairwise_append] at hs
    have hlx : ∀ i ∈ l, i < x := fun i hi => hs.2.2 i hi x (by simp)
    rw [bestR_push] at hb
    cases hc : bestR g l with
    | none =>
      have hl : l = [] := by
        cases l with
        | nil => rfl
        | cons a m => obtain ⟨c, h⟩ := bestR_some (g := g) (l := a :: m) (by simp); rw [hc] at h; cases h
      subst hl
      rw [hc] at hb
      simp only [betR, Option.some.injEq] at hb
      subst hb
      exact ⟨by simp, rfl, fun i hi => by simp at hi; subst hi; exact .inr ⟨rfl, Nat.le_refl _⟩⟩
    | some c =>
      obtain ⟨h1, h2, h3⟩ := ih hs.1 hc
      rw [hc] at hb
      simp only [betR] at hb
      split at hb
      · rename_i hlt
        simp only [Option.some.injEq] at hb
        subst hb
        refine ⟨by simp, rfl, fun i hi => ?_⟩
        rcases List.mem_append.1 hi with hi | hi
        · have := h3 i hi; simp only; omega
        · simp at hi; subst hi; exact .inr ⟨rfl, Nat.le_refl _⟩
      · rename_i hlt
        simp only [Option.some.injEq] at hb
        subst hb
        refine ⟨by simp [h1], h2, fun i hi => ?_⟩
        rcases List.mem_append.1 hi with hi | hi
        · exact h3 i hi
        · simp at hi; subst hi
          have := hlx _ h1
          by_cases he : c.2 = g i
          · exact .inr ⟨he, by omega⟩
          · exact .inl (by omega)

def un (n : Nat) (q : Int) : List Nat := (List.range n).filter fun i => !inS q i
theorem mem_un {n : Nat} {q : Int} {i : Nat} : i ∈ un n q ↔ i < n ∧ inS q i = false := by
  unfold un; simp [List.mem_filter]
theorem un_lt (n : Nat) (q : Int) : (un n q).Pairwise (· < ·) := List.Pairwise.filter _ List.pairwise_lt_range
theorem un_add {n : Nat} {q : Int} (hq : 0 ≤ q ∧ q < 2 ^ n) {i : Nat} (hi : i ∈ un n q) : un n (q + 2 ^ i) = (un n q).filter fun j => !decide (j = i) := by
  obtain ⟨h1, h2⟩ := mem_un.1 hi
  unfold un
  rw [List.filter_filter]
  refine List.filter_congr fun j hj => ?_
  rw [inS_add hq h1 h2 (List.mem_range.1 hj), Bool.not_or, Bool.and_comm]
theorem erase_len {l : List Nat} (hn : l.Pairwise (· < ·)) {i : Nat} (hi : i ∈ l) : (l.filter fun j => !decide (j = i)).length + 1 = l.length := by
  induction l with
  | nil => simp at hi
  | cons a l ih =>
    rw [List.pairwise_cons] at hn
    rcases List.mem_cons.1 hi with rfl | h
    · rw [List.filter_cons_of_neg (by simp), List.filter_eq_self.2 fun j hj => by have := hn.1 j hj; simp; omega]; rfl
    · have := hn.1 i h
      rw [List.filter_cons_of_pos (by simp; omega), List.length_cons, List.length_cons, ih hn.2 h]
theorem un_len {n : Nat} {q : Int} (hq : 0 ≤ q ∧ q < 2 ^ n) {i : Nat} (hi : i ∈ un n q) : (un n (q + 2 ^ i)).length + 1 = (un n q).length := by
  rw [un_add hq hi]; exact erase_len (un_lt n q) hi

def behind (any : Bool) (f : Nat → Int) (w : List Int → Int → Int) (l : List Int) (q : Int) (i : Nat) : Int :=
  f i + if any then w (wl l i false) (q + 2 ^ i) else max (w (wl l i false) (q + 2 ^ i)) (w (wl l i true) (q + 2 ^ i))
def doneL (any : Bool) (l : List Int) : Prop := l = [] ∨ (l.length = 1 ∧ any = false)
instance (any : Bool) (l : List Int) : Decidable (doneL any l) := inferInstanceAs (Decidable (_ ∨ _))
def plan (n : Nat) (f : Nat → Int) (any : Bool) : Nat → List Int → Int → Nat × Int
  | 0, _, _ => (0, 0)
  | k + 1, l, q => if doneL any l then (0, 0) else (bestR (behind any f (fun l q => (plan n f any k l q).2) l q) (un n q)).getD (0, 0)
def planQ (n : Nat) (f : Nat → Int) (any : Bool) (l : List Int) (q : Int) : Nat × Int := plan n f any (un n q).length l q
theorem planQ_eq {n : Nat} {f : Nat → Int} {any : Bool} {l : List Int} {q : Int} (hq : 0 ≤ q ∧ q < 2 ^ n) :
    planQ n f any l q = if doneL any l then (0, 0) else (bestR (behind any f (fun l q => (planQ n f any l q).2) l q) (un n q)).getD (0, 0) := by
  cases hk : (un n q).length with
  | zero =>
    have hu : un n q = [] := List.eq_nil_of_length_eq_zero hk
    unfold planQ
    rw [hk, hu]
    simp [plan, bestR]
  | succ k =>
    conv => lhs; unfold planQ
    rw [hk]
    simp only [plan]
    split
    · rfl
    · congr 1
      refine bestR_congr fun i hi => ?_
      have h1 := un_len hq hi
      have h2 : (un n (q + 2 ^ i)).length = k := by omega
      unfold behind planQ
      simp only [h2]
theorem planQ_done {n : Nat} {f : Nat → Int} {any : Bool} {l : List Int} {q : Int} (hq : 0 ≤ q ∧ q < 2 ^ n) (h : doneL any l) : planQ n f any l q = (0, 0) := by rw [planQ_eq hq, if_pos h]
theorem planQ_nonneg {n : Nat} {f : Nat → Int} (hf : ∀ i, i < n → 0 ≤ f i) {any : Bool} : ∀ (k : Nat) (l : List Int) (q : Int), 0 ≤ (plan n f any k l q).2
  | 0, _, _ => Int.le_refl _
  | k + 1, l, q => by
    simp only [plan]
    split
    · exact Int.le_refl _
    · cases hb : bestR (behind any f (fun l q => (plan n f any k l q).2) l q) (un n q) with
      | none => exact Int.le_refl _
      | some b =>
        obtain ⟨h1, h2, _⟩ := bestR_spec (un_lt n q) hb
        have h3 := hf b.1 (mem_un.1 h1).1
        have h4 := planQ_nonneg hf (any := any) k (wl l b.1 false) (q + 2 ^ b.1)
        show 0 ≤ b.2
        rw [h2]
        unfold behind
        simp only
        split <;> omega
end Rk
end Go.Cw
end

/- The best way to rake: with fewer sets, longer seams; some leak is found soon. -/
section
set_option maxRecDepth 100000
set_option linter.unusedSimpArgs false
namespace Go.Cw
open Go

namespace Rk
variable {n : Nat}
theorem wl_sub {l m : List Int} (h : l.Sublist m) (i : Nat) (b : Bool) : (wl l i b).Sublist (wl m i b) := h.filter _
theorem done_sub {any : Bool} {l m : List Int} (h : l.Sublist m) (d : doneL any m) : doneL any l := by
  have hl := h.length_le
  rcases d with rfl | ⟨h1, h2⟩
  · exact .inl (List.sublist_nil.1 h)
  · rcases (show l.length = 0 ∨ l.length = 1 by omega) with h0 | h0
    · exact .inl (List.eq_nil_of_length_eq_zero h0)
    · exact .inr ⟨h0, h2⟩
theorem best_le {g g' : Nat → Int} {l : List Nat} (hs : l.Pairwise (· < ·)) (h : ∀ i ∈ l, g i ≤ g' i) : ((bestR g l).getD (0, 0)).2 ≤ ((bestR g' l).getD (0, 0)).2 := by
  cases l with
  | nil => exact Int.le_refl _
  | cons a m =>
    obtain ⟨b, hb⟩ := bestR_some (g := g) (l := a :: m) (by simp)
    obtain ⟨c, hc⟩ := bestR_some (g := g') (l := a :: m) (by simp)
    rw [hb, hc]
    obtain ⟨b1, b2, b3⟩ := bestR_spec hs hb
    obtain ⟨c1, c2, c3⟩ := bestR_spec hs hc
    have h1 := b3 c.1 c1
    have h2 := h c.1 c1
    show b.2 ≤ c.2
    omega
theorem best_at {g : Nat → Int} {l : List Nat} (hs : l.Pairwise (· < ·)) {i : Nat} (hi : i ∈ l) : ((bestR g l).getD (0, 0)).2 ≤ g i := by
  obtain ⟨b, hb⟩ := bestR_some (g := g) (List.ne_nil_of_mem hi)
  obtain ⟨b1, b2, b3⟩ := bestR_spec hs hb
  rw [hb]
  have := b3 i hi
  show b.2 ≤ g i
  omega
theorem behind_le {any : Bool} {f f' : Nat → Int} {w w' : List Int → Int → Int} {l l' : List Int} {q : Int} {i : Nat} (hf : f i ≤ f' i) (hw : ∀ b, w (wl l i b) (q + 2 ^ i) ≤ w' (wl l' i b) (q + 2 ^ i)) : behind any f w l q i ≤ behind any f' w' l' q i := by
  have h1 := hw false
  have h2 := hw true
  unfold behind
  split <;> omega
theorem plan_mono {f f' : Nat → Int} (hf0 : ∀ i, i < n → 0 ≤ f i) (hf : ∀ i, i < n → f i ≤ f' i) {any : Bool} : ∀ (k : Nat) {l l' : List Int} (q : Int), l.Sublist l' → (plan n f any k l q).2 ≤ (plan n f' any k l' q).2
  | 0, _, _, _, _ => Int.le_refl _
  | k + 1, l, l', q, h => by
    by_cases hd : doneL any l
    · have h0 : (plan n f any (k + 1) l q).2 = 0 := by simp only [plan]; rw [if_pos hd]
      rw [h0]
      exact planQ_nonneg (fun i hi => Int.le_trans (hf0 i hi) (hf i hi)) _ _ _
    · have hd' : ¬ doneL any l' := fun x => hd (done_sub h x)
      simp only [plan]
      rw [if_neg hd, if_neg hd']
      refine best_le (un_lt n q) fun i hi => ?_
      exact behind_le (hf i (mem_un.1 hi).1) fun b => plan_mono hf0 hf k _ (wl_sub h i b)
theorem bestR_mul {g : Nat → Int} {c : Int} (hc : 0 < c) (l : List Nat) : bestR (fun i => c * g i) l = (bestR g l).map fun b => (b.1, c * b.2) := by
  induction l using push_ind with
  | h0 => rfl
  | h1 l x ih =>
    rw [bestR_push, bestR_push, ih]
    cases bestR g l with
    | none => rfl
    | some b =>
      simp only [betR, Option.map_some]
      by_cases h : g x < b.2
      · rw [if_pos h, if_pos (Int.mul_lt_mul_of_pos_left h hc)]; rfl
      · rw [if_neg h, if_neg (fun h' => h (Int.lt_of_mul_lt_mul_left h' (by omega)))]; rfl
theorem plan_mul {f : Nat → Int} {c : Int} (hc : 0 < c) {any : Bool} : ∀ (k : Nat) (l : List Int) (q : Int), plan n (fun i => c * f i) any k l q = ((plan n f any k l q).1, c * (plan n f any k l q).2)
  | 0, _, _ => by simp [plan]
  | k + 1, l, q => by
    simp only [plan]
    split
    · simp
    · have hb : ∀ i, behind any (fun i => c * f i) (fun l q => (plan n (fun i => c * f i) any k l q).2) l q i = c * behind any f (fun l q => (plan n f any k l q).2) l q i := fun i => by
        have hm : ∀ a b : Int, max (c * a) (c * b) = c * max a b := fun a b => by
          by_cases h : a ≤ b
          · have := Int.mul_le_mul_of_nonneg_left h (show 0 ≤ c by omega)
            rw [Int.max_eq_right h, Int.max_eq_right this]
          · have h' : b ≤ a := by omega
            have := Int.mul_le_mul_of_nonneg_left h' (show 0 ≤ c by omega)
            rw [Int.max_eq_left h', Int.max_eq_left this]
        unfold behind
        simp only [plan_mul hc k]
        split
        · rw [Int.mul_add]
        · rw [hm, Int.mul_add]
      rw [bestR_congr (g' := fun i => c * behind any f (fun l q => (plan n f any k l q).2) l q i) fun i _ => hb i, bestR_mul hc]
      cases bestR (behind any f (fun l q => (plan n f any k l q).2) l q) (un n q) <;> simp

theorem plan_any {f : Nat → Int} {M : Int} (hf : ∀ i, i < n → 0 ≤ f i ∧ f i ≤ M) (hM : 0 ≤ M) : ∀ (k : Nat) (l : List Int) (q : Int), 0 ≤ q ∧ q < 2 ^ n → (un n q).length = k → (∀ s ∈ l, ∃ i, i ∈ un n q ∧ inS s i = true) → (plan n f true k l q).2 ≤ (plan n f false k l q).2 + M
  | 0, l, q, _, _, _ => by simpa [plan] using hM
  | k + 1, l, q, hq, hk, h => by
    by_cases h0 : l = []
    · subst h0
      have e : (plan n f true (k + 1) [] q).2 = 0 := by simp only [plan]; rw [if_pos (.inl rfl)]
      have := planQ_nonneg (n := n) (fun i hi => (hf i hi).1) (any := false) (k + 1) [] q
      omega
    · have hdt : ¬ doneL true l := by rintro (h1 | ⟨_, h1⟩); exact h0 h1; cases h1
      have et : (plan n f true (k + 1) l q).2 = ((bestR (behind true f (fun l q => (plan n f true k l q).2) l q) (un n q)).getD (0, 0)).2 := by simp only [plan]; rw [if_neg hdt]
      have hnn := planQ_nonneg (n := n) (fun i hi => (hf i hi).1) (any := false) (k + 1) l q
      by_cases h1 : l.length = 1
      · obtain ⟨s, hs⟩ := List.length_eq_one_iff.1 h1
        obtain ⟨i, hi, his⟩ := h s (by rw [hs]; simp)
        have hle := best_at (g := behind true f (fun l q => (plan n f true k l q).2) l q) (un_lt n q) hi
        have hw : wl l i false = [] := by rw [hs]; unfold wl; simp [his]
        have hz : (plan n f true k (wl l i false) (q + 2 ^ i)).2 = 0 := by
          rw [hw]
          cases k with
          | zero => rfl
          | succ k => simp only [plan]; rw [if_pos (.inl rfl)]
        have : behind true f (fun l q => (plan n f true k l q).2) l q i = f i := by unfold behind; simp only [if_true, hz]; omega
        rw [this] at hle
        have := (hf i (mem_un.1 hi).1).2
        omega
      · have hdf : ¬ doneL false l := by rintro (h2 | ⟨h2, _⟩); exact h0 h2; exact h1 h2
        have hun : un n q ≠ [] := fun e => by rw [e] at hk; simp at hk
        have ef : (plan n f false (k + 1) l q).2 = ((bestR (behind false f (fun l q => (plan n f false k l q).2) l q) (un n q)).getD (0, 0)).2 := by simp only [plan]; rw [if_neg hdf]
        obtain ⟨b, hb⟩ := bestR_some (g := behind false f (fun l q => (plan n f false k l q).2) l q) hun
        obtain ⟨b1, b2, _⟩ := bestR_spec (un_lt n q) hb
        have hle := best_at (g := behind true f (fun l q => (plan n f true k l q).2) l q) (un_lt n q) b1
        have hlen := un_len hq b1
        have ih := plan_any hf hM k (wl l b.1 false) (q + 2 ^ b.1) (add_lt hq (mem_un.1 b1).1 (mem_un.1 b1).2) (by omega) fun s hs => by
          obtain ⟨hs1, hs2⟩ := mem_wl.1 hs
          obtain ⟨i, hi, his⟩ := h s hs1
          refine ⟨i, ?_, his⟩
          rw [un_add hq b1]
          refine List.mem_filter.2 ⟨hi, ?_⟩
          have : i ≠ b.1 := fun e => by rw [e, hs2] at his; cases his
          simpa using this
        have e1 : behind true f (fun l q => (plan n f true k l q).2) l q b.1 = f b.1 + (plan n f true k (wl l b.1 false) (q + 2 ^ b.1)).2 := by unfold behind; simp
        have e2 : behind false f (fun l q => (plan n f false k l q).2) l q b.1 = f b.1 + max (plan n f false k (wl l b.1 false) (q + 2 ^ b.1)).2 (plan n f false k (wl l b.1 true) (q + 2 ^ b.1)).2 := by unfold behind; simp
        rw [hb] at ef
        have ef' : (plan n f false (k + 1) l q).2 = b.2 := ef
        rw [et, ef', b2, e2]
        rw [e1] at hle
        omega
end Rk
end Go.Cw
end

/- Raking in an order, in plain words. -/
section
set_option maxRecDepth 100000
set_option linter.unusedSimpArgs false
namespace Go.Cw
open Go

namespace Rk
variable {n : Nat}
def costL (f : Nat → Int) : List Nat → List Int → Int → Int
  | [], _, _ => 0
  | i :: o, l, s => if l.length ≤ 1 then 0 else f i + costL f o (wl l i (inS s i)) s
theorem costL_nonneg {f : Nat → Int} {o : List Nat} (hf : ∀ i ∈ o, 0 ≤ f i) : ∀ (l : List Int) (s : Int), 0 ≤ costL f o l s := by
  induction o with
  | nil => exact fun _ _ => Int.le_refl _
  | cons i o ih =>
    intro l s
    simp only [costL]
    split
    · exact Int.le_refl _
    · have h1 := hf i (by simp)
      have h2 := ih (fun j hj => hf j (by simp [hj])) (wl l i (inS s i)) s
      omega
def mostL (f : Nat → Int) (o : List Nat) (l : List Int) (S : List Int) : Int := S.foldl (fun m s => max m (costL f o l s)) 0
end Rk
end Go.Cw
end

/- All orders of seams, lexicographically. -/
section
set_option maxRecDepth 100000
set_option linter.unusedSimpArgs false
namespace Go.Cw
open Go

namespace Rk
variable {n : Nat}
def fr (n : Nat) (b : List Nat) : List Nat := (List.range n).filter fun i => !b.contains i
theorem mem_fr {b : List Nat} {i : Nat} : i ∈ fr n b ↔ i < n ∧ i ∉ b := by
  unfold fr; simp [List.mem_filter]
theorem fr_lt (b : List Nat) : (fr n b).Pairwise (· < ·) := List.Pairwise.filter _ List.pairwise_lt_range
def ords (n : Nat) : Nat → List Nat → List (List Nat)
  | 0, b => [b]
  | k + 1, b => (fr n b).flatMap fun i => ords n k (b ++ [i])
theorem mem_ords : ∀ {k : Nat} {b o : List Nat}, o ∈ ords n k b ↔ ∃ r, o = b ++ r ∧ r.length = k ∧ r.Nodup ∧ ∀ i ∈ r, i < n ∧ i ∉ b
  | 0, b, o => by
    simp only [ords, List.mem_singleton]
    constructor
    · rintro rfl; exact ⟨[], by simp, rfl, by simp, by simp⟩
    · rintro ⟨r, rfl, h, _⟩
      rw [List.eq_nil_of_length_eq_zero h]; simp
  | k + 1, b, o => by
    simp only [ords, List.mem_flatMap, mem_fr, mem_ords (k := k)]
    constructor
    · rintro ⟨i, ⟨h1, h2⟩, r, rfl, h3, h4, h5⟩
      refine ⟨i :: r, by simp, by simp [h3], ?_, fun j hj => ?_⟩
      · rw [List.nodup_cons]
        exact ⟨fun h => (h5 i h).2 (by simp), h4⟩
      · rcases List.mem_cons.1 hj with rfl | h
        · exact ⟨h1, h2⟩
        · have := h5 j h
          exact ⟨this.1, fun h6 => this.2 (by simp [h6])⟩
    · rintro ⟨r, rfl, h1, h2, h3⟩
      cases r with
      | nil => simp at h1
      | cons i r =>
        rw [List.nodup_cons] at h2
        refine ⟨i, h3 i (by simp), r, by simp, by simpa using h1, h2.2, fun j hj => ?_⟩
        have := h3 j (by simp [hj])
        refine ⟨this.1, fun h => ?_⟩
        rcases List.mem_append.1 h with h | h
        · exact this.2 h
        · simp at h; subst h; exact h2.1 hj
def Lex (a b : List Nat) : Prop := ∃ p x y r r', a = p ++ x :: r ∧ b = p ++ y :: r' ∧ x < y
theorem ords_lex : ∀ (k : Nat) (b : List Nat), (ords n k b).Pairwise Lex
  | 0, b => by simp [ords]
  | k + 1, b => by
    simp only [ords]
    rw [List.flatMap_def, List.pairwise_flatten]
    refine ⟨fun l hl => ?_, ?_⟩
    · obtain ⟨i, _, rfl⟩ := List.mem_map.1 hl
      exact ords_lex k (b ++ [i])
    · rw [List.pairwise_map]
      refine (fr_lt b).imp fun {i j} hij o ho o' ho' => ?_
      obtain ⟨r, rfl, _⟩ := mem_ords.1 ho
      obtain ⟨r', rfl, _⟩ := mem_ords.1 ho'
      exact ⟨b, i, j, r, r', by simp, by simp, hij⟩
theorem nodup_len {α : Type} [DecidableEq α] {l : List α} (hn : l.Nodup) : ∀ {m : List α}, l ⊆ m → l.length ≤ m.length := by
  induction l with
  | nil => exact fun _ => Nat.zero_le _
  | cons a l ih =>
    intro m h
    rw [List.nodup_cons] at hn
    have ha : a ∈ m := h (by simp)
    have := ih hn.2 (m := m.erase a) fun x hx => by
      refine (List.mem_erase_of_ne ?_).2 (h (by simp [hx]))
      rintro rfl
      exact hn.1 hx
    rw [List.length_erase_of_mem ha] at this
    have := List.length_pos_of_mem ha
    simp only [List.length_cons]
    omega
theorem ords_ne : ∀ (k : Nat) (b : List Nat), b.Nodup → (∀ i ∈ b, i < n) → b.length + k = n → ords n k b ≠ []
  | 0, b, _, _, _ => by simp [ords]
  | k + 1, b, hn, hb, hl => by
    have : ∃ i, i < n ∧ i ∉ b := by
      refine Classical.byContradiction fun hc => ?_
      have hsub : List.range n ⊆ b := fun i hi => by
        refine Classical.byContradiction fun h => hc ⟨i, List.mem_range.1 hi, h⟩
      have := nodup_len List.nodup_range hsub
      rw [List.length_range] at this
      omega
    obtain ⟨i, h1, h2⟩ := this
    have ih := ords_ne k (b ++ [i]) (by
      rw [List.nodup_append]
      exact ⟨hn, by simp, fun a ha c hc => by simp at hc; subst hc; exact fun e => h2 (e ▸ ha)⟩) (fun j hj => by
      rcases List.mem_append.1 hj with h | h
      · exact hb j h
      · simp at h; subst h; exact h1) (by simp; omega)
    obtain ⟨o, ho⟩ := List.exists_mem_of_ne_nil _ ih
    exact List.ne_nil_of_mem (a := o) (by
      simp only [ords]
      exact List.mem_flatMap.2 ⟨i, mem_fr.2 ⟨h1, h2⟩, ho⟩)

def betO (g : List Nat → Int) (b : Option (List Nat × Int)) (o : List Nat) : Option (List Nat × Int) :=
  match b with
  | none => some (o, g o)
  | some c => if g o < c.2 then some (o, g o) else some c
def bestO (g : List Nat → Int) (l : List (List Nat)) : Option (List Nat × Int) := l.foldl (betO g) none
end Rk
end Go.Cw
end

/- Which seams would tell all, in plain words. -/
section
set_option maxRecDepth 100000
set_option linter.unusedSimpArgs false
namespace Go.Cw
open Go

namespace Rk
variable {n : Nat}
def same (n : Nat) (q s t : Int) : Bool := (List.range n).all fun i => !inS q i || (inS s i == inS t i)
theorem same_iff {q s t : Int} : same n q s t = true ↔ ∀ i, i < n → inS q i = true → inS s i = inS t i := by
  unfold same
  rw [List.all_eq_true]
  constructor
  · intro h i hi hq
    have := h i (List.mem_range.2 hi)
    rw [hq] at this
    simpa using this
  · intro h i hi
    have := h i (List.mem_range.1 hi)
    cases hq : inS q i
    · rfl
    · simp [this hq]
def tellsP (n : Nat) (S : List Int) (q : Int) : Prop := S.Pairwise fun s t => same n q s t = false
instance (n : Nat) (S : List Int) (q : Int) : Decidable (tellsP n S q) := inferInstanceAs (Decidable (List.Pairwise _ _))
theorem all_same {s t : Int} (hs : 0 ≤ s ∧ s < 2 ^ n) (ht : 0 ≤ t ∧ t < 2 ^ n) (h : ∀ i, i < n → inS s i = inS t i) : s = t := by
  have e1 : bits (inS s) n = s := bits_of hs.1 hs.2
  have e2 : bits (inS t) n = t := bits_of ht.1 ht.2
  rw [← e1, ← e2]
  exact bits_congr h
def lenS (f : Nat → Int) : Nat → Int → Int
  | 0, _ => 0
  | n + 1, q => lenS f n q + if inS q n then f n else 0
theorem lenS_nonneg {f : Nat → Int} : ∀ {n : Nat}, (∀ i, i < n → 0 ≤ f i) → ∀ q, 0 ≤ lenS f n q
  | 0, _, _ => Int.le_refl _
  | n + 1, h, q => by
    have := lenS_nonneg (n := n) (fun i hi => h i (by omega)) q
    have := h n (by omega)
    simp only [lenS]
    split <;> omega
theorem lenS_congr {f : Nat → Int} : ∀ {n : Nat} {p q : Int}, (∀ i, i < n → inS p i = inS q i) → lenS f n p = lenS f n q
  | 0, _, _, _ => rfl
  | n + 1, p, q, h => by simp only [lenS]; rw [lenS_congr fun i hi => h i (by omega), h n (by omega)]
theorem lenS_less {f : Nat → Int} : ∀ {n : Nat} {p q : Int} {j : Nat}, j < n → inS q j = true → (∀ i, i < n → inS p i = (inS q i && !decide (i = j))) → lenS f n q = lenS f n p + f j
  | 0, _, _, _, h, _, _ => by omega
  | n + 1, p, q, j, hj, hq, h => by
    simp only [lenS]
    by_cases hjn : j = n
    · subst hjn
      have h1 : lenS f j q = lenS f j p := (lenS_congr fun i hi => by rw [h i (by omega)]; have : i ≠ j := by omega
                                                                      simp [this]).symm
      have h2 : inS p j = false := by rw [h j (by omega)]; simp
      rw [h1, hq, h2]; simp
    · have h1 := lenS_less (f := f) (n := n) (p := p) (q := q) (j := j) (by omega) hq fun i hi => h i (by omega)
      have h2 : inS p n = inS q n := by rw [h n (by omega)]; have : n ≠ j := fun e => hjn e.symm
                                        simp [this]
      rw [h1, h2]; omega

def wls (l : List Int) (o : List Nat) (s : Int) : List Int := o.foldl (fun l i => wl l i (inS s i)) l
end Rk
end Go.Cw
end

/- The next seam, in plain words. -/
section
set_option maxRecDepth 100000
set_option linter.unusedSimpArgs false
namespace Go.Cw
open Go

namespace Rk
variable {n : Nat}
structure Some' (n : Nat) (l : List Int) (q : Int) : Prop where
  rng : ∀ s ∈ l, 0 ≤ s ∧ s < 2 ^ n
  lt : l.Pairwise (· < ·)
  ag : ∀ s ∈ l, ∀ t ∈ l, ∀ i, i < n → inS q i = true → inS s i = inS t i
  q : 0 ≤ q ∧ q < 2 ^ n
theorem Some'.wl {l : List Int} {q : Int} (h : Some' n l q) {i : Nat} (hi : i ∈ un n q) (b : Bool) : Some' n (wl l i b) (q + 2 ^ i) := by
  obtain ⟨h1, h2⟩ := mem_un.1 hi
  refine ⟨fun s hs => h.rng s (mem_wl.1 hs).1, List.Pairwise.filter _ h.lt, fun s hs t ht j hj hq => ?_, add_lt h.q h1 h2⟩
  rw [inS_add h.q h1 h2 hj, Bool.or_eq_true] at hq
  rcases hq with hq | hq
  · exact h.ag s (mem_wl.1 hs).1 t (mem_wl.1 ht).1 j hj hq
  · simp only [decide_eq_true_eq] at hq
    subst hq
    rw [(mem_wl.1 hs).2, (mem_wl.1 ht).2]
theorem Some'.un_ne {l : List Int} {q : Int} (h : Some' n l q) (h2 : 2 ≤ l.length) : un n q ≠ [] := by
  intro e
  have h01 := List.pairwise_iff_getElem.1 h.lt 0 1 (by omega) (by omega) (by omega)
  have : l[0] = l[1] := all_same (n := n) (h.rng _ (by simp)) (h.rng _ (by simp)) fun i hi => by
    refine h.ag _ (by simp) _ (by simp) i hi ?_
    cases hq : inS q i
    · have : i ∈ un n q := mem_un.2 ⟨hi, hq⟩
      rw [e] at this; simp at this
    · rfl
  omega
theorem plan_next {f : Nat → Int} {l : List Int} {q : Int} (h : Some' n l q) (h2 : 2 ≤ l.length) :
    (planQ n f false l q).1 ∈ un n q ∧ (planQ n f false l q).2 = behind false f (fun l q => (planQ n f false l q).2) l q (planQ n f false l q).1 ∧
    ∀ i ∈ un n q, (planQ n f false l q).2 < behind false f (fun l q => (planQ n f false l q).2) l q i ∨ ((planQ n f false l q).2 = behind false f (fun l q => (planQ n f false l q).2) l q i ∧ (planQ n f false l q).1 ≤ i) := by
  have hd : ¬ doneL false l := by rintro (h1 | ⟨h1, _⟩); rw [h1] at h2; simp at h2; omega
  have e := planQ_eq (f := f) (any := false) (l := l) h.q
  rw [if_neg hd] at e
  obtain ⟨b, hb⟩ := bestR_some (g := behind false f (fun l q => (planQ n f false l q).2) l q) (h.un_ne h2)
  rw [hb] at e
  have e' : planQ n f false l q = b := e
  rw [e']
  exact bestR_spec (un_lt n q) hb
theorem behind_eq {f : Nat → Int} {l : List Int} {q : Int} {i : Nat} : behind false f (fun l q => (planQ n f false l q).2) l q i = f i + max (planQ n f false (wl l i false) (q + 2 ^ i)).2 (planQ n f false (wl l i true) (q + 2 ^ i)).2 := by unfold behind; simp
theorem one_left {l : List Int} {q : Int} (h : Some' n l q) (hu : un n q = []) : l.length ≤ 1 := by
  refine Classical.byContradiction fun hc => h.un_ne (by omega) hu
end Rk
end Go.Cw
end

/- Which seams would tell all: the least sets, by two ways of going through them; what the best order costs is between. -/
section
set_option maxRecDepth 100000
set_option linter.unusedSimpArgs false
namespace Go.Cw
open Go

namespace Rk
variable {n : Nat}
def cand (n : Nat) (S : List Int) : List Nat := (List.range (2 ^ n)).filter fun q => decide (tellsP n S (q : Int))
theorem pow_cast (n : Nat) : ((2 ^ n : Nat) : Int) = 2 ^ n := by norm_cast
theorem pow_pos' (n : Nat) : 0 < 2 ^ n := Nat.pow_pos (by omega)
def enP (n : Nat) (f : Nat → Int) (S : List Int) : Nat × Int := (bestR (fun q => lenS f n (q : Int)) (cand n S)).getD (0, 0)
def refE (n : Nat) (f : Nat → Int) (S : List Int) : Nat → Nat → Nat
  | 0, b => b
  | k + 1, b => refE n f S k (if tellsP n S (k : Int) ∧ lenS f n (k : Int) ≤ lenS f n (b : Int) then k else b)
theorem refE_spec {f : Nat → Int} {S : List Int} : ∀ (k b : Nat), k ≤ 2 ^ n → k ≤ b + 1 → b < 2 ^ n → tellsP n S (b : Int) →
    (∀ p : Nat, k ≤ p → p < 2 ^ n → tellsP n S (p : Int) → lenS f n (b : Int) < lenS f n (p : Int) ∨ (lenS f n (b : Int) = lenS f n (p : Int) ∧ b ≤ p)) →
    refE n f S k b < 2 ^ n ∧ tellsP n S ((refE n f S k b : Nat) : Int) ∧ ∀ p : Nat, p < 2 ^ n → tellsP n S (p : Int) → lenS f n ((refE n f S k b : Nat) : Int) < lenS f n (p : Int) ∨ (lenS f n ((refE n f S k b : Nat) : Int) = lenS f n (p : Int) ∧ refE n f S k b ≤ p)
  | 0, b, _, _, hb, ht, h => ⟨hb, ht, fun p hp hpt => h p (Nat.zero_le _) hp hpt⟩
  | k + 1, b, hk, hkb, hb, ht, h => by
    simp only [refE]
    by_cases hc : tellsP n S (k : Int) ∧ lenS f n (k : Int) ≤ lenS f n (b : Int)
    · rw [if_pos hc]
      refine refE_spec k k (by omega) (by omega) (by omega) hc.1 fun p hp hp2 hpt => ?_
      by_cases he : p = k
      · subst he; exact .inr ⟨rfl, Nat.le_refl _⟩
      · have := h p (by omega) hp2 hpt
        have := hc.2
        by_cases h3 : lenS f n (k : Int) < lenS f n (p : Int)
        · exact .inl h3
        · exact .inr ⟨by omega, hp⟩
    · rw [if_neg hc]
      refine refE_spec k b (by omega) (by omega) hb ht fun p hp hp2 hpt => ?_
      by_cases he : p = k
      · subst he
        left
        refine Classical.byContradiction fun h3 => hc ⟨hpt, by omega⟩
      · exact h p (by omega) hp2 hpt
def els (n : Nat) (q : Int) : List Nat := (List.range n).filter fun i => inS q i
theorem els_succ (n : Nat) (q : Int) : els (n + 1) q = els n q ++ if inS q n then [n] else [] := by
  unfold els
  rw [List.range_succ, List.filter_append]
  cases h : inS q n <;> simp [h]
theorem lenS_els {f : Nat → Int} (q : Int) : ∀ n : Nat, lenS f n q = ((els n q).map f).sum
  | 0 => rfl
  | n + 1 => by
    rw [els_succ]
    simp only [lenS, List.map_append, List.sum_append, lenS_els q n]
    cases inS q n <;> simp
theorem short_of_eq {l : List Int} (hn : l.Nodup) (h : ∀ s ∈ l, ∀ t ∈ l, s = t) : l.length ≤ 1 := by
  match l, hn, h with
  | [], _, _ => simp
  | [_], _, _ => simp
  | a :: b :: l, hn, h =>
    have := h a (by simp) b (by simp)
    rw [List.nodup_cons] at hn
    exact absurd (by rw [this]; simp) hn.1
def ordP (n : Nat) (f : Nat → Int) (S : List Int) : List Nat × Int := (bestO (fun o => mostL f o S S) (ords n n [])).getD ([], 0)
end Rk
end Go.Cw
end

/- Raking by what is told next; what holds with fewer sets, longer seams; seams that tell all. -/
section
set_option maxRecDepth 100000
set_option linter.unusedSimpArgs false
namespace Go.Cw
open Go

namespace Rk
variable {n : Nat}
theorem zero_rng (n : Nat) : (0 : Int) ≤ 0 ∧ (0 : Int) < 2 ^ n := ⟨Int.le_refl _, by have := pow_cast n; have := pow_pos' n; omega⟩
theorem inS_zero (i : Nat) : inS 0 i = false := by unfold inS; simp
theorem lenS_add {f : Nat → Int} {q : Int} (hq : 0 ≤ q ∧ q < 2 ^ n) {i : Nat} (hi : i ∈ un n q) : lenS f n (q + 2 ^ i) = lenS f n q + f i := by
  obtain ⟨h1, h2⟩ := mem_un.1 hi
  refine lenS_less (j := i) h1 (by rw [inS_add hq h1 h2 h1]; simp) fun j hj => ?_
  rw [inS_add hq h1 h2 hj]
  by_cases he : j = i
  · subst he; simp [h2]
  · simp [he]
theorem lenS_zero {f : Nat → Int} : ∀ n : Nat, lenS f n 0 = 0
  | 0 => rfl
  | n + 1 => by simp [lenS, lenS_zero n, inS_zero]

theorem follow {f : Nat → Int} {l : List Int} {q : Int} (h : Some' n l q) (h2 : 2 ≤ l.length) {i : Nat} (hi : i = (planQ n f false l q).1) (b : Bool) :
    i ∈ un n q ∧ (planQ n f false (wl l i b) (q + 2 ^ i)).2 ≤ (planQ n f false l q).2 - f i := by
  subst hi
  obtain ⟨h3, h4, _⟩ := plan_next (f := f) h h2
  refine ⟨h3, ?_⟩
  rw [behind_eq] at h4
  cases b <;> omega
theorem cost_mono {f f' : Nat → Int} : ∀ (o : List Nat) (_ : ∀ i ∈ o, 0 ≤ f i) (_ : ∀ i ∈ o, f i ≤ f' i) {l l' : List Int} (s : Int), l.Sublist l' → costL f o l s ≤ costL f' o l' s
  | [], _, _, _, _, _, _ => Int.le_refl _
  | i :: o, h0, h1, l, l', s, h => by
    have hl := h.length_le
    have g0 := h0 i (by simp)
    have g1 := h1 i (by simp)
    have ih := cost_mono o (fun j hj => h0 j (by simp [hj])) (fun j hj => h1 j (by simp [hj])) s (wl_sub h i (inS s i))
    have n1 := costL_nonneg (f := f') (o := o) (fun j hj => by have := h0 j (by simp [hj]); have := h1 j (by simp [hj]); omega) (wl l' i (inS s i)) s
    simp only [costL]
    by_cases a : l.length ≤ 1
    · rw [if_pos a]
      split <;> omega
    · rw [if_neg a, if_neg (by omega)]
      omega
theorem cost_mul {f : Nat → Int} {c : Int} : ∀ (o : List Nat) (l : List Int) (s : Int), costL (fun i => c * f i) o l s = c * costL f o l s
  | [], _, _ => by simp [costL]
  | i :: o, l, s => by
    simp only [costL, cost_mul o]
    split
    · simp
    · rw [Int.mul_add]
theorem lenS_mono {f f' : Nat → Int} (q : Int) : ∀ n : Nat, (∀ i, i < n → f i ≤ f' i) → lenS f n q ≤ lenS f' n q
  | 0, _ => Int.le_refl _
  | n + 1, h => by
    have := lenS_mono q n fun i hi => h i (by omega)
    have := h n (by omega)
    simp only [lenS]
    split <;> omega
theorem lenS_mul {f : Nat → Int} {c : Int} (q : Int) : ∀ n : Nat, lenS (fun i => c * f i) n q = c * lenS f n q
  | 0 => by simp [lenS]
  | n + 1 => by simp only [lenS, lenS_mul q n]; split <;> simp [Int.mul_add]
end Rk
end Go.Cw
end

/- What is known: which seams were raked, and which of them leak; orders as lists of numbers. -/
section
set_option maxRecDepth 100000
set_option linter.unusedSimpArgs false
namespace Go.Cw
open Go

namespace Rk
variable {n : Nat}
def agQ (n : Nat) (S : List Int) (q p : Int) : List Int := S.filter fun s => same n q s p
theorem mem_agQ {S : List Int} {q p s : Int} : s ∈ agQ n S q p ↔ s ∈ S ∧ same n q s p = true := by unfold agQ; simp [List.mem_filter]
theorem agQ_zero (S : List Int) (p : Int) : agQ n S 0 p = S := by
  unfold agQ
  refine List.filter_eq_self.2 fun s _ => same_iff.2 fun i _ hq => ?_
  rw [inS_zero] at hq; cases hq
def lk (p : Int) (i : Nat) (b : Bool) : Int := if b then p + 2 ^ i else p
theorem lk_rng {p : Int} (hp : 0 ≤ p ∧ p < 2 ^ n) {i : Nat} (hi : i < n) (h : inS p i = false) (b : Bool) : 0 ≤ lk p i b ∧ lk p i b < 2 ^ n := by
  cases b
  · exact hp
  · exact add_lt hp hi h
theorem inS_lk {p : Int} (hp : 0 ≤ p ∧ p < 2 ^ n) {i : Nat} (hi : i < n) (h : inS p i = false) (b : Bool) {j : Nat} (hj : j < n) : inS (lk p i b) j = if j = i then b else inS p j := by
  cases b
  · by_cases e : j = i
    · subst e; simpa [lk] using h
    · simp [lk, e]
  · show inS (p + 2 ^ i) j = _
    rw [inS_add hp hi h hj]
    by_cases e : j = i <;> simp [e]
theorem agQ_wl {S : List Int} {q p : Int} (hq : 0 ≤ q ∧ q < 2 ^ n) (hp : 0 ≤ p ∧ p < 2 ^ n) {i : Nat} (hi : i < n) (hiq : inS q i = false) (hip : inS p i = false) (b : Bool) :
    agQ n S (q + 2 ^ i) (lk p i b) = wl (agQ n S q p) i b := by
  unfold agQ wl
  rw [List.filter_filter]
  refine List.filter_congr fun s _ => ?_
  rw [Bool.eq_iff_iff, Bool.and_eq_true, same_iff, same_iff]
  constructor
  · intro h
    refine ⟨?_, fun j hj hjq => ?_⟩
    · have := h i hi (by rw [inS_add hq hi hiq hi]; simp)
      rw [inS_lk hp hi hip b hi] at this
      simpa using this
    · have hne : j ≠ i := fun e => by subst e; rw [hiq] at hjq; cases hjq
      have := h j hj (by rw [inS_add hq hi hiq hj, hjq]; simp)
      rw [inS_lk hp hi hip b hj, if_neg hne] at this
      exact this
  · rintro ⟨h1, h2⟩ j hj hjq
    rw [inS_lk hp hi hip b hj]
    by_cases e : j = i
    · subst e; simpa using h1
    · rw [if_neg e]
      rw [inS_add hq hi hiq hj] at hjq
      refine h2 j hj ?_
      simpa [e] using hjq
structure Kn (n : Nat) (q p : Int) : Prop where
  qr : 0 ≤ q ∧ q < 2 ^ n
  pr : 0 ≤ p ∧ p < 2 ^ n
  sub : ∀ i, i < n → inS p i = true → inS q i = true
theorem Kn.zero : Kn n 0 0 := ⟨zero_rng n, zero_rng n, fun i _ h => by rw [inS_zero] at h; cases h⟩
theorem Kn.off {q p : Int} (h : Kn n q p) {i : Nat} (hi : i < n) (hq : inS q i = false) : inS p i = false := by
  cases hp : inS p i
  · rfl
  · rw [h.sub i hi hp] at hq; cases hq
theorem Kn.step {q p : Int} (h : Kn n q p) {i : Nat} (hi : i < n) (hq : inS q i = false) (b : Bool) : Kn n (q + 2 ^ i) (lk p i b) := by
  have hp := h.off hi hq
  refine ⟨add_lt h.qr hi hq, lk_rng h.pr hi hp b, fun j hj hj1 => ?_⟩
  rw [inS_lk h.pr hi hp b hj] at hj1
  rw [inS_add h.qr hi hq hj]
  by_cases e : j = i
  · simp [e]
  · rw [if_neg e] at hj1; rw [h.sub j hj hj1]; simp
theorem agrees_bits {q p s : Int} (h : Kn n q p) (hn : n ≤ 60) (hs : 0 ≤ s ∧ s < 2 ^ n) : decide (bitI .and .i64 s q = p) = same n q s p := by
  rw [Bool.eq_iff_iff, decide_eq_true_eq, same_iff]
  rw [show bitI .and .i64 s q = bits (fun i => inS s i && inS q i) n from by
    conv => lhs; rw [← bits_of hs.1 hs.2, ← bits_of h.qr.1 h.qr.2]
    exact bitsI_and _ _ hn]
  constructor
  · intro e i hi hq
    rw [← e, inS_bits _ hi, hq]; simp
  · intro ha
    have e2 : bits (inS p) n = p := bits_of h.pr.1 h.pr.2
    rw [← e2]
    refine bits_congr fun i hi => ?_
    cases hq : inS q i
    · rw [h.off hi hq]; simp
    · rw [ha i hi hq]; simp
theorem or_bit {p : Int} (hp : 0 ≤ p ∧ p < 2 ^ n) (hn : n ≤ 60) {i : Nat} (hi : i < n) (h : inS p i = false) : bitI .or .i64 p (2 ^ i) = p + 2 ^ i := by
  conv => lhs; rw [← bits_of hp.1 hp.2, ← bits_one hi]
  rw [add_bits hp hi h]
  exact bitsI_or _ _ hn

def tellK (n : Nat) (f : Nat → Int) (any : Bool) (S : List Int) (q p : Int) : Nat × Int := if any = true ∧ p ≠ 0 then (0, 0) else planQ n f any (agQ n S q p) q
def doneK (n : Nat) (any : Bool) (S : List Int) (q p : Int) : Prop := agQ n S q p = [] ∨ (any = true ∧ p ≠ 0) ∨ (any = false ∧ (agQ n S q p).length = 1)
instance (any : Bool) (S : List Int) (q p : Int) : Decidable (doneK n any S q p) := inferInstanceAs (Decidable (_ ∨ _ ∨ _))
theorem tellK_done {f : Nat → Int} {any : Bool} {S : List Int} {q p : Int} (h : Kn n q p) (hd : doneK n any S q p) : tellK n f any S q p = (0, 0) := by
  unfold tellK
  rcases hd with hd | hd | ⟨h1, h2⟩
  · split
    · rfl
    · exact planQ_done h.qr (.inl hd)
  · rw [if_pos hd]
  · rw [if_neg (by simp [h1])]
    exact planQ_done h.qr (.inr ⟨h2, h1⟩)
theorem tellK_nonneg {f : Nat → Int} (hf : ∀ i, i < n → 0 ≤ f i) {any : Bool} {S : List Int} {q p : Int} : 0 ≤ (tellK n f any S q p).2 := by
  unfold tellK
  split
  · exact Int.le_refl _
  · exact planQ_nonneg hf _ _ _
theorem lk_pos {p : Int} (hp : 0 ≤ p) (i : Nat) : lk p i true ≠ 0 := by
  have : (0 : Int) < 2 ^ i := by have := pow_cast i; have := pow_pos' i; omega
  unfold lk; simp; omega
theorem tellK_step {f : Nat → Int} (hf : ∀ i, i < n → 0 ≤ f i) {any : Bool} {S : List Int} {q p : Int} (h : Kn n q p) (hd : ¬ doneK n any S q p) :
    tellK n f any S q p = (bestR (fun i => f i + max (tellK n f any S (q + 2 ^ i) (lk p i true)).2 (tellK n f any S (q + 2 ^ i) (lk p i false)).2) (un n q)).getD (0, 0) := by
  have h0 : ¬ (any = true ∧ p ≠ 0) := fun x => hd (.inr (.inl x))
  have hD : ¬ doneL any (agQ n S q p) := by
    rintro (x | ⟨x, y⟩)
    · exact hd (.inl x)
    · exact hd (.inr (.inr ⟨y, x⟩))
  conv => lhs; unfold tellK
  rw [if_neg h0, planQ_eq h.qr, if_neg hD]
  congr 1
  refine bestR_congr fun i hi => ?_
  obtain ⟨hi1, hi2⟩ := mem_un.1 hi
  have hip := h.off hi1 hi2
  unfold behind
  congr 1
  cases any with
  | true =>
    have hp0 : p = 0 := Classical.byContradiction fun x => h0 ⟨rfl, x⟩
    rw [if_pos rfl]
    have e1 : tellK n f true S (q + 2 ^ i) (lk p i true) = (0, 0) := by unfold tellK; rw [if_pos ⟨rfl, lk_pos h.pr.1 i⟩]
    have e2 : tellK n f true S (q + 2 ^ i) (lk p i false) = planQ n f true (wl (agQ n S q p) i false) (q + 2 ^ i) := by
      unfold tellK
      rw [if_neg (by simp [lk, hp0]), agQ_wl h.qr h.pr hi1 hi2 hip false]
    rw [e1, e2]
    have := planQ_nonneg hf (any := true) (un n (q + 2 ^ i)).length (wl (agQ n S q p) i false) (q + 2 ^ i)
    unfold planQ
    simp only
    omega
  | false =>
    have e : ∀ b, tellK n f false S (q + 2 ^ i) (lk p i b) = planQ n f false (wl (agQ n S q p) i b) (q + 2 ^ i) := fun b => by
      unfold tellK
      rw [if_neg (by simp), agQ_wl h.qr h.pr hi1 hi2 hip b]
    rw [e, e, if_neg (by simp)]
    exact Int.max_comm _ _
end Rk
end Go.Cw
end

/- Orders as lists of numbers; what an order costs, by what is known; seams that tell all, by what they tell. -/
section
set_option maxRecDepth 100000
set_option linter.unusedSimpArgs false
namespace Go.Cw
open Go

namespace Rk
variable {n : Nat}
def IsOrd (n : Nat) (l : List Int) : Prop := l.length = n ∧ l.Nodup ∧ ∀ x ∈ l, 0 ≤ x ∧ x < n
instance (n : Nat) (l : List Int) : Decidable (IsOrd n l) := inferInstanceAs (Decidable (_ ∧ _ ∧ _))
def toN (l : List Int) : List Nat := l.map Int.toNat
def toI (l : List Nat) : List Int := l.map fun (i : Nat) => (i : Int)
theorem betO_def (g : List Nat → Int) (b : Option (List Nat × Int)) (o : List Nat) : betO g b o = match b with | none => some (o, g o) | some c => if g o < c.2 then some (o, g o) else some c := by
  cases b <;> rfl
theorem cost_bound {f : Nat → Int} {M : Int} (hM : 0 ≤ M) : ∀ (o : List Nat) (_ : ∀ i ∈ o, 0 ≤ f i ∧ f i ≤ M) (l : List Int) (s : Int), costL f o l s ≤ o.length * M
  | [], _, _, _ => by simp [costL]
  | i :: o, h, l, s => by
    have ih := cost_bound hM o (fun j hj => h j (by simp [hj])) (wl l i (inS s i)) s
    have h1 := h i (by simp)
    have h2 : (0 : Int) ≤ o.length * M := Int.mul_nonneg (by omega) hM
    have e : ((i :: o).length : Int) * M = o.length * M + M := by rw [List.length_cons, Int.natCast_add, Int.add_mul]; simp
    rw [e]
    simp only [costL]
    split <;> omega
theorem plan_bound {f : Nat → Int} {M : Int} (hf : ∀ i, i < n → 0 ≤ f i ∧ f i ≤ M) (hM : 0 ≤ M) {any : Bool} : ∀ (k : Nat) (l : List Int) (q : Int), (plan n f any k l q).2 ≤ k * M
  | 0, _, _ => by simp [plan]
  | k + 1, l, q => by
    have e : ((k + 1 : Nat) : Int) * M = k * M + M := by rw [Int.natCast_add, Int.add_mul]; simp
    have h2 : (0 : Int) ≤ k * M := Int.mul_nonneg (by omega) hM
    rw [e]
    simp only [plan]
    split
    · show (0 : Int) ≤ _; omega
    · cases hb : bestR (behind any f (fun l q => (plan n f any k l q).2) l q) (un n q) with
      | none => show (0 : Int) ≤ _; omega
      | some b =>
        obtain ⟨h1, h3, _⟩ := bestR_spec (un_lt n q) hb
        have h4 := hf b.1 (mem_un.1 h1).1
        have h5 := plan_bound hf hM (any := any) k (wl l b.1 false) (q + 2 ^ b.1)
        have h6 := plan_bound hf hM (any := any) k (wl l b.1 true) (q + 2 ^ b.1)
        show b.2 ≤ _
        rw [h3]
        unfold behind
        simp only
        split <;> omega
theorem un_len_le (n : Nat) (q : Int) : (un n q).length ≤ n := by
  unfold un
  have := List.length_filter_le (fun i => !inS q i) (List.range n)
  rw [List.length_range] at this
  exact this
theorem planQ_bound {f : Nat → Int} {M : Int} (hf : ∀ i, i < n → 0 ≤ f i ∧ f i ≤ M) (hM : 0 ≤ M) {any : Bool} (l : List Int) (q : Int) : (planQ n f any l q).2 ≤ n * M := by
  have h1 := plan_bound hf hM (any := any) (un n q).length l q
  have h2 := un_len_le n q
  have h3 : ((un n q).length : Int) * M ≤ n * M := Int.mul_le_mul_of_nonneg_right (by omega) hM
  unfold planQ
  omega
theorem lenS_bound {f : Nat → Int} {M : Int} : ∀ {n : Nat}, (∀ i, i < n → 0 ≤ f i ∧ f i ≤ M) → 0 ≤ M → ∀ q, lenS f n q ≤ n * M
  | 0, _, _, _ => by simp [lenS]
  | n + 1, hf, hM, q => by
    have h1 := lenS_bound (n := n) (fun i hi => hf i (by omega)) hM q
    have h2 := hf n (by omega)
    have e : ((n + 1 : Nat) : Int) * M = n * M + M := by rw [Int.natCast_add, Int.add_mul]; simp
    rw [e]
    simp only [lenS]
    split <;> omega
end Rk
end Go.Cw
end

/- What was found, and what is known by it. -/
section
set_option maxRecDepth 100000
set_option linter.unusedSimpArgs false
namespace Go.Cw
open Go

namespace Rk
variable {n : Nat}
structure Fnd (n : Nat) (l : List (Int × Bool)) : Prop where
  rng : ∀ x ∈ l, 0 ≤ x.1 ∧ x.1 < n
  once : (l.map Prod.fst).Nodup
theorem Fnd.nil : Fnd n [] := ⟨by simp, by simp⟩
theorem Fnd.push {l : List (Int × Bool)} (h : Fnd n l) {x : Int × Bool} (h1 : 0 ≤ x.1 ∧ x.1 < n) (h2 : x.1 ∉ l.map Prod.fst) : Fnd n (l ++ [x]) := by
  refine ⟨fun y hy => ?_, ?_⟩
  · rcases List.mem_append.1 hy with hy | hy
    · exact h.rng y hy
    · simp at hy; subst hy; exact h1
  · rw [List.map_append, List.nodup_append]
    refine ⟨h.once, by simp, fun a ha b hb e => ?_⟩
    simp at hb; subst hb; subst e; exact h2 ha
theorem Fnd.init {l : List (Int × Bool)} {x : Int × Bool} (h : Fnd n (l ++ [x])) : Fnd n l ∧ (0 ≤ x.1 ∧ x.1 < n) ∧ x.1 ∉ l.map Prod.fst := by
  refine ⟨⟨fun y hy => h.rng y (by simp [hy]), ?_⟩, h.rng x (by simp), fun hx => ?_⟩
  · have := h.once; rw [List.map_append, List.nodup_append] at this; exact this.1
  · have := h.once; rw [List.map_append, List.nodup_append] at this
    exact this.2.2 _ hx x.1 (by simp) rfl
def fq (l : List (Int × Bool)) : Int := l.foldl (fun q x => q + 2 ^ x.1.toNat) 0
def fp (l : List (Int × Bool)) : Int := l.foldl (fun p x => lk p x.1.toNat x.2) 0
theorem fq_push (l : List (Int × Bool)) (x : Int × Bool) : fq (l ++ [x]) = fq l + 2 ^ x.1.toNat := by simp [fq]
theorem fp_push (l : List (Int × Bool)) (x : Int × Bool) : fp (l ++ [x]) = lk (fp l) x.1.toNat x.2 := by simp [fp]
def agB (l : List (Int × Bool)) (s : Int) : Bool := l.all fun x => inS s x.1.toNat == x.2
theorem agB_iff {l : List (Int × Bool)} {s : Int} : agB l s = true ↔ ∀ x ∈ l, inS s x.1.toNat = x.2 := by
  unfold agB; rw [List.all_eq_true]
  exact ⟨fun h x hx => by simpa using h x hx, fun h x hx => by simpa using h x hx⟩
theorem fnd_kn {l : List (Int × Bool)} (h : Fnd n l) : Kn n (fq l) (fp l) ∧ (∀ i : Nat, i < n → inS (fq l) i = decide ((i : Int) ∈ l.map Prod.fst)) ∧ ∀ s : Int, same n (fq l) s (fp l) = agB l s := by
  induction l using push_ind with
  | h0 =>
    refine ⟨Kn.zero, fun i _ => by simp [fq, inS_zero], fun s => ?_⟩
    rw [Bool.eq_iff_iff, same_iff, agB_iff]
    exact ⟨fun _ x hx => by simp at hx, fun _ i _ hq => by simp [fq, inS_zero] at hq⟩
  | h1 l x ih =>
    obtain ⟨h1, h2, h3⟩ := h.init
    obtain ⟨hk, hm, ha⟩ := ih h1
    have hx : x.1.toNat < n := by omega
    have hq : inS (fq l) x.1.toNat = false := by
      rw [hm _ hx, Int.toNat_of_nonneg h2.1]
      exact decide_eq_false h3
    have hp := hk.off hx hq
    rw [fq_push, fp_push]
    refine ⟨hk.step hx hq x.2, fun i hi => ?_, fun s => ?_⟩
    · rw [inS_add hk.qr hx hq hi, hm i hi, Bool.eq_iff_iff]
      simp only [Bool.or_eq_true, decide_eq_true_eq, List.map_append, List.mem_append, List.map_cons, List.map_nil, List.mem_singleton]
      constructor
      · rintro (h | h)
        · exact .inl h
        · right; omega
      · rintro (h | h)
        · exact .inl h
        · right; omega
    · have e : ∀ s, same n (fq l + 2 ^ x.1.toNat) s (lk (fp l) x.1.toNat x.2) = ((inS s x.1.toNat == x.2) && same n (fq l) s (fp l)) := fun s => by
        have e1 := agQ_wl (S := [s]) hk.qr hk.pr hx hq hp x.2
        have e2 : s ∈ agQ n [s] (fq l + 2 ^ x.1.toNat) (lk (fp l) x.1.toNat x.2) ↔ s ∈ wl (agQ n [s] (fq l) (fp l)) x.1.toNat x.2 := by rw [e1]
        rw [mem_agQ, mem_wl, mem_agQ] at e2
        rw [Bool.eq_iff_iff, Bool.and_eq_true, beq_iff_eq]
        simpa [and_comm] using e2
      rw [e, ha, Bool.and_comm]
      unfold agB
      rw [List.all_append]
      simp
def agF (S : List Int) (l : List (Int × Bool)) : List Int := S.filter (agB l)
theorem agF_eq {S : List Int} {l : List (Int × Bool)} (h : Fnd n l) : agF S l = agQ n S (fq l) (fp l) := by
  unfold agF agQ
  exact List.filter_congr fun s _ => ((fnd_kn h).2.2 s).symm
theorem mem_agF {S : List Int} {l : List (Int × Bool)} {s : Int} : s ∈ agF S l ↔ s ∈ S ∧ ∀ x ∈ l, inS s x.1.toNat = x.2 := by
  unfold agF; rw [List.mem_filter, agB_iff]
theorem agF_sub (S : List Int) (l : List (Int × Bool)) : (agF S l).Sublist S := List.filter_sublist
theorem agF_push (S : List Int) (l : List (Int × Bool)) (x : Int × Bool) : agF S (l ++ [x]) = wl (agF S l) x.1.toNat x.2 := by
  unfold agF wl
  rw [List.filter_filter]
  refine List.filter_congr fun s _ => ?_
  unfold agB
  rw [List.all_append, Bool.and_comm]
  simp
theorem fnd_some {S : List Int} (hS : ∀ s ∈ S, 0 ≤ s ∧ s < 2 ^ n) (hl : S.Pairwise (· < ·)) {l : List (Int × Bool)} (h : Fnd n l) : Some' n (agF S l) (fq l) := by
  obtain ⟨h1, h2, _⟩ := fnd_kn h
  refine ⟨fun s hs => hS s (mem_agF.1 hs).1, hl.sublist (agF_sub S l), fun s hs t ht i hi hq => ?_, h1.qr⟩
  rw [h2 i hi, decide_eq_true_eq] at hq
  obtain ⟨x, hx, hxi⟩ := List.mem_map.1 hq
  have e : x.1.toNat = i := by omega
  have a := (mem_agF.1 hs).2 x hx
  have b := (mem_agF.1 ht).2 x hx
  rw [e] at a b
  rw [a, b]
def fnds (n : Nat) (q t : Int) : List (Int × Bool) := (els n q).map fun (i : Nat) => ((i : Int), inS t i)
end Rk
end Go.Cw
end

/- Raking by what is told next, round by round; what is left behind one seam more. -/
section
set_option maxRecDepth 100000
set_option linter.unusedSimpArgs false
namespace Go.Cw
open Go

namespace Rk
variable {n : Nat}
structure Fol (n : Nat) (f : Nat → Int) (S : List Int) (t : Int) (l : List (Int × Bool)) (left : Int) : Prop where
  fnd : Fnd n l
  tru : ∀ x ∈ l, x.2 = inS t x.1.toNat
  le : (planQ n f false (agF S l) (fq l)).2 ≤ left
  sum : lenS f n (fq l) + left ≤ (planQ n f false S 0).2
theorem Fol.start {f : Nat → Int} {S : List Int} {t : Int} : Fol n f S t [] (planQ n f false S 0).2 := by
  have e : agF S [] = S := by unfold agF agB; simp
  refine ⟨Fnd.nil, by simp, ?_, ?_⟩
  · rw [e]; exact Int.le_refl _
  · show lenS f n 0 + _ ≤ _
    rw [lenS_zero]; omega
section
variable {f : Nat → Int} {S : List Int} {t : Int} {l : List (Int × Bool)} {left : Int}
theorem Fol.mem (h : Fol n f S t l left) (ht : t ∈ S) : t ∈ agF S l := mem_agF.2 ⟨ht, fun x hx => (h.tru x hx).symm⟩
theorem Fol.two (h : Fol n f S t l left) (ht : t ∈ S) (h1 : (agF S l).length ≠ 1) : 2 ≤ (agF S l).length := by
  have := List.length_pos_of_mem (h.mem ht)
  omega
theorem Fol.one (h : Fol n f S t l left) (ht : t ∈ S) (h1 : (agF S l).length = 1) : agF S l = [t] := by
  obtain ⟨a, ha⟩ := List.length_eq_one_iff.1 h1
  have := h.mem ht
  rw [ha] at this ⊢
  simp at this
  rw [this]
theorem Fol.step (hf : ∀ i, i < n → 1 ≤ f i) (hS : ∀ s ∈ S, 0 ≤ s ∧ s < 2 ^ n) (hl : S.Pairwise (· < ·)) (h : Fol n f S t l left) (ht : t ∈ S) (h1 : (agF S l).length ≠ 1) {i : Nat} (hi : i = (planQ n f false (agF S l) (fq l)).1) :
    i < n ∧ inS (fq l) i = false ∧ f i ≤ (planQ n f false (agF S l) (fq l)).2 ∧ fq (l ++ [((i : Int), inS t i)]) = fq l + 2 ^ i ∧ Fol n f S t (l ++ [((i : Int), inS t i)]) ((planQ n f false (agF S l) (fq l)).2 - f i) := by
  have hs := fnd_some hS hl h.fnd
  obtain ⟨h2, h3⟩ := follow (f := f) hs (h.two ht h1) hi (inS t i)
  obtain ⟨h4, h5⟩ := mem_un.1 h2
  have e1 : fq (l ++ [((i : Int), inS t i)]) = fq l + 2 ^ i := by rw [fq_push]; simp
  have e2 : agF S (l ++ [((i : Int), inS t i)]) = wl (agF S l) i (inS t i) := by rw [agF_push]; simp
  have hnn := planQ_nonneg (n := n) (f := f) (fun i hi => by have := hf i hi; omega) (any := false) (un n (fq l + 2 ^ i)).length (wl (agF S l) i (inS t i)) (fq l + 2 ^ i)
  have hnn' : 0 ≤ (planQ n f false (wl (agF S l) i (inS t i)) (fq l + 2 ^ i)).2 := hnn
  refine ⟨h4, h5, by omega, e1, ?_⟩
  refine ⟨h.fnd.push ⟨by simp, by simp; omega⟩ ?_, fun x hx => ?_, ?_, ?_⟩
  · have := (fnd_kn h.fnd).2.1 i h4
    rw [h5] at this
    simpa using this.symm
  · rcases List.mem_append.1 hx with hx | hx
    · exact h.tru x hx
    · simp at hx; subst hx; simp
  · rw [e1, e2]; exact h3
  · rw [e1, lenS_add hs.q h2]
    have := h.sum
    have := h.le
    omega
theorem Fol.full (hS : ∀ s ∈ S, 0 ≤ s ∧ s < 2 ^ n) (hl : S.Pairwise (· < ·)) (h : Fol n f S t l left) (ht : t ∈ S) (hn : n ≤ l.length) : (agF S l).length = 1 := by
  have hs := fnd_some hS hl h.fnd
  have hu : un n (fq l) = [] := by
    refine Classical.byContradiction fun hc => ?_
    obtain ⟨i, hi⟩ := List.exists_mem_of_ne_nil _ hc
    obtain ⟨h1, h2⟩ := mem_un.1 hi
    have hnot : ((i : Nat) : Int) ∉ l.map Prod.fst := by
      have := (fnd_kn h.fnd).2.1 i h1
      rw [h2] at this
      simpa using this.symm
    have a := nodup_len h.fnd.once (m := toI ((List.range n).filter fun j => !decide (j = i))) fun y hy => by
      obtain ⟨x, hx, rfl⟩ := List.mem_map.1 hy
      have := h.fnd.rng x hx
      refine List.mem_map.2 ⟨x.1.toNat, ?_, by omega⟩
      rw [List.mem_filter]
      refine ⟨List.mem_range.2 (by omega), ?_⟩
      have : x.1.toNat ≠ i := fun e => hnot (by rw [← e, Int.toNat_of_nonneg (by omega)]; exact hy)
      simpa using this
    have b := erase_len (l := List.range n) List.pairwise_lt_range (List.mem_range.2 h1)
    rw [List.length_range] at b
    unfold toI at a
    rw [List.length_map, List.length_map] at a
    omega
  have := one_left hs hu
  have := List.length_pos_of_mem (h.mem ht)
  omega
end
def leftB (n : Nat) (f : Nat → Int) (S : List Int) (l : List (Int × Bool)) (i : Nat) (b : Bool) : Int := if 2 ≤ (agF S (l ++ [((i : Int), b)])).length then (planQ n f false (agF S (l ++ [((i : Int), b)])) (fq (l ++ [((i : Int), b)]))).2 else 0
end Rk
end Go.Cw
end

/- Works: sorted by their days, what was before stays before; the last work on each seam. -/
section
set_option maxRecDepth 100000
set_option linter.unusedSimpArgs false
namespace Go.Cw
open Go

structure Wrk where
  s : Int
  d : Int
  g : Int
deriving DecidableEq

namespace Ag
theorem push_ind {α : Type} {p : List α → Prop} (h0 : p []) (h1 : ∀ l x, p l → p (l ++ [x])) (l : List α) : p l := by
  have : ∀ l : List α, p l.reverse := fun l => by
    induction l with
    | nil => exact h0
    | cons x l ih => rw [List.reverse_cons]; exact h1 _ _ ih
  have h := this l.reverse
  rwa [List.reverse_reverse] at h
def insW (l : List Wrk) (x : Wrk) : List Wrk := l.takeWhile (fun y => decide (y.d ≤ x.d)) ++ x :: l.dropWhile (fun y => decide (y.d ≤ x.d))
def sortW (l : List Wrk) : List Wrk := l.foldl insW []
theorem sortW_push (l : List Wrk) (x : Wrk) : sortW (l ++ [x]) = insW (sortW l) x := by simp [sortW]
theorem insW_perm (l : List Wrk) (x : Wrk) : (insW l x).Perm (l ++ [x]) := by
  unfold insW
  have e : l = l.takeWhile (fun y => decide (y.d ≤ x.d)) ++ l.dropWhile (fun y => decide (y.d ≤ x.d)) := (List.takeWhile_append_dropWhile).symm
  conv => rhs; rw [e]
  rw [List.append_assoc]
  refine List.Perm.append_left _ ?_
  exact (List.perm_append_singleton x _).symm
theorem sortW_perm (l : List Wrk) : (sortW l).Perm l := by
  induction l using push_ind with
  | h0 => exact List.Perm.refl _
  | h1 l x ih =>
    rw [sortW_push]
    exact (insW_perm _ _).trans (ih.append_right _)
def SortedW (l : List Wrk) : Prop := l.Pairwise fun a b => a.d ≤ b.d
theorem drop_late {l : List Wrk} (h : SortedW l) (x : Wrk) : ∀ y ∈ l.dropWhile (fun y => decide (y.d ≤ x.d)), x.d < y.d := by
  induction l with
  | nil => simp
  | cons a l ih =>
    unfold SortedW at h
    rw [List.pairwise_cons] at h
    rw [List.dropWhile_cons]
    by_cases ha : a.d ≤ x.d
    · rw [if_pos (by simpa using ha)]; exact ih h.2
    · rw [if_neg (by simpa using ha)]
      intro y hy
      rcases List.mem_cons.1 hy with rfl | hy
      · omega
      · have := h.1 y hy; omega
theorem take_early {l : List Wrk} (x : Wrk) : ∀ y ∈ l.takeWhile (fun y => decide (y.d ≤ x.d)), y.d ≤ x.d := by
  induction l with
  | nil => simp
  | cons a l ih =>
    rw [List.takeWhile_cons]
    by_cases ha : a.d ≤ x.d
    · rw [if_pos (by simpa using ha)]
      intro y hy
      rcases List.mem_cons.1 hy with rfl | hy
      · exact ha
      · exact ih y hy
    · rw [if_neg (by simpa using ha)]; simp
theorem insW_sorted {l : List Wrk} (h : SortedW l) (x : Wrk) : SortedW (insW l x) := by
  have h1 : SortedW (l.takeWhile (fun y => decide (y.d ≤ x.d))) := h.sublist (List.takeWhile_sublist _)
  have h2 : SortedW (l.dropWhile (fun y => decide (y.d ≤ x.d))) := h.sublist (List.dropWhile_sublist _)
  unfold insW SortedW
  rw [List.pairwise_append, List.pairwise_cons]
  refine ⟨h1, ⟨fun y hy => ?_, h2⟩, fun a ha b hb => ?_⟩
  · have := drop_late h x y hy; omega
  · have h3 := take_early x a ha
    rcases List.mem_cons.1 hb with rfl | hb
    · exact h3
    · have := drop_late h x b hb; omega
theorem sortW_sorted (l : List Wrk) : SortedW (sortW l) := by
  induction l using push_ind with
  | h0 => exact List.Pairwise.nil
  | h1 l x ih => rw [sortW_push]; exact insW_sorted ih x
theorem insW_at {l : List Wrk} (x : Wrk) {j : Nat} (hj : j ≤ l.length) (h1 : ∀ y ∈ l.drop j, x.d < y.d) (h0 : ∀ y ∈ l.take j, y.d ≤ x.d) : insW l x = l.take j ++ x :: l.drop j := by
  have e : l = l.take j ++ l.drop j := (List.take_append_drop j l).symm
  have e1 : (l.take j ++ l.drop j).takeWhile (fun y => decide (y.d ≤ x.d)) = l.take j := by
    rw [List.takeWhile_append_of_pos fun a ha => by simpa using h0 a ha]
    cases hd : l.drop j with
    | nil => simp
    | cons b r =>
      rw [List.takeWhile_cons, if_neg]
      · simp
      · have := h1 b (by rw [hd]; simp)
        simp; omega
  have e2 : (l.take j ++ l.drop j).dropWhile (fun y => decide (y.d ≤ x.d)) = l.drop j := by
    rw [List.dropWhile_append_of_pos fun a ha => by simpa using h0 a ha]
    cases hd : l.drop j with
    | nil => simp
    | cons b r =>
      rw [List.dropWhile_cons, if_neg]
      have := h1 b (by rw [hd]; simp)
      simp; omega
  unfold insW
  conv => lhs; rw [e]
  rw [e1, e2]

def betW (i : Int) (b : Option Wrk) (w : Wrk) : Option Wrk := match b with
  | none => if w.s = i then some w else none
  | some v => if w.s = i ∧ v.d ≤ w.d then some w else some v
def lastW (l : List Wrk) (i : Int) : Option Wrk := l.foldl (betW i) none
theorem lastW_push (l : List Wrk) (w : Wrk) (i : Int) : lastW (l ++ [w]) i = betW i (lastW l i) w := by simp [lastW]
theorem lastW_nil (i : Int) : lastW [] i = none := rfl
theorem lastW_none {l : List Wrk} {i : Int} : lastW l i = none ↔ ∀ w ∈ l, w.s ≠ i := by
  induction l using push_ind with
  | h0 => simp [lastW_nil]
  | h1 l x ih =>
    rw [lastW_push]
    cases hl : lastW l i with
    | none =>
      have h := ih.1 hl
      simp only [betW]
      constructor
      · intro hn w hw
        rcases List.mem_append.1 hw with hw | hw
        · exact h w hw
        · simp at hw; subst hw
          intro e; rw [if_pos e] at hn; cases hn
      · intro ha
        rw [if_neg (ha x (by simp))]
    | some v =>
      simp only [betW]
      constructor
      · intro hn; split at hn <;> cases hn
      · intro ha
        have := ih.2 fun w hw => ha w (by simp [hw])
        rw [this] at hl; cases hl
theorem lastW_spec {l : List Wrk} {i : Int} {v : Wrk} (h : lastW l i = some v) : v ∈ l ∧ v.s = i ∧ ∀ w ∈ l, w.s = i → w.d ≤ v.d := by
  induction l using push_ind generalizing v with
  | h0 => simp [lastW_nil] at h
  | h1 l x ih =>
    rw [lastW_push] at h
    cases hl : lastW l i with
    | none =>
      rw [hl] at h
      simp only [betW] at h
      split at h
      · rename_i hx
        simp only [Option.some.injEq] at h; subst h
        refine ⟨by simp, hx, fun w hw hi => ?_⟩
        rcases List.mem_append.1 hw with hw | hw
        · exact absurd hi (lastW_none.1 hl w hw)
        · simp at hw; subst hw; exact Int.le_refl _
      · cases h
    | some u =>
      obtain ⟨h1, h2, h3⟩ := ih hl
      rw [hl] at h
      simp only [betW] at h
      split at h
      · rename_i hx
        simp only [Option.some.injEq] at h; subst h
        refine ⟨by simp, hx.1, fun w hw hi => ?_⟩
        rcases List.mem_append.1 hw with hw | hw
        · have := h3 w hw hi; have := hx.2; omega
        · simp at hw; subst hw; exact Int.le_refl _
      · rename_i hx
        simp only [Option.some.injEq] at h; subst h
        refine ⟨by simp [h1], h2, fun w hw hi => ?_⟩
        rcases List.mem_append.1 hw with hw | hw
        · exact h3 w hw hi
        · simp at hw; subst hw
          refine Classical.byContradiction fun hc => hx ⟨hi, by omega⟩
theorem last_sort (l : List Wrk) (i : Int) : ((sortW l).filter fun w => decide (w.s = i)).getLast? = lastW l i := by
  induction l using push_ind with
  | h0 => rfl
  | h1 l x ih =>
    rw [sortW_push, lastW_push]
    have hs := sortW_sorted l
    have hsp : (sortW l).filter (fun w => decide (w.s = i)) = ((sortW l).takeWhile (fun y => decide (y.d ≤ x.d))).filter (fun w => decide (w.s = i)) ++ ((sortW l).dropWhile (fun y => decide (y.d ≤ x.d))).filter (fun w => decide (w.s = i)) := by
      rw [← List.filter_append, List.takeWhile_append_dropWhile]
    unfold insW
    rw [List.filter_append]
    rw [hsp, List.getLast?_append] at ih
    by_cases hx : x.s = i
    · rw [List.filter_cons_of_pos (by simpa using hx), List.getLast?_append, List.getLast?_cons]
      cases hd : (((sortW l).dropWhile (fun y => decide (y.d ≤ x.d))).filter (fun w => decide (w.s = i))).getLast? with
      | some v =>
        rw [hd] at ih
        have hv := List.mem_of_getLast? hd
        rw [List.mem_filter] at hv
        have hlate := drop_late hs x v hv.1
        simp only [Option.some_or] at ih
        rw [← ih]
        simp only [betW, Option.getD_some, Option.some_or]
        rw [if_neg (by omega)]
      | none =>
        rw [hd] at ih
        simp only [Option.none_or] at ih
        rw [← ih]
        simp only [Option.getD_none, Option.some_or]
        cases ht : (((sortW l).takeWhile (fun y => decide (y.d ≤ x.d))).filter (fun w => decide (w.s = i))).getLast? with
        | none => simp [betW, hx]
        | some u =>
          have hu := List.mem_of_getLast? ht
          rw [List.mem_filter] at hu
          have := take_early x u hu.1
          simp [betW, hx, this]
    · rw [List.filter_cons_of_neg (by simpa using hx), List.getLast?_append, ih]
      cases hl : lastW l i with
      | none => simp [betW, hx]
      | some v => simp [betW, hx]

end Ag
end Go.Cw
end

/- What is told of all sets of seams that can leak: spans and verdicts; who pays. -/
section
set_option maxRecDepth 100000
set_option linter.unusedSimpArgs false
namespace Go.Cw
open Go

namespace Ag
def lenB (f : Nat → Int) : Nat → (Nat → Bool) → Int
  | 0, _ => 0
  | n + 1, p => lenB f n p + if p n then f n else 0
theorem lenB_congr {f : Nat → Int} : ∀ {n : Nat} {p q : Nat → Bool}, (∀ i, i < n → p i = q i) → lenB f n p = lenB f n q
  | 0, _, _, _ => rfl
  | n + 1, p, q, h => by simp only [lenB]; rw [lenB_congr fun i hi => h i (by omega), h n (by omega)]
theorem lenB_nonneg {f : Nat → Int} : ∀ {n : Nat} {p : Nat → Bool}, (∀ i, i < n → 0 ≤ f i) → 0 ≤ lenB f n p
  | 0, _, _ => Int.le_refl _
  | n + 1, p, h => by
    have h1 := lenB_nonneg (n := n) (p := p) fun i hi => h i (by omega)
    have h2 := h n (by omega)
    simp only [lenB]; split <;> omega
theorem lenB_mono {f : Nat → Int} : ∀ {n : Nat} {p q : Nat → Bool}, (∀ i, i < n → 0 ≤ f i) → (∀ i, i < n → p i = true → q i = true) → lenB f n p ≤ lenB f n q
  | 0, _, _, _, _ => Int.le_refl _
  | n + 1, p, q, hf, h => by
    have h1 := lenB_mono (n := n) (fun i hi => hf i (by omega)) fun i hi => h i (by omega)
    have h2 := hf n (by omega)
    have h3 := h n (by omega)
    simp only [lenB]
    cases hp : p n
    · simp; split <;> omega
    · rw [h3 hp]; simp; exact h1
theorem lenB_zero {f : Nat → Int} : ∀ {n : Nat} {p : Nat → Bool}, (∀ i, i < n → p i = false) → lenB f n p = 0
  | 0, _, _ => rfl
  | n + 1, p, h => by simp only [lenB]; rw [lenB_zero fun i hi => h i (by omega), h n (by omega)]; rfl
theorem lenB_pos {f : Nat → Int} : ∀ {n : Nat} {p : Nat → Bool}, (∀ i, i < n → 1 ≤ f i) → (0 < lenB f n p ↔ ∃ i, i < n ∧ p i = true)
  | 0, _, _ => by simp [lenB]
  | n + 1, p, hf => by
    have ih := lenB_pos (n := n) (p := p) fun i hi => hf i (by omega)
    have h0 := lenB_nonneg (n := n) (p := p) (f := f) fun i hi => by have := hf i (by omega); omega
    have h1 := hf n (by omega)
    simp only [lenB]
    constructor
    · intro h
      by_cases hp : p n = true
      · exact ⟨n, by omega, hp⟩
      · rw [if_neg hp] at h
        obtain ⟨i, h2, h3⟩ := ih.1 (by omega)
        exact ⟨i, by omega, h3⟩
    · rintro ⟨i, hi, hp⟩
      by_cases e : i = n
      · subst e; rw [if_pos hp]; omega
      · have := ih.2 ⟨i, by omega, hp⟩
        split <;> omega
theorem lenB_split {f : Nat → Int} : ∀ {n : Nat} {p q r : Nat → Bool}, (∀ i, i < n → p i = (q i || r i) ∧ ¬ (q i = true ∧ r i = true)) → lenB f n p = lenB f n q + lenB f n r
  | 0, _, _, _, _ => rfl
  | n + 1, p, q, r, h => by
    obtain ⟨h1, h2⟩ := h n (by omega)
    simp only [lenB]
    rw [lenB_split fun i hi => h i (by omega), h1]
    cases hq : q n <;> cases hr : r n
    · simp
    · simp; omega
    · simp; omega
    · exact absurd ⟨hq, hr⟩ h2
theorem lenB_bound {f : Nat → Int} {M : Int} : ∀ {n : Nat} {p : Nat → Bool}, (∀ i, i < n → 0 ≤ f i ∧ f i ≤ M) → 0 ≤ M → lenB f n p ≤ n * M
  | 0, _, _, _ => by simp [lenB]
  | n + 1, p, hf, hM => by
    have h1 := lenB_bound (n := n) (p := p) (fun i hi => hf i (by omega)) hM
    have h2 := hf n (by omega)
    have e : ((n + 1 : Nat) : Int) * M = n * M + M := by rw [Int.natCast_add, Int.add_mul]; simp
    rw [e]
    simp only [lenB]
    split <;> omega
theorem lenB_front {f : Nat → Int} {p : Nat → Bool} : ∀ n : Nat, lenB f (n + 1) p = (if p 0 then f 0 else 0) + lenB (fun i => f (i + 1)) n (fun i => p (i + 1))
  | 0 => by simp [lenB]
  | n + 1 => by
    rw [show lenB f (n + 1 + 1) p = lenB f (n + 1) p + if p (n + 1) then f (n + 1) else 0 from rfl, lenB_front n]
    simp only [lenB]; omega
theorem lenB_rev : ∀ (n : Nat) {f : Nat → Int} {p : Nat → Bool}, lenB (fun i => f (n - 1 - i)) n (fun i => p (n - 1 - i)) = lenB f n p
  | 0, _, _ => rfl
  | n + 1, f, p => by
    rw [lenB_front]
    have ih := lenB_rev n (f := f) (p := p)
    have e : lenB (fun i => f (n + 1 - 1 - (i + 1))) n (fun i => p (n + 1 - 1 - (i + 1))) = lenB (fun i => f (n - 1 - i)) n (fun i => p (n - 1 - i)) := by
      have e1 : (fun i => f (n + 1 - 1 - (i + 1))) = fun i => f (n - 1 - i) := funext fun i => by congr 1; omega
      have e2 : (fun i => p (n + 1 - 1 - (i + 1))) = fun i => p (n - 1 - i) := funext fun i => by congr 1; omega
      rw [e1, e2]
    rw [e, ih]
    simp only [lenB, Nat.add_sub_cancel, Nat.sub_zero]
    omega

def jst (g : Int → Int) (x : Int × Int) (s : Int) : Int × Int := (min x.1 (g s), max x.2 (g s))
def jn (g : Int → Int) : List Int → Int × Int
  | [] => (0, 0)
  | a :: l => l.foldl (jst g) (g a, g a)
theorem jn_fold (g : Int → Int) (l : List Int) : ∀ x y : Int × Int, l.foldl (jst g) x = y → (∀ s ∈ l, y.1 ≤ g s ∧ g s ≤ y.2) ∧ y.1 ≤ x.1 ∧ x.2 ≤ y.2 ∧ (y.1 = x.1 ∨ ∃ s ∈ l, g s = y.1) ∧ (y.2 = x.2 ∨ ∃ s ∈ l, g s = y.2) := by
  induction l with
  | nil => rintro x y rfl; exact ⟨by simp, Int.le_refl _, Int.le_refl _, .inl rfl, .inl rfl⟩
  | cons a l ih =>
    intro x y hy
    rw [List.foldl_cons] at hy
    obtain ⟨h1, h2, h3, h4, h5⟩ := ih _ y hy
    clear hy ih
    have e1 : (jst g x a).1 = min x.1 (g a) := rfl
    have e2 : (jst g x a).2 = max x.2 (g a) := rfl
    rw [e1] at h2 h4
    rw [e2] at h3 h5
    clear e1 e2
    obtain ⟨b, hb⟩ : ∃ b, b = g a := ⟨_, rfl⟩
    obtain ⟨y1, y2⟩ := y
    obtain ⟨x1, x2⟩ := x
    simp only at h1 h2 h3 h4 h5 ⊢
    rw [← hb] at h2 h3 h4 h5
    have k1 : y1 ≤ x1 ∧ y1 ≤ b := by clear h4 h5; omega
    have k2 : x2 ≤ y2 ∧ b ≤ y2 := by clear h4 h5; omega
    have k3 : y1 = x1 ∨ y1 = b ∨ ∃ s ∈ l, g s = y1 := by
      rcases h4 with h | h
      · clear h5
        by_cases hle : x1 ≤ b
        · left; omega
        · right; left; omega
      · exact .inr (.inr h)
    have k4 : y2 = x2 ∨ y2 = b ∨ ∃ s ∈ l, g s = y2 := by
      rcases h5 with h | h
      · clear k3 h4
        by_cases hle : b ≤ x2
        · left; omega
        · right; left; omega
      · exact .inr (.inr h)
    refine ⟨fun s hs => ?_, k1.1, k2.1, ?_, ?_⟩
    · rcases List.mem_cons.1 hs with rfl | hs
      · rw [← hb]; exact ⟨k1.2, k2.2⟩
      · exact h1 s hs
    · rcases k3 with h | h | ⟨s, hs, h⟩
      · exact .inl h
      · exact .inr ⟨a, by simp, by rw [← hb]; exact h.symm⟩
      · exact .inr ⟨s, by simp [hs], h⟩
    · rcases k4 with h | h | ⟨s, hs, h⟩
      · exact .inl h
      · exact .inr ⟨a, by simp, by rw [← hb]; exact h.symm⟩
      · exact .inr ⟨s, by simp [hs], h⟩
theorem jn_spec {g : Int → Int} {l : List Int} (hl : l ≠ []) : (∀ s ∈ l, (jn g l).1 ≤ g s ∧ g s ≤ (jn g l).2) ∧ (∃ s ∈ l, g s = (jn g l).1) ∧ ∃ s ∈ l, g s = (jn g l).2 := by
  cases l with
  | nil => exact absurd rfl hl
  | cons a l =>
    obtain ⟨h1, h2, h3, h4, h5⟩ := jn_fold g l (g a, g a) _ rfl
    simp only [jn]
    refine ⟨fun s hs => ?_, ?_, ?_⟩
    · rcases List.mem_cons.1 hs with rfl | hs
      · exact ⟨h2, h3⟩
      · exact h1 s hs
    · rcases h4 with h | ⟨s, hs, h⟩
      · exact ⟨a, by simp, h.symm⟩
      · exact ⟨s, by simp [hs], h⟩
    · rcases h5 with h | ⟨s, hs, h⟩
      · exact ⟨a, by simp, h.symm⟩
      · exact ⟨s, by simp [hs], h⟩
def yesS (n : Nat) (u : Nat → Bool) (s : Int) : Bool := decide (s ≠ 0) && (List.range n).all fun i => !inS s i || u i
theorem yes_iff {n : Nat} {u : Nat → Bool} {s : Int} : yesS n u s = true ↔ s ≠ 0 ∧ ∀ i, i < n → inS s i = true → u i = true := by
  unfold yesS
  rw [Bool.and_eq_true, decide_eq_true_eq, List.all_eq_true]
  refine and_congr_right fun _ => ⟨fun h i hi hs => ?_, fun h i hi => ?_⟩
  · have := h i (List.mem_range.2 hi)
    rw [hs] at this
    simpa using this
  · have hi := List.mem_range.1 hi
    cases hs : inS s i
    · simp
    · simp [h i hi hs]
def toldV (n : Nat) (u : Nat → Bool) (S : List Int) : Int := if S.any (yesS n u) then (if S.any fun s => !yesS n u s then 1 else 2) else (if S.any fun s => !yesS n u s then 0 else 1)
theorem told_two {n : Nat} {u : Nat → Bool} {S : List Int} (hS : S ≠ []) : toldV n u S = 2 ↔ ∀ s ∈ S, yesS n u s = true := by
  unfold toldV
  obtain ⟨a, ha⟩ := List.exists_mem_of_ne_nil _ hS
  constructor
  · intro h s hs
    cases hy : yesS n u s
    · have : (S.any fun s => !yesS n u s) = true := List.any_eq_true.2 ⟨s, hs, by simp [hy]⟩
      rw [this] at h
      split at h <;> simp at h
    · rfl
  · intro h
    have h1 : S.any (yesS n u) = true := List.any_eq_true.2 ⟨a, ha, h a ha⟩
    have h2 : (S.any fun s => !yesS n u s) = false := by
      rw [List.any_eq_false]
      intro s hs; simp [h s hs]
    rw [h1, h2]; rfl
theorem told_zero {n : Nat} {u : Nat → Bool} {S : List Int} (hS : S ≠ []) : toldV n u S = 0 ↔ ∀ s ∈ S, yesS n u s = false := by
  unfold toldV
  obtain ⟨a, ha⟩ := List.exists_mem_of_ne_nil _ hS
  constructor
  · intro h s hs
    cases hy : yesS n u s
    · rfl
    · have : S.any (yesS n u) = true := List.any_eq_true.2 ⟨s, hs, hy⟩
      rw [if_pos this] at h
      split at h <;> omega
  · intro h
    have h1 : S.any (yesS n u) = false := by
      rw [List.any_eq_false]
      intro s hs; simp [h s hs]
    have h2 : (S.any fun s => !yesS n u s) = true := List.any_eq_true.2 ⟨a, ha, by simp [h a ha]⟩
    rw [h1, h2]; rfl
theorem told_rng (n : Nat) (u : Nat → Bool) (S : List Int) : 0 ≤ toldV n u S ∧ toldV n u S ≤ 2 := by
  unfold toldV
  split <;> split <;> omega
theorem told_same {n : Nat} {u : Nat → Bool} {S T : List Int} (h : ∀ s, s ∈ S ↔ s ∈ T) : toldV n u S = toldV n u T := by
  have e : ∀ p : Int → Bool, S.any p = T.any p := fun p => by
    rw [Bool.eq_iff_iff, List.any_eq_true, List.any_eq_true]
    exact ⟨fun ⟨s, hs, h1⟩ => ⟨s, (h s).1 hs, h1⟩, fun ⟨s, hs, h1⟩ => ⟨s, (h s).2 hs, h1⟩⟩
  unfold toldV
  rw [e, e]
end Ag
end Go.Cw
end

/- Promises by days; gangs; until which day; seams that are numbered otherwise. -/
section
set_option maxRecDepth 100000
set_option linter.unusedSimpArgs false
namespace Go.Cw
open Go

namespace Ag
def pr (W : List Wrk) (day : Int) (i : Nat) : Bool := match lastW W i with
  | some w => decide (day - w.d ≤ 365)
  | none => false
def ofW (W : List Wrk) (i : Nat) : Int := match lastW W i with
  | some w => w.g
  | none => -1
theorem pr_iff {W : List Wrk} {day : Int} {i : Nat} : pr W day i = true ↔ ∃ w, lastW W i = some w ∧ day - w.d ≤ 365 := by
  unfold pr
  cases h : lastW W i with
  | none => simp
  | some w => simp
def mirW (n : Nat) (W : List Wrk) : List Wrk := W.map fun w => ⟨n - 1 - w.s, w.d, w.g⟩
def mirS (n : Nat) (s : Int) : Int := bits (fun i => inS s (n - 1 - i)) n
def payS (f : Nat → Int) (n : Nat) (u : Nat → Bool) (s : Int) : Int := lenB f n fun i => inS s i && u i
def IsFirst (n : Nat) (W : List Wrk) (S : List Int) (first : Int) : Prop :=
  (∃ s ∈ S, ∃ i, i < n ∧ inS s i = true ∧ ∃ w, lastW W i = some w ∧ w.d = first) ∧ ∀ s ∈ S, ∀ i, i < n → inS s i = true → ∀ w, lastW W i = some w → first ≤ w.d
theorem pay_mono {f : Nat → Int} {n : Nat} (hf : ∀ i, i < n → 0 ≤ f i) {u v : Nat → Bool} (h : ∀ i, i < n → u i = true → v i = true) (s : Int) : payS f n u s ≤ payS f n v s := by
  refine lenB_mono hf fun i hi => ?_
  rw [Bool.and_eq_true, Bool.and_eq_true]
  exact fun ⟨a, b⟩ => ⟨a, h i hi b⟩
end Ag
end Go.Cw
end

/- The map of the last works, as it is filled; the set of promises, as it is gathered in whatever order. -/
section
set_option maxRecDepth 100000
set_option linter.unusedSimpArgs false
namespace Go.Cw
open Go

namespace Ag
def endW (p : List Wrk) (k : Int) : Option Wrk := (p.filter fun w => decide (w.s = k)).getLast?
theorem endW_push (p : List Wrk) (w : Wrk) (k : Int) : endW (p ++ [w]) k = if w.s = k then some w else endW p k := by
  unfold endW
  rw [List.filter_append]
  by_cases h : w.s = k
  · rw [if_pos h, List.filter_cons_of_pos (by simpa using h)]; simp
  · rw [if_neg h, List.filter_cons_of_neg (by simpa using h)]; simp
theorem endW_sort (W : List Wrk) (k : Int) : endW (sortW W) k = lastW W k := last_sort W k
def keysW (p : List Wrk) : List Int := p.foldl (fun M w => insK w.s M) []
theorem keysW_push (p : List Wrk) (w : Wrk) : keysW (p ++ [w]) = insK w.s (keysW p) := by simp [keysW]
theorem mem_insK' {k x : Int} {M : List Int} : x ∈ insK k M ↔ x = k ∨ x ∈ M := by
  unfold insK
  split
  · rename_i h
    constructor
    · exact .inr
    · rintro (rfl | h1)
      · exact h
      · exact h1
  · simp [or_comm]
theorem keysW_nodup (p : List Wrk) : (keysW p).Nodup := by
  induction p using push_ind with
  | h0 => simp [keysW]
  | h1 l x ih =>
    rw [keysW_push]
    unfold insK
    split
    · exact ih
    · rename_i h
      rw [List.nodup_append]
      exact ⟨ih, by simp, fun a ha b hb e => by simp at hb; subst hb; subst e; exact h ha⟩
theorem mem_keysW {p : List Wrk} {k : Int} : k ∈ keysW p ↔ ∃ w, endW p k = some w := by
  induction p using push_ind with
  | h0 => simp [keysW, endW]
  | h1 l x ih =>
    rw [keysW_push, mem_insK', endW_push, ih]
    by_cases h : x.s = k
    · rw [if_pos h]; simp [h]
    · rw [if_neg h]
      constructor
      · rintro (e | e)
        · exact absurd e.symm h
        · exact e
      · exact .inr
def gotB (W : List Wrk) (day : Int) (left : List Int) (i : Nat) : Bool := pr W day i && !decide ((i : Int) ∈ left)
theorem got_none (W : List Wrk) (day : Int) (i : Nat) : gotB W day [] i = pr W day i := by simp [gotB]
theorem got_all (W : List Wrk) (day : Int) {left : List Int} (h : ∀ k : Int, k ∈ left ↔ ∃ w, lastW W k = some w) (i : Nat) : gotB W day left i = false := by
  unfold gotB
  cases hp : pr W day i
  · rfl
  · obtain ⟨w, h1, _⟩ := pr_iff.1 hp
    have := (h i).2 ⟨w, h1⟩
    simp [this]
theorem got_step {W : List Wrk} {day : Int} {left rest : List Int} {k : Nat} (h : ∀ x : Int, x ∈ left ↔ x = k ∨ x ∈ rest) (hk : (k : Int) ∉ rest) {w : Wrk} (hw : lastW W k = some w) (i : Nat) :
    gotB W day rest i = (gotB W day left i || (decide (i = k) && decide (day - w.d ≤ 365))) := by
  unfold gotB
  by_cases e : i = k
  · subst e
    have : pr W day i = decide (day - w.d ≤ 365) := by unfold pr; rw [hw]
    have h1 := (h i).2 (.inl rfl)
    rw [this]
    simp [hk, h1]
  · have h1 : decide ((i : Int) ∈ left) = decide ((i : Int) ∈ rest) := decide_eq_decide.2 ⟨fun h2 => by
      rcases (h i).1 h2 with h3 | h3
      · omega
      · exact h3, fun h2 => (h i).2 (.inr h2)⟩
    rw [h1]
    simp [e]
def leastD (a : Int) (d : Int) : Int := if a < 0 ∨ d < a then d else a
end Ag
end Go.Cw
end
