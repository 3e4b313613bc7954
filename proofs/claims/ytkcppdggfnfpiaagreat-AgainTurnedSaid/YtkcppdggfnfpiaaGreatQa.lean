/-
  Ships that come back in plain words: works by days, promises, verdicts, spans.
-/
import Derived.Test.YtkcppdggfnfpiaaGreatLa
import Derived.Test.YtkcppdggfnfpiaaGreatAf
set_option linter.unusedVariables false
set_option linter.unusedSimpArgs false
set_option linter.unusedSectionVars false

/- The best way to rake, in plain words: sets of seams are gone through by what is found. -/
section
set_option maxRecDepth 100000
set_option linter.unusedSimpArgs false
namespace Go.Cw
open Go

theorem bits_add {p q : Nat → Bool} : ∀ {n : Nat}, (∀ i, i < n → ¬ (p i = true ∧ q i = true)) → bits (fun i => p i || q i) n = bits p n + bits q n
  | 0, _ => rfl
  | n + 1, h => by
    have ih := bits_add (p := p) (q := q) (n := n) fun i hi => h i (by omega)
    have hn := h n (by omega)
    simp only [bits, ih]
    by_cases hp : p n = true <;> by_cases hq : q n = true
    · exact absurd ⟨hp, hq⟩ hn
    · simp [hp, hq]; omega
    · simp [hp, hq]; omega
    · simp [hp, hq]
theorem bits_one {i n : Nat} (hi : i < n) : bits (fun j => decide (j = i)) n = 2 ^ i := by
  induction n with
  | zero => omega
  | succ n ih =>
    simp only [bits]
    by_cases h : i = n
    · subst h
      have : bits (fun j => decide (j = i)) i = 0 := bits_zero.2 fun j hj => by simp; omega
      rw [this]; simp
    · rw [ih (by omega)]
      have : ¬ n = i := fun e => h e.symm
      simp [this]

namespace Rk
theorem add_bits {n : Nat} {q : Int} (hq : 0 ≤ q ∧ q < 2 ^ n) {i : Nat} (hi : i < n) (h : inS q i = false) : q + 2 ^ i = bits (fun j => inS q j || decide (j = i)) n := by
  rw [bits_add fun j hj ⟨h1, h2⟩ => by
    simp only [decide_eq_true_eq] at h2
    subst h2; rw [h] at h1; cases h1]
  rw [bits_one hi]
  congr 1
  exact (bits_of hq.1 hq.2).symm
theorem add_lt {n : Nat} {q : Int} (hq : 0 ≤ q ∧ q < 2 ^ n) {i : Nat} (hi : i < n) (h : inS q i = false) : 0 ≤ q + 2 ^ i ∧ q + 2 ^ i < 2 ^ n := by
  rw [add_bits hq hi h]; exact bits_lt _ _
theorem inS_add {n : Nat} {q : Int} (hq : 0 ≤ q ∧ q < 2 ^ n) {i : Nat} (hi : i < n) (h : inS q i = false) {j : Nat} (hj : j < n) : inS (q + 2 ^ i) j = (inS q j || decide (j = i)) := by
  rw [add_bits hq hi h, inS_bits _ hj]

def wl (l : List Int) (i : Nat) (b : Bool) : List Int := l.filter fun s => inS s i == b
theorem mem_wl {l : List Int} {i : Nat} {b : Bool} {s : Int} : s ∈ wl l i b ↔ s ∈ l ∧ inS s i = b := by
  unfold wl; simp [List.mem_filter]

def betR (g : Nat → Int) (b : Option (Nat × Int)) (i : Nat) : Option (Nat × Int) :=
  match b with
  | none => some (i, g i)
  | some c => if g i < c.2 then some (i, g i) else some c
def bestR (g : Nat → Int) (l : List Nat) : Option (Nat × Int) := l.foldl (betR g) none
theorem bestR_push (g : Nat → Int) (l : List Nat) (i : Nat) : bestR g (l ++ [i]) = betR g (bestR g l) i := by simp [bestR]
theorem push_ind {α : Type} {p : List α → Prop} (h0 : p []) (h1 : ∀ l x, p l → p (l ++ [x])) (l : List α) : p l := by
  have : ∀ l : List α, p l.reverse := fun l => by
    induction l with
    | nil => exact h0
    | cons x l ih => rw [List.reverse_cons]; exact h1 _ _ ih
  have h := this l.reverse
  rwa [List.reverse_reverse] at h
theorem bestR_congr {g g' : Nat → Int} {l : List Nat} (h : ∀ i ∈ l, g i = g' i) : bestR g l = bestR g' l := by
  induction l using push_ind with
  | h0 => rfl
  | h1 l x ih =>
    rw [bestR_push, bestR_push, ih fun i hi => h i (by simp [hi])]
    unfold betR
    rw [h x (by simp)]
theorem bestR_some {g : Nat → Int} {l : List Nat} (h : l ≠ []) : ∃ b, bestR g l = some b := by
  induction l using push_ind with
  | h0 => exact absurd rfl h
  | h1 l x _ =>
    rw [bestR_push]
    unfold betR
    cases bestR g l with
    | none => exact ⟨_, rfl⟩
    | some c => simp only; split <;> exact ⟨_, rfl⟩
theorem bestR_spec {g : Nat → Int} {l : List Nat} (hs : l.Pairwise (· < ·)) {b : Nat × Int} (hb : bestR g l = some b) : b.1 ∈ l ∧ b.2 = g b.1 ∧ ∀ i ∈ l, b.2 < g i ∨ (b.2 = g i ∧ b.1 ≤ i) := by
  induction l using push_ind generalizing b with
  | h0 => simp [bestR] at hb
  | h1 l x ih =>
    rw [List.pairwise_append] at hs
    have hlx : ∀ i ∈ l, i < x := fun i hi => hs.2.2 i hi x (by simp)
    rw [bestR_push] at hb
    cases hc : bestR g l with
    | none =>
      have hl : l = [] := by
        cases l with
        | nil => rfl
        | cons a m => obtain ⟨c, h⟩ := bestR_some (g := g) (l := a :: m) (by simp); rw [hc] at h; cases h
      subst hl
      rw [hc] at hb
      simp only [betR, Option.some.injEq] at hb
      subst hb
      exact ⟨by simp, rfl, fun i hi => by simp at hi; subst hi; exact .inr ⟨rfl, Nat.le_refl _⟩⟩
    | some c =>
      obtain ⟨h1, h2, h3⟩ := ih hs.1 hc
      rw [hc] at hb
      simp only [betR] at hb
      split at hb
      · rename_i hlt
        simp only [Option.some.injEq] at hb
        subst hb
        refine ⟨by simp, rfl, fun i hi => ?_⟩
        rcases List.mem_append.1 hi with hi | hi
        · have := h3 i hi; simp only; omega
        · simp at hi; subst hi; exact .inr ⟨rfl, Nat.le_refl _⟩
      · rename_i hlt
        simp only [Option.some.injEq] at hb
        subst hb
        refine ⟨by simp [h1], h2, fun i hi => ?_⟩
        rcases List.mem_append.1 hi with hi | hi
        · exact h3 i hi
        · simp at hi; subst hi
          have := hlx _ h1
          by_cases he : c.2 = g i
          · exact .inr ⟨he, by omega⟩
          · exact .inl (by omega)

def un (n : Nat) (q : Int) : List Nat := (List.range n).filter fun i => !inS q i
theorem mem_un {n : Nat} {q : Int} {i : Nat} : i ∈ un n q ↔ i < n ∧ inS q i = false := by
  unfold un; simp [List.mem_filter]
theorem un_lt (n : Nat) (q : Int) : (un n q).Pairwise (· < ·) := List.Pairwise.filter _ List.pairwise_lt_range
theorem un_add {n : Nat} {q : Int} (hq : 0 ≤ q ∧ q < 2 ^ n) {i : Nat} (hi : i ∈ un n q) : un n (q + 2 ^ i) = (un n q).filter fun j => !decide (j = i) := by
  obtain ⟨h1, h2⟩ := mem_un.1 hi
  unfold un
  rw [List.filter_filter]
  refine List.filter_congr fun j hj => ?_
  rw [inS_add hq h1 h2 (List.mem_range.1 hj), Bool.not_or, Bool.and_comm]
theorem erase_len {l : List Nat} (hn : l.Pairwise (· < ·)) {i : Nat} (hi : i ∈ l) : (l.filter fun j => !decide (j = i)).length + 1 = l.length := by
  induction l with
  | nil => simp at hi
  | cons a l ih =>
    rw [List.pairwise_cons] at hn
    rcases List.mem_cons.1 hi with rfl | h
    · rw [List.filter_cons_of_neg (by simp), List.filter_eq_self.2 fun j hj => by have := hn.1 j hj; simp; omega]; rfl
    · have := hn.1 i h
      rw [List.filter_cons_of_pos (by simp; omega), List.length_cons, List.length_cons, ih hn.2 h]
theorem un_len {n : Nat} {q : Int} (hq : 0 ≤ q ∧ q < 2 ^ n) {i : Nat} (hi : i ∈ un n q) : (un n (q + 2 ^ i)).length + 1 = (un n q).length := by
  rw [un_add hq hi]; exact erase_len (un_lt n q) hi

def behind (any : Bool) (f : Nat → Int) (w : List Int → Int → Int) (l : List Int) (q : Int) (i : Nat) : Int :=
  f i + if any then w (wl l i false) (q + 2 ^ i) else max (w (wl l i false) (q + 2 ^ i)) (w (wl l i true) (q + 2 ^ i))
def doneL (any : Bool) (l : List Int) : Prop := l = [] ∨ (l.length = 1 ∧ any = false)
instance (any : Bool) (l : List Int) : Decidable (doneL any l) := inferInstanceAs (Decidable (_ ∨ _))
def plan (n : Nat) (f : Nat → Int) (any : Bool) : Nat → List Int → Int → Nat × Int
  | 0, _, _ => (0, 0)
  | k + 1, l, q => if doneL any l then (0, 0) else (bestR (behind any f (fun l q => (plan n f any k l q).2) l q) (un n q)).getD (0, 0)
def planQ (n : Nat) (f : Nat → Int) (any : Bool) (l : List Int) (q : Int) : Nat × Int := plan n f any (un n q).length l q
theorem planQ_nonneg {n : Nat} {f : Nat → Int} (hf : ∀ i, i < n → 0 ≤ f i) {any : Bool} : ∀ (k : Nat) (l : List Int) (q : Int), 0 ≤ (plan n f any k l q).2
  | 0, _, _ => Int.le_refl _
  | k + 1, l, q => by
    simp only [plan]
    split
    · exact Int.le_refl _
    · cases hb : bestR (behind any f (fun l q => (plan n f any k l q).2) l q) (un n q) with
      | none => exact Int.le_refl _
      | some b =>
        obtain ⟨h1, h2, _⟩ := bestR_spec (un_lt n q) hb
        have h3 := hf b.1 (mem_un.1 h1).1
        have h4 := planQ_nonneg hf (any := any) k (wl l b.1 false) (q + 2 ^ b.1)
        show 0 ≤ b.2
        rw [h2]
        unfold behind
        simp only
        split <;> omega
end Rk
end Go.Cw
end

/- The best way to rake: with fewer sets, longer seams; some leak is found soon. -/
section
set_option maxRecDepth 100000
set_option linter.unusedSimpArgs false
namespace Go.Cw
open Go

namespace Rk
variable {n : Nat}
theorem wl_sub {l m : List Int} (h : l.Sublist m) (i : Nat) (b : Bool) : (wl l i b).Sublist (wl m i b) := h.filter _
theorem done_sub {any : Bool} {l m : List Int} (h : l.Sublist m) (d : doneL any m) : doneL any l := by
  have hl := h.length_le
  rcases d with rfl | ⟨h1, h2⟩
  · exact .inl (List.sublist_nil.1 h)
  · rcases (show l.length = 0 ∨ l.length = 1 by omega) with h0 | h0
    · exact .inl (List.eq_nil_of_length_eq_zero h0)
    · exact .inr ⟨h0, h2⟩
theorem best_le {g g' : Nat → Int} {l : List Nat} (hs : l.Pairwise (· < ·)) (h : ∀ i ∈ l, g i ≤ g' i) : ((bestR g l).getD (0, 0)).2 ≤ ((bestR g' l).getD (0, 0)).2 := by
  cases l with
  | nil => exact Int.le_refl _
  | cons a m =>
    obtain ⟨b, hb⟩ := bestR_some (g := g) (l := a :: m) (by simp)
    obtain ⟨c, hc⟩ := bestR_some (g := g') (l := a :: m) (by simp)
    rw [hb, hc]
    obtain ⟨b1, b2, b3⟩ := bestR_spec hs hb
    obtain ⟨c1, c2, c3⟩ := bestR_spec hs hc
    have h1 := b3 c.1 c1
    have h2 := h c.1 c1
    show b.2 ≤ c.2
    omega
theorem best_at {g : Nat → Int} {l : List Nat} (hs : l.Pairwise (· < ·)) {i : Nat} (hi : i ∈ l) : ((bestR g l).getD (0, 0)).2 ≤ g i := by
  obtain ⟨b, hb⟩ := bestR_some (g := g) (List.ne_nil_of_mem hi)
  obtain ⟨b1, b2, b3⟩ := bestR_spec hs hb
  rw [hb]
  have := b3 i hi
  show b.2 ≤ g i
  omega
theorem behind_le {any : Bool} {f f' : Nat → Int} {w w' : List Int → Int → Int} {l l' : List Int} {q : Int} {i : Nat} (hf : f i ≤ f' i) (hw : ∀ b, w (wl l i b) (q + 2 ^ i) ≤ w' (wl l' i b) (q + 2 ^ i)) : behind any f w l q i ≤ behind any f' w' l' q i := by
  have h1 := hw false
  have h2 := hw true
  unfold behind
  split <;> omega
theorem plan_mono {f f' : Nat → Int} (hf0 : ∀ i, i < n → 0 ≤ f i) (hf : ∀ i, i < n → f i ≤ f' i) {any : Bool} : ∀ (k : Nat) {l l' : List Int} (q : Int), l.Sublist l' → (plan n f any k l q).2 ≤ (plan n f' any k l' q).2
  | 0, _, _, _, _ => Int.le_refl _
  | k + 1, l, l', q, h => by
    by_cases hd : doneL any l
    · have h0 : (plan n f any (k + 1) l q).2 = 0 := by simp only [plan]; rw [if_pos hd]
      rw [h0]
      exact planQ_nonneg (fun i hi => Int.le_trans (hf0 i hi) (hf i hi)) _ _ _
    · have hd' : ¬ doneL any l' := fun x => hd (done_sub h x)
      simp only [plan]
      rw [if_neg hd, if_neg hd']
      refine best_le (un_lt n q) fun i hi => ?_
      exact behind_le (hf i (mem_un.1 hi).1) fun b => plan_mono hf0 hf k _ (wl_sub h i b)
theorem bestR_mul {g : Nat → Int} {c : Int} (hc : 0 < c) (l : List Nat) : bestR (fun i => c * g i) l = (bestR g l).map fun b => (b.1, c * b.2) := by
  induction l using push_ind with
  | h0 => rfl
  | h1 l x ih =>
    rw [bestR_push, bestR_push, ih]
    cases bestR g l with
    | none => rfl
    | some b =>
      simp only [betR, Option.map_some]
      by_cases h : g x < b.2
      · rw [if_pos h, if_pos (Int.mul_lt_mul_of_pos_left h hc)]; rfl
      · rw [if_neg h, if_neg (fun h' => h (Int.lt_of_mul_lt_mul_left h' (by omega)))]; rfl
theorem plan_mul {f : Nat → Int} {c : Int} (hc : 0 < c) {any : Bool} : ∀ (k : Nat) (l : List Int) (q : Int), plan n (fun i => c * f i) any k l q = ((plan n f any k l q).1, c * (plan n f any k l q).2)
  | 0, _, _ => by simp [plan]
  | k + 1, l, q => by
    simp only [plan]
    split
    · simp
    · have hb : ∀ i, behind any (fun i => c * f i) (fun l q => (plan n (fun i => c * f i) any k l q).2) l q i = c * behind any f (fun l q => (plan n f any k l q).2) l q i := fun i => by
        have hm : ∀ a b : Int, max (c * a) (c * b) = c * max a b := fun a b => by
          by_cases h : a ≤ b
          · have := Int.mul_le_mul_of_nonneg_left h (show 0 ≤ c by omega)
            rw [Int.max_eq_right h, Int.max_eq_right this]
          · have h' : b ≤ a := by omega
            have := Int.mul_le_mul_of_nonneg_left h' (show 0 ≤ c by omega)
            rw [Int.max_eq_left h', Int.max_eq_left this]
        unfold behind
        simp only [plan_mul hc k]
        split
        · rw [Int.mul_add]
        · rw [hm, Int.mul_add]
      rw [bestR_congr (g' := fun i => c * behind any f (fun l q => (plan n f any k l q).2) l q i) fun i _ => hb i, bestR_mul hc]
      cases bestR (behind any f (fun l q => (plan n f any k l q).2) l q) (un n q) <;> simp

theorem plan_any {f : Nat → Int} {M : Int} (hf : ∀ i, i < n → 0 ≤ f i ∧ f i ≤ M) (hM : 0 ≤ M) : ∀ (k : Nat) (l : List Int) (q : Int), 0 ≤ q ∧ q < 2 ^ n → (un n q).length = k → (∀ s ∈ l, ∃ i, i ∈ un n q ∧ inS s i = true) → (plan n f true k l q).2 ≤ (plan n f false k l q).2 + M
  | 0, l, q, _, _, _ => by simpa [plan] using hM
  | k + 1, l, q, hq, hk, h => by
    by_cases h0 : l = []
    · subst h0
      have e : (plan n f true (k + 1) [] q).2 = 0 := by simp only [plan]; rw [if_pos (.inl rfl)]
      have := planQ_nonneg (n := n) (fun i hi => (hf i hi).1) (any := false) (k + 1) [] q
      omega
    · have hdt : ¬ doneL true l := by rintro (h1 | ⟨_, h1⟩); exact h0 h1; cases h1
      have et : (plan n f true (k + 1) l q).2 = ((bestR (behind true f (fun l q => (plan n f true k l q).2) l q) (un n q)).getD (0, 0)).2 := by simp only [plan]; rw [if_neg hdt]
      have hnn := planQ_nonneg (n := n) (fun i hi => (hf i hi).1) (any := false) (k + 1) l q
      by_cases h1 : l.length = 1
      · obtain ⟨s, hs⟩ := List.length_eq_one_iff.1 h1
        obtain ⟨i, hi, his⟩ := h s (by rw [hs]; simp)
        have hle := best_at (g := behind true f (fun l q => (plan n f true k l q).2) l q) (un_lt n q) hi
        have hw : wl l i false = [] := by rw [hs]; unfold wl; simp [his]
        have hz : (plan n f true k (wl l i false) (q + 2 ^ i)).2 = 0 := by
          rw [hw]
          cases k with
          | zero => rfl
          | succ k => simp only [plan]; rw [if_pos (.inl rfl)]
        have : behind true f (fun l q => (plan n f true k l q).2) l q i = f i := by unfold behind; simp only [if_true, hz]; omega
        rw [this] at hle
        have := (hf i (mem_un.1 hi).1).2
        omega
      · have hdf : ¬ doneL false l := by rintro (h2 | ⟨h2, _⟩); exact h0 h2; exact h1 h2
        have hun : un n q ≠ [] := fun e => by rw [e] at hk; simp at hk
        have ef : (plan n f false (k + 1) l q).2 = ((bestR (behind false f (fun l q => (plan n f false k l q).2) l q) (un n q)).getD (0, 0)).2 := by simp only [plan]; rw [if_neg hdf]
        obtain ⟨b, hb⟩ := bestR_some (g := behind false f (fun l q => (plan n f false k l q).2) l q) hun
        obtain ⟨b1, b2, _⟩ := bestR_spec (un_lt n q) hb
        have hle := best_at (g := behind true f (fun l q => (plan n f true k l q).2) l q) (un_lt n q) b1
        have hlen := un_len hq b1
        have ih := plan_any hf hM k (wl l b.1 false) (q + 2 ^ b.1) (add_lt hq (mem_un.1 b1).1 (mem_un.1 b1).2) (by omega) fun s hs => by
          obtain ⟨hs1, hs2⟩ := mem_wl.1 hs
          obtain ⟨i, hi, his⟩ := h s hs1
          refine ⟨i, ?_, his⟩
          rw [un_add hq b1]
          refine List.mem_filter.2 ⟨hi, ?_⟩
          have : i ≠ b.1 := fun e => by rw [e, hs2] at his; cases his
          simpa using this
        have e1 : behind true f (fun l q => (plan n f true k l q).2) l q b.1 = f b.1 + (plan n f true k (wl l b.1 false) (q + 2 ^ b.1)).2 := by unfold behind; simp
        have e2 : behind false f (fun l q => (plan n f false k l q).2) l q b.1 = f b.1 + max (plan n f false k (wl l b.1 false) (q + 2 ^ b.1)).2 (plan n f false k (wl l b.1 true) (q + 2 ^ b.1)).2 := by unfold behind; simp
        rw [hb] at ef
        have ef' : (plan n f false (k + 1) l q).2 = b.2 := ef
        rw [et, ef', b2, e2]
        rw [e1] at hle
        omega
end Rk
end Go.Cw
end

/- Raking in an order, in plain words. -/
section
set_option maxRecDepth 100000
set_option linter.unusedSimpArgs false
namespace Go.Cw
open Go

namespace Rk
variable {n : Nat}
def costL (f : Nat → Int) : List Nat → List Int → Int → Int
  | [], _, _ => 0
  | i :: o, l, s => if l.length ≤ 1 then 0 else f i + costL f o (wl l i (inS s i)) s
def mostL (f : Nat → Int) (o : List Nat) (l : List Int) (S : List Int) : Int := S.foldl (fun m s => max m (costL f o l s)) 0
end Rk
end Go.Cw
end

/- All orders of seams, lexicographically. -/
section
set_option maxRecDepth 100000
set_option linter.unusedSimpArgs false
namespace Go.Cw
open Go

namespace Rk
variable {n : Nat}
def fr (n : Nat) (b : List Nat) : List Nat := (List.range n).filter fun i => !b.contains i
theorem mem_fr {b : List Nat} {i : Nat} : i ∈ fr n b ↔ i < n ∧ i ∉ b := by
  unfold fr; simp [List.mem_filter]
theorem fr_lt (b : List Nat) : (fr n b).Pairwise (· < ·) := List.Pairwise.filter _ List.pairwise_lt_range
def ords (n : Nat) : Nat → List Nat → List (List Nat)
  | 0, b => [b]
  | k + 1, b => (fr n b).flatMap fun i => ords n k (b ++ [i])
theorem mem_ords : ∀ {k : Nat} {b o : List Nat}, o ∈ ords n k b ↔ ∃ r, o = b ++ r ∧ r.length = k ∧ r.Nodup ∧ ∀ i ∈ r, i < n ∧ i ∉ b
  | 0, b, o => by
    simp only [ords, List.mem_singleton]
    constructor
    · rintro rfl; exact ⟨[], by simp, rfl, by simp, by simp⟩
    · rintro ⟨r, rfl, h, _⟩
      rw [List.eq_nil_of_length_eq_zero h]; simp
  | k + 1, b, o => by
    simp only [ords, List.mem_flatMap, mem_fr, mem_ords (k := k)]
    constructor
    · rintro ⟨i, ⟨h1, h2⟩, r, rfl, h3, h4, h5⟩
      refine ⟨i :: r, by simp, by simp [h3], ?_, fun j hj => ?_⟩
      · rw [List.nodup_cons]
        exact ⟨fun h => (h5 i h).2 (by simp), h4⟩
      · rcases List.mem_cons.1 hj with rfl | h
        · exact ⟨h1, h2⟩
        · have := h5 j h
          exact ⟨this.1, fun h6 => this.2 (by simp [h6])⟩
    · rintro ⟨r, rfl, h1, h2, h3⟩
      cases r with
      | nil => simp at h1
      | cons i r =>
        rw [List.nodup_cons] at h2
        refine ⟨i, h3 i (by simp), r, by simp, by simpa using h1, h2.2, fun j hj => ?_⟩
        have := h3 j (by simp [hj])
        refine ⟨this.1, fun h => ?_⟩
        rcases List.mem_append.1 h with h | h
        · exact this.2 h
        · simp at h; subst h; exact h2.1 hj
def Lex (a b : List Nat) : Prop := ∃ p x y r r', a = p ++ x :: r ∧ b = p ++ y :: r' ∧ x < y
theorem ords_lex : ∀ (k : Nat) (b : List Nat), (ords n k b).Pairwise Lex
  | 0, b => by simp [ords]
  | k + 1, b => by
    simp only [ords]
    rw [List.flatMap_def, List.pairwise_flatten]
    refine ⟨fun l hl => ?_, ?_⟩
    · obtain ⟨i, _, rfl⟩ := List.mem_map.1 hl
      exact ords_lex k (b ++ [i])
    · rw [List.pairwise_map]
      refine (fr_lt b).imp fun {i j} hij o ho o' ho' => ?_
      obtain ⟨r, rfl, _⟩ := mem_ords.1 ho
      obtain ⟨r', rfl, _⟩ := mem_ords.1 ho'
      exact ⟨b, i, j, r, r', by simp, by simp, hij⟩
theorem nodup_len {α : Type} [DecidableEq α] {l : List α} (hn : l.Nodup) : ∀ {m : List α}, l ⊆ m → l.length ≤ m.length := by
  induction l with
  | nil => exact fun _ => Nat.zero_le _
  | cons a l ih =>
    intro m h
    rw [List.nodup_cons] at hn
    have ha : a ∈ m := h (by simp)
    have := ih hn.2 (m := m.erase a) fun x hx => by
      refine (List.mem_erase_of_ne ?_).2 (h (by simp [hx]))
      rintro rfl
      exact hn.1 hx
    rw [List.length_erase_of_mem ha] at this
    have := List.length_pos_of_mem ha
    simp only [List.length_cons]
    omega
theorem ords_ne : ∀ (k : Nat) (b : List Nat), b.Nodup → (∀ i ∈ b, i < n) → b.length + k = n → ords n k b ≠ []
  | 0, b, _, _, _ => by simp [ords]
  | k + 1, b, hn, hb, hl => by
    have : ∃ i, i < n ∧ i ∉ b := by
      refine Classical.byContradiction fun hc => ?_
      have hsub : List.range n ⊆ b := fun i hi => by
        refine Classical.byContradiction fun h => hc ⟨i, List.mem_range.1 hi, h⟩
      have := nodup_len List.nodup_range hsub
      rw [List.length_range] at this
      omega
    obtain ⟨i, h1, h2⟩ := this
    have ih := ords_ne k (b ++ [i]) (by
      rw [List.nodup_append]
      exact ⟨hn, by simp, fun a ha c hc => by simp at hc; subst hc; exact fun e => h2 (e ▸ ha)⟩) (fun j hj => by
      rcases List.mem_append.1 hj with h | h
      · exact hb j h
      · simp at h; subst h; exact h1) (by simp; omega)
    obtain ⟨o, ho⟩ := List.exists_mem_of_ne_nil _ ih
    exact List.ne_nil_of_mem (a := o) (by
      simp only [ords]
      exact List.mem_flatMap.2 ⟨i, mem_fr.2 ⟨h1, h2⟩, ho⟩)

def betO (g : List Nat → Int) (b : Option (List Nat × Int)) (o : List Nat) : Option (List Nat × Int) :=
  match b with
  | none => some (o, g o)
  | some c => if g o < c.2 then some (o, g o) else some c
def bestO (g : List Nat → Int) (l : List (List Nat)) : Option (List Nat × Int) := l.foldl (betO g) none
end Rk
end Go.Cw
end

/- Which seams would tell all, in plain words. -/
section
set_option maxRecDepth 100000
set_option linter.unusedSimpArgs false
namespace Go.Cw
open Go

namespace Rk
variable {n : Nat}
def same (n : Nat) (q s t : Int) : Bool := (List.range n).all fun i => !inS q i || (inS s i == inS t i)
def tellsP (n : Nat) (S : List Int) (q : Int) : Prop := S.Pairwise fun s t => same n q s t = false
instance (n : Nat) (S : List Int) (q : Int) : Decidable (tellsP n S q) := inferInstanceAs (Decidable (List.Pairwise _ _))
theorem all_same {s t : Int} (hs : 0 ≤ s ∧ s < 2 ^ n) (ht : 0 ≤ t ∧ t < 2 ^ n) (h : ∀ i, i < n → inS s i = inS t i) : s = t := by
  have e1 : bits (inS s) n = s := bits_of hs.1 hs.2
  have e2 : bits (inS t) n = t := bits_of ht.1 ht.2
  rw [← e1, ← e2]
  exact bits_congr h
def lenS (f : Nat → Int) : Nat → Int → Int
  | 0, _ => 0
  | n + 1, q => lenS f n q + if inS q n then f n else 0
theorem lenS_nonneg {f : Nat → Int} : ∀ {n : Nat}, (∀ i, i < n → 0 ≤ f i) → ∀ q, 0 ≤ lenS f n q
  | 0, _, _ => Int.le_refl _
  | n + 1, h, q => by
    have := lenS_nonneg (n := n) (fun i hi => h i (by omega)) q
    have := h n (by omega)
    simp only [lenS]
    split <;> omega
theorem lenS_congr {f : Nat → Int} : ∀ {n : Nat} {p q : Int}, (∀ i, i < n → inS p i = inS q i) → lenS f n p = lenS f n q
  | 0, _, _, _ => rfl
  | n + 1, p, q, h => by simp only [lenS]; rw [lenS_congr fun i hi => h i (by omega), h n (by omega)]
theorem lenS_less {f : Nat → Int} : ∀ {n : Nat} {p q : Int} {j : Nat}, j < n → inS q j = true → (∀ i, i < n → inS p i = (inS q i && !decide (i = j))) → lenS f n q = lenS f n p + f j
  | 0, _, _, _, h, _, _ => by omega
  | n + 1, p, q, j, hj, hq, h => by
    simp only [lenS]
    by_cases hjn : j = n
    · subst hjn
      have h1 : lenS f j q = lenS f j p := (lenS_congr fun i hi => by rw [h i (by omega)]; have : i ≠ j := by omega
                                                                      simp [this]).symm
      have h2 : inS p j = false := by rw [h j (by omega)]; simp
      rw [h1, hq, h2]; simp
    · have h1 := lenS_less (f := f) (n := n) (p := p) (q := q) (j := j) (by omega) hq fun i hi => h i (by omega)
      have h2 : inS p n = inS q n := by rw [h n (by omega)]; have : n ≠ j := fun e => hjn e.symm
                                        simp [this]
      rw [h1, h2]; omega

def wls (l : List Int) (o : List Nat) (s : Int) : List Int := o.foldl (fun l i => wl l i (inS s i)) l
end Rk
end Go.Cw
end

/- Works: sorted by their days, what was before stays before; the last work on each seam. -/
section
set_option maxRecDepth 100000
set_option linter.unusedSimpArgs false
namespace Go.Cw
open Go

structure Wrk where
  s : Int
  d : Int
  g : Int
deriving DecidableEq

namespace Ag
theorem push_ind {α : Type} {p : List α → Prop} (h0 : p []) (h1 : ∀ l x, p l → p (l ++ [x])) (l : List α) : p l := by
  have : ∀ l : List α, p l.reverse := fun l => by
    induction l with
    | nil => exact h0
    | cons x l ih => rw [List.reverse_cons]; exact h1 _ _ ih
  have h := this l.reverse
  rwa [List.reverse_reverse] at h
def insW (l : List Wrk) (x : Wrk) : List Wrk := l.takeWhile (fun y => decide (y.d ≤ x.d)) ++ x :: l.dropWhile (fun y => decide (y.d ≤ x.d))
def sortW (l : List Wrk) : List Wrk := l.foldl insW []
theorem sortW_push (l : List Wrk) (x : Wrk) : sortW (l ++ [x]) = insW (sortW l) x := by simp [sortW]
theorem insW_perm (l : List Wrk) (x : Wrk) : (insW l x).Perm (l ++ [x]) := by
  unfold insW
  have e : l = l.takeWhile (fun y => decide (y.d ≤ x.d)) ++ l.dropWhile (fun y => decide (y.d ≤ x.d)) := (List.takeWhile_append_dropWhile).symm
  conv => rhs; rw [e]
  rw [List.append_assoc]
  refine List.Perm.append_left _ ?_
  exact (List.perm_append_singleton x _).symm
theorem sortW_perm (l : List Wrk) : (sortW l).Perm l := by
  induction l using push_ind with
  | h0 => exact List.Perm.refl _
  | h1 l x ih =>
    rw [sortW_push]
    exact (insW_perm _ _).trans (ih.append_right _)
def SortedW (l : List Wrk) : Prop := l.Pairwise fun a b => a.d ≤ b.d
theorem drop_late {l : List Wrk} (h : SortedW l) (x : Wrk) : ∀ y ∈ l.dropWhile (fun y => decide (y.d ≤ x.d)), x.d < y.d := by
  induction l with
  | nil => simp
  | cons a l ih =>
    unfold SortedW at h
    rw [List.pairwise_cons] at h
    rw [List.dropWhile_cons]
    by_cases ha : a.d ≤ x.d
    · rw [if_pos (by simpa using ha)]; exact ih h.2
    · rw [if_neg (by simpa using ha)]
      intro y hy
      rcases List.mem_cons.1 hy with rfl | hy
      · omega
      · have := h.1 y hy; omega
theorem take_early {l : List Wrk} (x : Wrk) : ∀ y ∈ l.takeWhile (fun y => decide (y.d ≤ x.d)), y.d ≤ x.d := by
  induction l with
  | nil => simp
  | cons a l ih =>
    rw [List.takeWhile_cons]
    by_cases ha : a.d ≤ x.d
    · rw [if_pos (by simpa using ha)]
      intro y hy
      rcases List.mem_cons.1 hy with rfl | hy
      · exact ha
      · exact ih y hy
    · rw [if_neg (by simpa using ha)]; simp
theorem insW_sorted {l : List Wrk} (h : SortedW l) (x : Wrk) : SortedW (insW l x) := by
  have h1 : SortedW (l.takeWhile (fun y => decide (y.d ≤ x.d))) := h.sublist (List.takeWhile_sublist _)
  have h2 : SortedW (l.dropWhile (fun y => decide (y.d ≤ x.d))) := h.sublist (List.dropWhile_sublist _)
  unfold insW SortedW
  rw [List.pairwise_append, List.pairwise_cons]
  refine ⟨h1, ⟨fun y hy => ?_, h2⟩, fun a ha b hb => ?_⟩
  · have := drop_late h x y hy; omega
  · have h3 := take_early x a ha
    rcases List.mem_cons.1 hb with rfl | hb
    · exact h3
    · have := drop_late h x b hb; omega
theorem sortW_sorted (l : List Wrk) : SortedW (sortW l) := by
  induction l using push_ind with
  | h0 => exact List.Pairwise.nil
  | h1 l x ih => rw [sortW_push]; exact insW_sorted ih x
theorem insW_at {l : List Wrk} (x : Wrk) {j : Nat} (hj : j ≤ l.length) (h1 : ∀ y ∈ l.drop j, x.d < y.d) (h0 : ∀ y ∈ l.take j, y.d ≤ x.d) : insW l x = l.take j ++ x :: l.drop j := by
  have e : l = l.take j ++ l.drop j := (List.take_append_drop j l).symm
  have e1 : (l.take j ++ l.drop j).takeWhile (fun y => decide (y.d ≤ x.d)) = l.take j := by
    rw [List.takeWhile_append_of_pos fun a ha => by simpa using h0 a ha]
    cases hd : l.drop j with
    | nil => simp
    | cons b r =>
      rw [List.takeWhile_cons, if_neg]
      · simp
      · have := h1 b (by rw [hd]; simp)
        simp; omega
  have e2 : (l.take j ++ l.drop j).dropWhile (fun y => decide (y.d ≤ x.d)) = l.drop j := by
    rw [List.dropWhile_append_of_pos fun a ha => by simpa using h0 a ha]
    cases hd : l.drop j with
    | nil => simp
    | cons b r =>
      rw [List.dropWhile_cons, if_neg]
      have := h1 b (by rw [hd]; simp)
      simp; omega
  unfold insW
  conv => lhs; rw [e]
  rw [e1, e2]

def betW (i : Int) (b : Option Wrk) (w : Wrk) : Option Wrk := match b with
  | none => if w.s = i then some w else none
  | some v => if w.s = i ∧ v.d ≤ w.d then some w else some v
def lastW (l : List Wrk) (i : Int) : Option Wrk := l.foldl (betW i) none
theorem lastW_push (l : List Wrk) (w : Wrk) (i : Int) : lastW (l ++ [w]) i = betW i (lastW l i) w := by simp [lastW]
theorem lastW_nil (i : Int) : lastW [] i = none := rfl
theorem lastW_none {l : List Wrk} {i : Int} : lastW l i = none ↔ ∀ w ∈ l, w.s ≠ i := by
  induction l using push_ind with
  | h0 => simp [lastW_nil]
  | h1 l x ih =>
    rw [lastW_push]
    cases hl : lastW l i with
    | none =>
      have h := ih.1 hl
      simp only [betW]
      constructor
      · intro hn w hw
        rcases List.mem_append.1 hw with hw | hw
        · exact h w hw
        · simp at hw; subst hw
          intro e; rw [if_pos e] at hn; cases hn
      · intro ha
        rw [if_neg (ha x (by simp))]
    | some v =>
      simp only [betW]
      constructor
      · intro hn; split at hn <;> cases hn
      · intro ha
        have := ih.2 fun w hw => ha w (by simp [hw])
        rw [this] at hl; cases hl
theorem lastW_spec {l : List Wrk} {i : Int} {v : Wrk} (h : lastW l i = some v) : v ∈ l ∧ v.s = i ∧ ∀ w ∈ l, w.s = i → w.d ≤ v.d := by
  induction l using push_ind generalizing v with
  | h0 => simp [lastW_nil] at h
  | h1 l x ih =>
    rw [lastW_push] at h
    cases hl : lastW l i with
    | none =>
      rw [hl] at h
      simp only [betW] at h
      split at h
      · rename_i hx
        simp only [Option.some.injEq] at h; subst h
        refine ⟨by simp, hx, fun w hw hi => ?_⟩
        rcases List.mem_append.1 hw with hw | hw
        · exact absurd hi (lastW_none.1 hl w hw)
        · simp at hw; subst hw; exact Int.le_refl _
      · cases h
    | some u =>
      obtain ⟨h1, h2, h3⟩ := ih hl
      rw [hl] at h
      simp only [betW] at h
      split at h
      · rename_i hx
        simp only [Option.some.injEq] at h; subst h
        refine ⟨by simp, hx.1, fun w hw hi => ?_⟩
        rcases List.mem_append.1 hw with hw | hw
        · have := h3 w hw hi; have := hx.2; omega
        · simp at hw; subst hw; exact Int.le_refl _
      · rename_i hx
        simp only [Option.some.injEq] at h; subst h
        refine ⟨by simp [h1], h2, fun w hw hi => ?_⟩
        rcases List.mem_append.1 hw with hw | hw
        · exact h3 w hw hi
        · simp at hw; subst hw
          refine Classical.byContradiction fun hc => hx ⟨hi, by omega⟩
theorem last_sort (l : List Wrk) (i : Int) : ((sortW l).filter fun w => decide (w.s = i)).getLast? = lastW l i := by
  induction l using push_ind with
  | h0 => rfl
  | h1 l x ih =>
    rw [sortW_push, lastW_push]
    have hs := sortW_sorted l
    have hsp : (sortW l).filter (fun w => decide (w.s = i)) = ((sortW l).takeWhile (fun y => decide (y.d ≤ x.d))).filter (fun w => decide (w.s = i)) ++ ((sortW l).dropWhile (fun y => decide (y.d ≤ x.d))).filter (fun w => decide (w.s = i)) := by
      rw [← List.filter_append, List.takeWhile_append_dropWhile]
    unfold insW
    rw [List.filter_append]
    rw [hsp, List.getLast?_append] at ih
    by_cases hx : x.s = i
    · rw [List.filter_cons_of_pos (by simpa using hx), List.getLast?_append, List.getLast?_cons]
      cases hd : (((sortW l).dropWhile (fun y => decide (y.d ≤ x.d))).filter (fun w => decide (w.s = i))).getLast? with
      | some v =>
        rw [hd] at ih
        have hv := List.mem_of_getLast? hd
        rw [List.mem_filter] at hv
        have hlate := drop_late hs x v hv.1
        simp only [Option.some_or] at ih
        rw [← ih]
        simp only [betW, Option.getD_some, Option.some_or]
        rw [if_neg (by omega)]
      | none =>
        rw [hd] at ih
        simp only [Option.none_or] at ih
        rw [← ih]
        simp only [Option.getD_none, Option.some_or]
        cases ht : (((sortW l).takeWhile (fun y => decide (y.d ≤ x.d))).filter (fun w => decide (w.s = i))).getLast? with
        | none => simp [betW, hx]
        | some u =>
          have hu := List.mem_of_getLast? ht
          rw [List.mem_filter] at hu
          have := take_early x u hu.1
          simp [betW, hx, this]
    · rw [List.filter_cons_of_neg (by simpa using hx), List.getLast?_append, ih]
      cases hl : lastW l i with
      | none => simp [betW, hx]
      | some v => simp [betW, hx]

theorem lastW_only {l m : List Wrk} (h1 : ∀ w ∈ m, lastW l w.s = some w) (h2 : ∀ i w, lastW l i = some w → w ∈ m) (i : Int) : lastW m i = lastW l i := by
  cases hm : lastW m i with
  | none =>
    cases hl : lastW l i with
    | none => rfl
    | some w =>
      have := lastW_none.1 hm w (h2 i w hl)
      exact absurd (lastW_spec hl).2.1 this
  | some v =>
    obtain ⟨a, b, _⟩ := lastW_spec hm
    rw [← h1 v a, b]
theorem lastW_map {f : Int → Int} (hf : ∀ a b, f a = f b → a = b) (l : List Wrk) (i : Int) : lastW (l.map fun w => ⟨f w.s, w.d, w.g⟩) (f i) = (lastW l i).map fun w => ⟨f w.s, w.d, w.g⟩ := by
  induction l using push_ind with
  | h0 => rfl
  | h1 l x ih =>
    rw [List.map_append, List.map_cons, List.map_nil, lastW_push, lastW_push, ih]
    have e : (f x.s = f i) = (x.s = i) := propext ⟨fun h => hf _ _ h, fun h => by rw [h]⟩
    cases lastW l i with
    | none =>
      simp only [betW, Option.map_none, e]
      split <;> rfl
    | some v =>
      simp only [betW, Option.map_some, e]
      split <;> rfl
end Ag
end Go.Cw
end

/- What is told of all sets of seams that can leak: spans and verdicts; who pays. -/
section
set_option maxRecDepth 100000
set_option linter.unusedSimpArgs false
namespace Go.Cw
open Go

namespace Ag
def lenB (f : Nat → Int) : Nat → (Nat → Bool) → Int
  | 0, _ => 0
  | n + 1, p => lenB f n p + if p n then f n else 0
theorem lenB_congr {f : Nat → Int} : ∀ {n : Nat} {p q : Nat → Bool}, (∀ i, i < n → p i = q i) → lenB f n p = lenB f n q
  | 0, _, _, _ => rfl
  | n + 1, p, q, h => by simp only [lenB]; rw [lenB_congr fun i hi => h i (by omega), h n (by omega)]
theorem lenB_nonneg {f : Nat → Int} : ∀ {n : Nat} {p : Nat → Bool}, (∀ i, i < n → 0 ≤ f i) → 0 ≤ lenB f n p
  | 0, _, _ => Int.le_refl _
  | n + 1, p, h => by
    have h1 := lenB_nonneg (n := n) (p := p) fun i hi => h i (by omega)
    have h2 := h n (by omega)
    simp only [lenB]; split <;> omega
theorem lenB_mono {f : Nat → Int} : ∀ {n : Nat} {p q : Nat → Bool}, (∀ i, i < n → 0 ≤ f i) → (∀ i, i < n → p i = true → q i = true) → lenB f n p ≤ lenB f n q
  | 0, _, _, _, _ => Int.le_refl _
  | n + 1, p, q, hf, h => by
    have h1 := lenB_mono (n := n) (fun i hi => hf i (by omega)) fun i hi => h i (by omega)
    have h2 := hf n (by omega)
    have h3 := h n (by omega)
    simp only [lenB]
    cases hp : p n
    · simp; split <;> omega
    · rw [h3 hp]; simp; exact h1
theorem lenB_zero {f : Nat → Int} : ∀ {n : Nat} {p : Nat → Bool}, (∀ i, i < n → p i = false) → lenB f n p = 0
  | 0, _, _ => rfl
  | n + 1, p, h => by simp only [lenB]; rw [lenB_zero fun i hi => h i (by omega), h n (by omega)]; rfl
theorem lenB_pos {f : Nat → Int} : ∀ {n : Nat} {p : Nat → Bool}, (∀ i, i < n → 1 ≤ f i) → (0 < lenB f n p ↔ ∃ i, i < n ∧ p i = true)
  | 0, _, _ => by simp [lenB]
  | n + 1, p, hf => by
    have ih := lenB_pos (n := n) (p := p) fun i hi => hf i (by omega)
    have h0 := lenB_nonneg (n := n) (p := p) (f := f) fun i hi => by have := hf i (by omega); omega
    have h1 := hf n (by omega)
    simp only [lenB]
    constructor
    · intro h
      by_cases hp : p n = true
      · exact ⟨n, by omega, hp⟩
      · rw [if_neg hp] at h
        obtain ⟨i, h2, h3⟩ := ih.1 (by omega)
        exact ⟨i, by omega, h3⟩
    · rintro ⟨i, hi, hp⟩
      by_cases e : i = n
      · subst e; rw [if_pos hp]; omega
      · have := ih.2 ⟨i, by omega, hp⟩
        split <;> omega
theorem lenB_split {f : Nat → Int} : ∀ {n : Nat} {p q r : Nat → Bool}, (∀ i, i < n → p i = (q i || r i) ∧ ¬ (q i = true ∧ r i = true)) → lenB f n p = lenB f n q + lenB f n r
  | 0, _, _, _, _ => rfl
  | n + 1, p, q, r, h => by
    obtain ⟨h1, h2⟩ := h n (by omega)
    simp only [lenB]
    rw [lenB_split fun i hi => h i (by omega), h1]
    cases hq : q n <;> cases hr : r n
    · simp
    · simp; omega
    · simp; omega
    · exact absurd ⟨hq, hr⟩ h2
theorem lenB_bound {f : Nat → Int} {M : Int} : ∀ {n : Nat} {p : Nat → Bool}, (∀ i, i < n → 0 ≤ f i ∧ f i ≤ M) → 0 ≤ M → lenB f n p ≤ n * M
  | 0, _, _, _ => by simp [lenB]
  | n + 1, p, hf, hM => by
    have h1 := lenB_bound (n := n) (p := p) (fun i hi => hf i (by omega)) hM
    have h2 := hf n (by omega)
    have e : ((n + 1 : Nat) : Int) * M = n * M + M := by rw [Int.natCast_add, Int.add_mul]; simp
    rw [e]
    simp only [lenB]
    split <;> omega
theorem lenB_front {f : Nat → Int} {p : Nat → Bool} : ∀ n : Nat, lenB f (n + 1) p = (if p 0 then f 0 else 0) + lenB (fun i => f (i + 1)) n (fun i => p (i + 1))
  | 0 => by simp [lenB]
  | n + 1 => by
    rw [show lenB f (n + 1 + 1) p = lenB f (n + 1) p + if p (n + 1) then f (n + 1) else 0 from rfl, lenB_front n]
    simp only [lenB]; omega
theorem lenB_rev : ∀ (n : Nat) {f : Nat → Int} {p : Nat → Bool}, lenB (fun i => f (n - 1 - i)) n (fun i => p (n - 1 - i)) = lenB f n p
  | 0, _, _ => rfl
  | n + 1, f, p => by
    rw [lenB_front]
    have ih := lenB_rev n (f := f) (p := p)
    have e : lenB (fun i => f (n + 1 - 1 - (i + 1))) n (fun i => p (n + 1 - 1 - (i + 1))) = lenB (fun i => f (n - 1 - i)) n (fun i => p (n - 1 - i)) := by
      have e1 : (fun i => f (n + 1 - 1 - (i + 1))) = fun i => f (n - 1 - i) := funext fun i => by congr 1; omega
      have e2 : (fun i => p (n + 1 - 1 - (i + 1))) = fun i => p (n - 1 - i) := funext fun i => by congr 1; omega
      rw [e1, e2]
    rw [e, ih]
    simp only [lenB, Nat.add_sub_cancel, Nat.sub_zero]
    omega

def jst (g : Int → Int) (x : Int × Int) (s : Int) : Int × Int := (min x.1 (g s), max x.2 (g s))
def jn (g : Int → Int) : List Int → Int × Int
  | [] => (0, 0)
  | a :: l => l.foldl (jst g) (g a, g a)
theorem jn_fold (g : Int → Int) (l : List Int) : ∀ x y : Int × Int, l.foldl (jst g) x = y → (∀ s ∈ l, y.1 ≤ g s ∧ g s ≤ y.2) ∧ y.1 ≤ x.1 ∧ x.2 ≤ y.2 ∧ (y.1 = x.1 ∨ ∃ s ∈ l, g s = y.1) ∧ (y.2 = x.2 ∨ ∃ s ∈ l, g s = y.2) := by
  induction l with
  | nil => rintro x y rfl; exact ⟨by simp, Int.le_refl _, Int.le_refl _, .inl rfl, .inl rfl⟩
  | cons a l ih =>
    intro x y hy
    rw [List.foldl_cons] at hy
    obtain ⟨h1, h2, h3, h4, h5⟩ := ih _ y hy
    clear hy ih
    have e1 : (jst g x a).1 = min x.1 (g a) := rfl
    have e2 : (jst g x a).2 = max x.2 (g a) := rfl
    rw [e1] at h2 h4
    rw [e2] at h3 h5
    clear e1 e2
    obtain ⟨b, hb⟩ : ∃ b, b = g a := ⟨_, rfl⟩
    obtain ⟨y1, y2⟩ := y
    obtain ⟨x1, x2⟩ := x
    simp only at h1 h2 h3 h4 h5 ⊢
    rw [← hb] at h2 h3 h4 h5
    have k1 : y1 ≤ x1 ∧ y1 ≤ b := by clear h4 h5; omega
    have k2 : x2 ≤ y2 ∧ b ≤ y2 := by clear h4 h5; omega
    have k3 : y1 = x1 ∨ y1 = b ∨ ∃ s ∈ l, g s = y1 := by
      rcases h4 with h | h
      · clear h5
        by_cases hle : x1 ≤ b
        · left; omega
        · right; left; omega
      · exact .inr (.inr h)
    have k4 : y2 = x2 ∨ y2 = b ∨ ∃ s ∈ l, g s = y2 := by
      rcases h5 with h | h
      · clear k3 h4
        by_cases hle : b ≤ x2
        · left; omega
        · right; left; omega
      · exact .inr (.inr h)
    refine ⟨fun s hs => ?_, k1.1, k2.1, ?_, ?_⟩
    · rcases List.mem_cons.1 hs with rfl | hs
      · rw [← hb]; exact ⟨k1.2, k2.2⟩
      · exact h1 s hs
    · rcases k3 with h | h | ⟨s, hs, h⟩
      · exact .inl h
      · exact .inr ⟨a, by simp, by rw [← hb]; exact h.symm⟩
      · exact .inr ⟨s, by simp [hs], h⟩
    · rcases k4 with h | h | ⟨s, hs, h⟩
      · exact .inl h
      · exact .inr ⟨a, by simp, by rw [← hb]; exact h.symm⟩
      · exact .inr ⟨s, by simp [hs], h⟩
theorem jn_spec {g : Int → Int} {l : List Int} (hl : l ≠ []) : (∀ s ∈ l, (jn g l).1 ≤ g s ∧ g s ≤ (jn g l).2) ∧ (∃ s ∈ l, g s = (jn g l).1) ∧ ∃ s ∈ l, g s = (jn g l).2 := by
  cases l with
  | nil => exact absurd rfl hl
  | cons a l =>
    obtain ⟨h1, h2, h3, h4, h5⟩ := jn_fold g l (g a, g a) _ rfl
    simp only [jn]
    refine ⟨fun s hs => ?_, ?_, ?_⟩
    · rcases List.mem_cons.1 hs with rfl | hs
      · exact ⟨h2, h3⟩
      · exact h1 s hs
    · rcases h4 with h | ⟨s, hs, h⟩
      · exact ⟨a, by simp, h.symm⟩
      · exact ⟨s, by simp [hs], h⟩
    · rcases h5 with h | ⟨s, hs, h⟩
      · exact ⟨a, by simp, h.symm⟩
      · exact ⟨s, by simp [hs], h⟩
theorem jn_eq {g : Int → Int} {l : List Int} (hl : l ≠ []) {lo hi : Int} (h1 : ∀ s ∈ l, lo ≤ g s ∧ g s ≤ hi) (h2 : ∃ s ∈ l, g s = lo) (h3 : ∃ s ∈ l, g s = hi) : jn g l = (lo, hi) := by
  obtain ⟨a, ⟨s, hs, b⟩, t, ht, c⟩ := jn_spec (g := g) hl
  obtain ⟨u, hu, d⟩ := h2
  obtain ⟨v, hv, e⟩ := h3
  have := h1 s hs
  have := h1 t ht
  have := a u hu
  have := a v hv
  refine Prod.ext ?_ ?_ <;> simp only <;> omega
theorem jn_same {g g' : Int → Int} {l m : List Int} (hl : l ≠ []) (h1 : ∀ s ∈ l, ∃ t ∈ m, g' t = g s) (h2 : ∀ t ∈ m, ∃ s ∈ l, g s = g' t) : jn g l = jn g' m := by
  have hm : m ≠ [] := by
    obtain ⟨s, hs⟩ := List.exists_mem_of_ne_nil _ hl
    obtain ⟨t, ht, _⟩ := h1 s hs
    exact List.ne_nil_of_mem ht
  obtain ⟨a, ⟨u, hu, b⟩, v, hv, c⟩ := jn_spec (g := g') hm
  refine jn_eq hl (fun s hs => ?_) ?_ ?_
  · obtain ⟨t, ht, e⟩ := h1 s hs
    rw [← e]; exact a t ht
  · obtain ⟨s, hs, e⟩ := h2 u hu
    exact ⟨s, hs, e.trans b⟩
  · obtain ⟨s, hs, e⟩ := h2 v hv
    exact ⟨s, hs, e.trans c⟩
def yesS (n : Nat) (u : Nat → Bool) (s : Int) : Bool := decide (s ≠ 0) && (List.range n).all fun i => !inS s i || u i
theorem yes_iff {n : Nat} {u : Nat → Bool} {s : Int} : yesS n u s = true ↔ s ≠ 0 ∧ ∀ i, i < n → inS s i = true → u i = true := by
  unfold yesS
  rw [Bool.and_eq_true, decide_eq_true_eq, List.all_eq_true]
  refine and_congr_right fun _ => ⟨fun h i hi hs => ?_, fun h i hi => ?_⟩
  · have := h i (List.mem_range.2 hi)
    rw [hs] at this
    simpa using this
  · have hi := List.mem_range.1 hi
    cases hs : inS s i
    · simp
    · simp [h i hi hs]
def toldV (n : Nat) (u : Nat → Bool) (S : List Int) : Int := if S.any (yesS n u) then (if S.any fun s => !yesS n u s then 1 else 2) else (if S.any fun s => !yesS n u s then 0 else 1)
theorem told_two {n : Nat} {u : Nat → Bool} {S : List Int} (hS : S ≠ []) : toldV n u S = 2 ↔ ∀ s ∈ S, yesS n u s = true := by
  unfold toldV
  obtain ⟨a, ha⟩ := List.exists_mem_of_ne_nil _ hS
  constructor
  · intro h s hs
    cases hy : yesS n u s
    · have : (S.any fun s => !yesS n u s) = true := List.any_eq_true.2 ⟨s, hs, by simp [hy]⟩
      rw [this] at h
      split at h <;> simp at h
    · rfl
  · intro h
    have h1 : S.any (yesS n u) = true := List.any_eq_true.2 ⟨a, ha, h a ha⟩
    have h2 : (S.any fun s => !yesS n u s) = false := by
      rw [List.any_eq_false]
      intro s hs; simp [h s hs]
    rw [h1, h2]; rfl
theorem told_same {n : Nat} {u : Nat → Bool} {S T : List Int} (h : ∀ s, s ∈ S ↔ s ∈ T) : toldV n u S = toldV n u T := by
  have e : ∀ p : Int → Bool, S.any p = T.any p := fun p => by
    rw [Bool.eq_iff_iff, List.any_eq_true, List.any_eq_true]
    exact ⟨fun ⟨s, hs, h1⟩ => ⟨s, (h s).1 hs, h1⟩, fun ⟨s, hs, h1⟩ => ⟨s, (h s).2 hs, h1⟩⟩
  unfold toldV
  rw [e, e]
end Ag
end Go.Cw
end

/- Promises by days; gangs; until which day; seams that are numbered otherwise. -/
section
set_option maxRecDepth 100000
set_option linter.unusedSimpArgs false
namespace Go.Cw
open Go

namespace Ag
def pr (W : List Wrk) (day : Int) (i : Nat) : Bool := match lastW W i with
  | some w => decide (day - w.d ≤ 365)
  | none => false
def ofW (W : List Wrk) (i : Nat) : Int := match lastW W i with
  | some w => w.g
  | none => -1
theorem pr_iff {W : List Wrk} {day : Int} {i : Nat} : pr W day i = true ↔ ∃ w, lastW W i = some w ∧ day - w.d ≤ 365 := by
  unfold pr
  cases h : lastW W i with
  | none => simp
  | some w => simp
def mirW (n : Nat) (W : List Wrk) : List Wrk := W.map fun w => ⟨n - 1 - w.s, w.d, w.g⟩
theorem lastW_mir {n : Nat} (W : List Wrk) {i : Nat} (hi : i < n) : lastW (mirW n W) ((n - 1 - i : Nat) : Int) = (lastW W i).map fun w => ⟨n - 1 - w.s, w.d, w.g⟩ := by
  have h := lastW_map (f := fun s => (n : Int) - 1 - s) (fun a b e => by omega) W (i : Int)
  have e : ((n - 1 - i : Nat) : Int) = (n : Int) - 1 - i := by omega
  rw [e]
  exact h
theorem pr_mir {n : Nat} (W : List Wrk) (day : Int) {i : Nat} (hi : i < n) : pr (mirW n W) day (n - 1 - i) = pr W day i ∧ ofW (mirW n W) (n - 1 - i) = ofW W i := by
  unfold pr ofW
  rw [lastW_mir W hi]
  cases lastW W i <;> exact ⟨rfl, rfl⟩
def mirS (n : Nat) (s : Int) : Int := bits (fun i => inS s (n - 1 - i)) n
theorem inS_mir {n : Nat} {s : Int} {i : Nat} (hi : i < n) : inS (mirS n s) i = inS s (n - 1 - i) := inS_bits _ hi
theorem mir_zero {n : Nat} {s : Int} (hs : 0 ≤ s ∧ s < 2 ^ n) : mirS n s = 0 ↔ s = 0 := by
  constructor
  · intro h
    refine Rk.all_same (n := n) hs ⟨Int.le_refl _, by have := hs.1; have := hs.2; omega⟩ fun i hi => ?_
    have := inS_mir (s := s) (i := n - 1 - i) (n := n) (by omega)
    rw [h, show n - 1 - (n - 1 - i) = i by omega] at this
    rw [← this]
    unfold inS; simp
  · intro h
    subst h
    exact bits_zero.2 fun i _ => by unfold inS; simp
theorem yes_mir {n : Nat} {u v : Nat → Bool} (hu : ∀ i, i < n → v (n - 1 - i) = u i) {s : Int} (hs : 0 ≤ s ∧ s < 2 ^ n) : yesS n v (mirS n s) = yesS n u s := by
  rw [Bool.eq_iff_iff, yes_iff, yes_iff, show (mirS n s ≠ 0) = (s ≠ 0) from propext (not_congr (mir_zero hs))]
  refine and_congr_right fun _ => ⟨fun h i hi hsi => ?_, fun h i hi hsi => ?_⟩
  · rw [← hu i hi]
    refine h (n - 1 - i) (by omega) ?_
    rw [inS_mir (by omega), show n - 1 - (n - 1 - i) = i by omega]
    exact hsi
  · rw [inS_mir hi] at hsi
    have := hu (n - 1 - i) (by omega)
    rw [show n - 1 - (n - 1 - i) = i by omega] at this
    rw [this]
    exact h _ (by omega) hsi
theorem told_mir {n : Nat} {u v : Nat → Bool} (hu : ∀ i, i < n → v (n - 1 - i) = u i) {S : List Int} (hS : ∀ s ∈ S, 0 ≤ s ∧ s < 2 ^ n) : toldV n v (S.map (mirS n)) = toldV n u S := by
  have e : ∀ p q : Int → Bool, (∀ s ∈ S, p (mirS n s) = q s) → (S.map (mirS n)).any p = S.any q := fun p q h => by
    rw [Bool.eq_iff_iff, List.any_eq_true, List.any_eq_true]
    constructor
    · rintro ⟨t, ht, h1⟩
      obtain ⟨s, hs, rfl⟩ := List.mem_map.1 ht
      exact ⟨s, hs, by rw [← h s hs]; exact h1⟩
    · rintro ⟨s, hs, h1⟩
      exact ⟨mirS n s, List.mem_map.2 ⟨s, hs, rfl⟩, by rw [h s hs]; exact h1⟩
  unfold toldV
  rw [e _ (yesS n u) fun s hs => yes_mir hu (hS s hs), e _ (fun s => !yesS n u s) fun s hs => by rw [yes_mir hu (hS s hs)]]
def payS (f : Nat → Int) (n : Nat) (u : Nat → Bool) (s : Int) : Int := lenB f n fun i => inS s i && u i
theorem pay_mir {n : Nat} {f : Nat → Int} {u v : Nat → Bool} (hu : ∀ i, i < n → v (n - 1 - i) = u i) (s : Int) : payS (fun i => f (n - 1 - i)) n v (mirS n s) = payS f n u s := by
  unfold payS
  rw [← lenB_rev n (f := f) (p := fun i => inS s i && u i)]
  refine lenB_congr fun i hi => ?_
  have := hu (n - 1 - i) (by omega)
  rw [show n - 1 - (n - 1 - i) = i by omega] at this
  rw [inS_mir hi, this]
theorem jn_map (g : Int → Int) (h : Int → Int) {S : List Int} : jn g (S.map h) = jn (fun s => g (h s)) S := by
  cases S with
  | nil => rfl
  | cons a l =>
    simp only [jn, List.map_cons, List.foldl_map]
    rfl
theorem jn_congr {g g' : Int → Int} {S : List Int} (h : ∀ s ∈ S, g s = g' s) : jn g S = jn g' S := by
  by_cases hS : S = []
  · subst hS; rfl
  · exact jn_same hS (fun s hs => ⟨s, hs, (h s hs).symm⟩) fun s hs => ⟨s, hs, h s hs⟩

def IsFirst (n : Nat) (W : List Wrk) (S : List Int) (first : Int) : Prop :=
  (∃ s ∈ S, ∃ i, i < n ∧ inS s i = true ∧ ∃ w, lastW W i = some w ∧ w.d = first) ∧ ∀ s ∈ S, ∀ i, i < n → inS s i = true → ∀ w, lastW W i = some w → first ≤ w.d
theorem first_uniq {n : Nat} {W : List Wrk} {S : List Int} {a b : Int} (ha : IsFirst n W S a) (hb : IsFirst n W S b) : a = b := by
  obtain ⟨⟨s, hs, i, hi, hsi, w, hw, e⟩, h1⟩ := ha
  obtain ⟨⟨t, ht, j, hj, htj, v, hv, e2⟩, h2⟩ := hb
  have := h1 t ht j hj htj v hv
  have := h2 s hs i hi hsi w hw
  omega
theorem first_ex {n : Nat} {W : List Wrk} {S : List Int} {today : Int} (hS : S ≠ []) (hr : ∀ s ∈ S, 0 ≤ s ∧ s < 2 ^ n) (h : toldV n (pr W today) S = 2) : ∃ s ∈ S, ∃ i, i < n ∧ inS s i = true ∧ ∃ w, lastW W i = some w := by
  obtain ⟨s, hs⟩ := List.exists_mem_of_ne_nil _ hS
  obtain ⟨h1, h2⟩ := yes_iff.1 ((told_two hS).1 h s hs)
  have : ∃ i, i < n ∧ inS s i = true := by
    refine Classical.byContradiction fun hc => h1 ?_
    refine Rk.all_same (n := n) (hr s hs) ⟨Int.le_refl _, by have := hr s hs; omega⟩ fun i hi => ?_
    cases hsi : inS s i
    · unfold inS; simp
    · exact absurd ⟨i, hi, hsi⟩ hc
  obtain ⟨i, hi, hsi⟩ := this
  obtain ⟨w, hw, _⟩ := pr_iff.1 (h2 i hi hsi)
  exact ⟨s, hs, i, hi, hsi, w, hw⟩
theorem pay_mono {f : Nat → Int} {n : Nat} (hf : ∀ i, i < n → 0 ≤ f i) {u v : Nat → Bool} (h : ∀ i, i < n → u i = true → v i = true) (s : Int) : payS f n u s ≤ payS f n v s := by
  refine lenB_mono hf fun i hi => ?_
  rw [Bool.and_eq_true, Bool.and_eq_true]
  exact fun ⟨a, b⟩ => ⟨a, h i hi b⟩
end Ag
end Go.Cw
end

/- The map of the last works, as it is filled; the set of promises, as it is gathered in whatever order. -/
section
set_option maxRecDepth 100000
set_option linter.unusedSimpArgs false
namespace Go.Cw
open Go

namespace Ag
def endW (p : List Wrk) (k : Int) : Option Wrk := (p.filter fun w => decide (w.s = k)).getLast?
theorem endW_push (p : List Wrk) (w : Wrk) (k : Int) : endW (p ++ [w]) k = if w.s = k then some w else endW p k := by
  unfold endW
  rw [List.filter_append]
  by_cases h : w.s = k
  · rw [if_pos h, List.filter_cons_of_pos (by simpa using h)]; simp
  · rw [if_neg h, List.filter_cons_of_neg (by simpa using h)]; simp
theorem endW_sort (W : List Wrk) (k : Int) : endW (sortW W) k = lastW W k := last_sort W k
def keysW (p : List Wrk) : List Int := p.foldl (fun M w => insK w.s M) []
theorem keysW_push (p : List Wrk) (w : Wrk) : keysW (p ++ [w]) = insK w.s (keysW p) := by simp [keysW]
theorem mem_insK' {k x : Int} {M : List Int} : x ∈ insK k M ↔ x = k ∨ x ∈ M := by
  unfold insK
  split
  · rename_i h
    constructor
    · exact .inr
    · rintro (rfl | h1)
      · exact h
      · exact h1
  · simp [or_comm]
theorem keysW_nodup (p : List Wrk) : (keysW p).Nodup := by
  induction p using push_ind with
  | h0 => simp [keysW]
  | h1 l x ih =>
    rw [keysW_push]
    unfold insK
    split
    · exact ih
    · rename_i h
      rw [List.nodup_append]
      exact ⟨ih, by simp, fun a ha b hb e => by simp at hb; subst hb; subst e; exact h ha⟩
theorem mem_keysW {p : List Wrk} {k : Int} : k ∈ keysW p ↔ ∃ w, endW p k = some w := by
  induction p using push_ind with
  | h0 => simp [keysW, endW]
  | h1 l x ih =>
    rw [keysW_push, mem_insK', endW_push, ih]
    by_cases h : x.s = k
    · rw [if_pos h]; simp [h]
    · rw [if_neg h]
      constructor
      · rintro (e | e)
        · exact absurd e.symm h
        · exact e
      · exact .inr
def gotB (W : List Wrk) (day : Int) (left : List Int) (i : Nat) : Bool := pr W day i && !decide ((i : Int) ∈ left)
theorem got_none (W : List Wrk) (day : Int) (i : Nat) : gotB W day [] i = pr W day i := by simp [gotB]
theorem got_all (W : List Wrk) (day : Int) {left : List Int} (h : ∀ k : Int, k ∈ left ↔ ∃ w, lastW W k = some w) (i : Nat) : gotB W day left i = false := by
  unfold gotB
  cases hp : pr W day i
  · rfl
  · obtain ⟨w, h1, _⟩ := pr_iff.1 hp
    have := (h i).2 ⟨w, h1⟩
    simp [this]
theorem got_step {W : List Wrk} {day : Int} {left rest : List Int} {k : Nat} (h : ∀ x : Int, x ∈ left ↔ x = k ∨ x ∈ rest) (hk : (k : Int) ∉ rest) {w : Wrk} (hw : lastW W k = some w) (i : Nat) :
    gotB W day rest i = (gotB W day left i || (decide (i = k) && decide (day - w.d ≤ 365))) := by
  unfold gotB
  by_cases e : i = k
  · subst e
    have : pr W day i = decide (day - w.d ≤ 365) := by unfold pr; rw [hw]
    have h1 := (h i).2 (.inl rfl)
    rw [this]
    simp [hk, h1]
  · have h1 : decide ((i : Int) ∈ left) = decide ((i : Int) ∈ rest) := decide_eq_decide.2 ⟨fun h2 => by
      rcases (h i).1 h2 with h3 | h3
      · omega
      · exact h3, fun h2 => (h i).2 (.inr h2)⟩
    rw [h1]
    simp [e]
def leastD (a : Int) (d : Int) : Int := if a < 0 ∨ d < a then d else a
theorem least_spec {l : List Int} (hl : ∀ d ∈ l, 0 ≤ d) : (l = [] ∧ l.foldl leastD (-1) = -1) ∨ (l.foldl leastD (-1) ∈ l ∧ ∀ d ∈ l, l.foldl leastD (-1) ≤ d) := by
  induction l using push_ind with
  | h0 => exact .inl ⟨rfl, rfl⟩
  | h1 l x ih =>
    right
    rw [List.foldl_append]
    have hx := hl x (by simp)
    simp only [List.foldl_cons, List.foldl_nil]
    rcases ih fun d hd => hl d (by simp [hd]) with ⟨rfl, e⟩ | ⟨h1, h2⟩
    · rw [e]; simp [leastD]
    · have h0 := hl _ (List.mem_append.2 (.inl h1))
      clear hl ih
      generalize List.foldl leastD (-1) l = y at h0 h1 h2 ⊢
      unfold leastD
      split
      · rename_i hc
        refine ⟨by simp, fun d hd => ?_⟩
        rcases List.mem_append.1 hd with hd | hd
        · have := h2 d hd; omega
        · simp at hd; omega
      · rename_i hc
        refine ⟨List.mem_append.2 (.inl h1), fun d hd => ?_⟩
        rcases List.mem_append.1 hd with hd | hd
        · exact h2 d hd
        · simp at hd; omega
end Ag
end Go.Cw
end
