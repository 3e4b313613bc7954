/-
  What the functions of layer 5, and of the document's reference for it, compute.
-/
import Derived.Test.YtggclbdfeaaapaaGreatAf
import Derived.Test.YtggclbdfeaaapaaGreatGa
import Derived.Test.YtggclbdfeaaapaaGreatGb
set_option linter.unusedVariables false
set_option linter.unusedSimpArgs false
set_option linter.unusedSectionVars false

/- Drives as plain data, and when they are valid. -/
section
namespace Go.Cw
open Go

structure Drv where
  limits : List Int
  beside : List (Int × Int)
  blows : List (Int × Int)

namespace Drv
def v (d : Drv) : AVal := .agg [L d.limits, LP d.beside, LP d.blows]
@[simp] def cells (d : Drv) : List AVal := [L d.limits, LP d.beside, LP d.blows]
@[simp] theorem v_agg (d : Drv) : d.v = .agg d.cells := (rfl)
def n (d : Drv) : Nat := d.limits.length
def Seam (d : Drv) (k : Int) : Prop := 0 ≤ k ∧ k < d.n
instance (d : Drv) (k : Int) : Decidable (d.Seam k) := inferInstanceAs (Decidable (_ ∧ _))
def deg (d : Drv) (k : Int) : Nat := d.beside.countP fun p => decide (p.1 = k) || decide (p.2 = k)

theorem deg_le (d : Drv) (k : Int) : d.deg k ≤ d.beside.length := List.countP_le_length

structure Valid (d : Drv) : Prop where
  n1 : 1 ≤ d.n
  n6 : d.n ≤ 6
  bl : d.blows.length = d.n
  pr : ∀ (i : Nat) p, d.beside[i]? = some p → d.Seam p.1 ∧ d.Seam p.2 ∧ p.1 < p.2 ∧ ∀ k : Nat, k < i → d.beside[k]? ≠ some p
  sm : ∀ (i : Nat) l s, d.limits[i]? = some l → d.blows[i]? = some s → 1 ≤ l ∧ l ≤ 6 ∧ d.deg i < l ∧ 0 ≤ s.1 ∧ s.1 ≤ s.2 ∧ s.2 ≤ 12 ∧ s.2 - s.1 ≤ 2

noncomputable instance (d : Drv) : Decidable d.Valid := Classical.propDecidable _

structure Small (d : Drv) : Prop where
  l : d.limits.length ≤ 40
  p : d.beside.length ≤ 40
  b : d.blows.length ≤ 40
theorem Valid.pair {d : Drv} (hv : d.Valid) (k : Nat) (hk : k < d.beside.length) : ∃ a b : Nat, d.beside[k] = ((a : Int), (b : Int)) ∧ a < b ∧ b < d.n := by
  obtain ⟨h1, h2, h3, _⟩ := hv.pr k d.beside[k] (by simp [hk])
  refine ⟨d.beside[k].1.toNat, d.beside[k].2.toNat, ?_, ?_, ?_⟩
  · have := h1.1; have := h2.1
    ext <;> simp <;> omega
  · have := h1.1; omega
  · have := h1.1; have := h2.2; omega

def lim (d : Drv) (i : Nat) : Int := d.limits.getD i 0
theorem Valid.lim_pos {d : Drv} (hv : d.Valid) {i : Nat} (hi : i < d.n) : 1 ≤ d.lim i ∧ d.lim i ≤ 6 ∧ d.deg i < d.lim i := by
  have hl : i < d.limits.length := hi
  have hb : i < d.blows.length := by rw [hv.bl]; exact hi
  obtain ⟨h1, h2, h3, _⟩ := hv.sm i d.limits[i] d.blows[i] (by simp [hl]) (by simp [hb])
  simp [lim, hl]
  exact ⟨h1, h2, h3⟩
theorem lim_get (d : Drv) {i : Nat} (hi : i < d.n) : d.limits[i]? = some (d.lim i) := by
  have hl : i < d.limits.length := hi
  simp [lim, hl]

theorem lim_at (d : Drv) {i : Nat} (hl : i < d.limits.length) : d.limits[i] = d.lim i := by simp [lim, hl]

/-- How many blows a seam gets of another one that opens, of some pairs. -/
def cntL (l : List (Int × Int)) (i j : Nat) : Nat := l.countP fun p => decide (p = ((i : Int), (j : Int))) || decide (p = ((j : Int), (i : Int)))
def cnt (d : Drv) (i j : Nat) : Nat := cntL d.beside i j
theorem cntL_le (l : List (Int × Int)) (i j : Nat) : cntL l i j ≤ l.length := List.countP_le_length

theorem cntL_take (l : List (Int × Int)) (k : Nat) (hk : k < l.length) (i j : Nat) : cntL (l.take (k + 1)) i j = cntL (l.take k) i j + (if l[k] = ((i : Int), (j : Int)) ∨ l[k] = ((j : Int), (i : Int)) then 1 else 0) := by
  unfold cntL
  rw [← List.take_append_getElem hk, List.countP_append]
  by_cases h : l[k] = ((i : Int), (j : Int)) ∨ l[k] = ((j : Int), (i : Int))
  · rw [if_pos h]; simp only [List.countP_singleton]; rcases h with h | h <;> simp [h]
  · rw [if_neg h]; simp only [List.countP_singleton]; simp_all

/-- The blows behind an opening. -/
def fire (d : Drv) (i : Nat) (c : Nat → Int) : Nat → Int := fun j => c j - (if j = i then d.lim i else 0) + d.cnt i j

/-- The first seam of an order that can open. -/
def firstCan (d : Drv) (order : List Nat) (c : Nat → Int) : Option Nat := order.find? fun i => decide (d.lim i ≤ c i)

/-- The seams as they open by an order, and the blows in the end. -/
inductive Runs (d : Drv) (order : List Nat) : (Nat → Int) → List Nat → (Nat → Int) → Prop where
  | stop {c : Nat → Int} (h : d.firstCan order c = none) : Runs d order c [] c
  | step {c c' : Nat → Int} {i : Nat} {all : List Nat} (h : d.firstCan order c = some i) (r : Runs d order (d.fire i c) all c') : Runs d order c (i :: all) c'

/-- A sum below n. -/
def sum : Nat → (Nat → Int) → Int
  | 0, _ => 0
  | n + 1, c => sum n c + c n

theorem sum_congr {n : Nat} {c c' : Nat → Int} (h : ∀ j, j < n → c j = c' j) : sum n c = sum n c' := by
  induction n with
  | zero => rfl
  | succ n ih => simp only [sum]; rw [ih fun j hj => h j (by omega), h n (by omega)]
theorem sum_add (n : Nat) (c c' : Nat → Int) : sum n (fun j => c j + c' j) = sum n c + sum n c' := by
  induction n with
  | zero => rfl
  | succ n ih => simp only [sum]; omega
theorem sum_sub (n : Nat) (c c' : Nat → Int) : sum n (fun j => c j - c' j) = sum n c - sum n c' := by
  induction n with
  | zero => rfl
  | succ n ih => simp only [sum]; omega
theorem sum_ite (n t : Nat) (x : Int) : sum n (fun j => if j = t then x else 0) = if t < n then x else 0 := by
  induction n with
  | zero => rfl
  | succ n ih =>
    simp only [sum, ih]
    by_cases h : t < n
    · rw [if_pos h, if_neg (by omega : ¬ n = t), if_pos (by omega)]; omega
    · by_cases h2 : t = n
      · subst h2; simp
      · rw [if_neg h, if_neg (by omega : ¬ n = t), if_neg (by omega)]; rfl
theorem sum_zero (n : Nat) : sum n (fun _ => 0) = 0 := by
  induction n with
  | zero => rfl
  | succ n ih => simp only [sum, ih]; rfl
theorem sum_nonneg {n : Nat} {c : Nat → Int} (h : ∀ j, j < n → 0 ≤ c j) : 0 ≤ sum n c := by
  induction n with
  | zero => exact Int.le_refl _
  | succ n ih =>
    simp only [sum]
    have := ih fun j hj => h j (by omega)
    have := h n (by omega)
    omega
theorem sum_mono {n : Nat} {c c' : Nat → Int} (h : ∀ j, j < n → c j ≤ c' j) : sum n c ≤ sum n c' := by
  induction n with
  | zero => exact Int.le_refl _
  | succ n ih =>
    simp only [sum]
    have := ih fun j hj => h j (by omega)
    have := h n (by omega)
    omega
theorem le_sum {n : Nat} {c : Nat → Int} (h : ∀ j, j < n → 0 ≤ c j) {i : Nat} (hi : i < n) : c i ≤ sum n c := by
  induction n with
  | zero => omega
  | succ n ih =>
    simp only [sum]
    by_cases hin : i = n
    · subst hin
      have := sum_nonneg (n := i) (c := c) fun j hj => h j (by omega)
      omega
    · have := ih (fun j hj => h j (by omega)) (by omega)
      have := h n (by omega)
      omega

/-- Blows that are none below nothing, and all together no more than m. -/
structure In (d : Drv) (m : Int) (c : Nat → Int) : Prop where
  pos : ∀ j, j < d.n → 0 ≤ c j
  sum : sum d.n c ≤ m

theorem In.le {d : Drv} {m : Int} {c : Nat → Int} (h : d.In m c) {j : Nat} (hj : j < d.n) : c j ≤ m := Int.le_trans (le_sum h.pos hj) h.sum

theorem sum_cnt {d : Drv} (hv : d.Valid) (i : Nat) : ∀ k, k ≤ d.beside.length → sum d.n (fun j => cntL (d.beside.take k) i j) = ((d.beside.take k).countP fun (p : Int × Int) => decide (p.1 = (i : Int)) || decide (p.2 = (i : Int)) : Nat) := by
  intro k
  induction k with
  | zero => intro _; simp [cntL, sum_zero]
  | succ k ih =>
    intro hk
    have hk' : k < d.beside.length := by omega
    obtain ⟨a, b, hab, h1, h2⟩ := hv.pair k hk'
    have hR : (((d.beside.take (k + 1)).countP fun (p : Int × Int) => decide (p.1 = (i : Int)) || decide (p.2 = (i : Int)) : Nat) : Int) =
        sum d.n (fun j => cntL (d.beside.take k) i j) + (([((a : Int), (b : Int))].countP fun (p : Int × Int) => decide (p.1 = (i : Int)) || decide (p.2 = (i : Int)) : Nat) : Int) := by
      rw [ih (by omega), ← List.take_append_getElem hk', List.countP_append, Int.natCast_add, hab]
    rw [hR]
    simp only [cntL_take _ _ hk', hab]
    have : (fun j => ((cntL (List.take k d.beside) i j + (if ((a : Int), (b : Int)) = ((i : Int), (j : Int)) ∨ ((a : Int), (b : Int)) = ((j : Int), (i : Int)) then 1 else 0) : Nat) : Int)) =
        fun j => (cntL (List.take k d.beside) i j : Int) + ((if j = b then (if a = i then 1 else 0) else 0) + (if j = a then (if b = i then 1 else 0) else 0)) := by
      funext j
      simp only [Prod.mk.injEq, natCast_eq]
      (repeat' split) <;> omega
    rw [this, sum_add, sum_add, sum_ite, sum_ite, if_pos h2, if_pos (by omega : a < d.n)]
    simp only [List.countP_singleton, natCast_eq]
    by_cases q1 : a = i
    · rw [if_neg (by omega : ¬ b = i)]; simp [q1]
    · by_cases q2 : b = i <;> simp [q1, q2]

theorem fire_sum {d : Drv} (hv : d.Valid) {i : Nat} (hi : i < d.n) (c : Nat → Int) : sum d.n (d.fire i c) = sum d.n c - d.lim i + d.deg i := by
  unfold fire cnt
  rw [sum_add, sum_sub, sum_ite, if_pos hi]
  have := sum_cnt hv i d.beside.length (Nat.le_refl _)
  rw [List.take_length] at this
  rw [this]
  rfl

theorem In.fire {d : Drv} (hv : d.Valid) {m : Int} {c : Nat → Int} (h : d.In m c) {i : Nat} (hi : i < d.n) (hc : d.lim i ≤ c i) : d.In m (d.fire i c) := by
  refine ⟨fun j hj => ?_, ?_⟩
  · unfold Drv.fire
    have := h.pos j hj
    split
    · rename_i hji; subst hji; omega
    · omega
  · rw [fire_sum hv hi]
    have := h.sum
    have := (hv.lim_pos hi).2.2
    omega

theorem firstCan_some {d : Drv} {order : List Nat} {c : Nat → Int} {i : Nat} (h : d.firstCan order c = some i) : i ∈ order ∧ d.lim i ≤ c i := by
  refine ⟨List.mem_of_find?_eq_some h, by simpa using List.find?_some h⟩

/-- They come to rest. -/
theorem Runs.total {d : Drv} (hv : d.Valid) {order : List Nat} (ho : ∀ i ∈ order, i < d.n) : ∀ {m : Nat} {c : Nat → Int}, d.In m c → ∃ all c', Runs d order c all c' := by
  intro m
  induction m with
  | zero =>
    intro c h
    refine ⟨[], c, .stop ?_⟩
    cases hf : d.firstCan order c with
    | none => rfl
    | some i =>
      obtain ⟨h1, h2⟩ := firstCan_some hf
      have h3 := ho i h1
      have := (hv.lim_pos h3).1
      have := h.le h3
      omega
  | succ m ih =>
    intro c h
    cases hf : d.firstCan order c with
    | none => exact ⟨[], c, .stop hf⟩
    | some i =>
      obtain ⟨h1, h2⟩ := firstCan_some hf
      have h3 := ho i h1
      have h4 := h.fire hv h3 h2
      have h5 : d.In m (d.fire i c) := by
        refine ⟨h4.pos, ?_⟩
        rw [fire_sum hv h3]
        have := h.sum
        have := (hv.lim_pos h3).2.2
        omega
      obtain ⟨all, c', r⟩ := ih h5
      exact ⟨i :: all, c', .step hf r⟩

theorem Runs.det {d : Drv} {order : List Nat} {c : Nat → Int} {all all' : List Nat} {c₁ c₂ : Nat → Int} (a : Runs d order c all c₁) (b : Runs d order c all' c₂) : all = all' ∧ c₁ = c₂ := by
  induction a generalizing all' c₂ with
  | stop h =>
    cases b with
    | stop _ => exact ⟨rfl, rfl⟩
    | step h' _ => rw [h] at h'; cases h'
  | step h r ih =>
    cases b with
    | stop h' => rw [h] at h'; cases h'
    | step h' r' =>
      rw [h] at h'
      obtain rfl := Option.some.inj h'
      obtain ⟨h1, h2⟩ := ih r'
      exact ⟨by rw [h1], h2⟩

theorem Runs.inn {d : Drv} (hv : d.Valid) {order : List Nat} (ho : ∀ i ∈ order, i < d.n) {c c' : Nat → Int} {all : List Nat} (r : Runs d order c all c') : ∀ {m : Int}, d.In m c → d.In m c' ∧ all.length ≤ m ∧ ∀ i ∈ all, i < d.n := by
  induction r with
  | stop h => intro m hc; exact ⟨hc, by have := sum_nonneg hc.pos; have := hc.sum; simp; omega, by simp⟩
  | @step c₀ c₁ i₀ all₀ h r ih =>
    intro m hc
    obtain ⟨h1, h2⟩ := firstCan_some h
    have h3 := ho _ h1
    have h4 := hc.fire hv h3 h2
    have h5 : d.In (m - 1) (d.fire i₀ c₀) := by
      refine ⟨h4.pos, ?_⟩
      rw [fire_sum hv h3]
      have := hc.sum
      have := (hv.lim_pos h3).2.2
      omega
    obtain ⟨h6, h7, h8⟩ := ih h5
    exact ⟨⟨h6.pos, by have := h6.sum; omega⟩, by simp; omega, by simpa using ⟨h3, h8⟩⟩
end Drv

end Go.Cw
end

/- When a drive is valid: the reference tells it. -/
section
set_option maxRecDepth 100000
set_option linter.unusedSimpArgs false
namespace Go.Cw
open Go Go.Proofs

theorem ref05_in_ok (n lo hi : Int) : APure Pg fn_ref05_in [.int .i64 n, .int .i64 lo, .int .i64 hi] (.bool (decide (lo ≤ n ∧ n ≤ hi))) := by
  refine ref05_in.pure (by simp) ?_
  by_cases h : lo ≤ n <;> simp [h] <;> refine RetV.refl ?_ <;> simp_all

theorem ref05_Seam_ok (d : Drv) (hd : d.Small) (n : Int) : APure Pg fn_ref05_Seam [d.v, .int .i64 n] (.bool (decide (d.Seam n))) := by
  have := hd.l
  refine ref05_Seam.pure (by simp) ?_
  simp [Drv.cells]
  intro s
  refine ⟨Fits.of (by omega) (by omega), PCallK.intro (PInv.func (ref05_in_ok _ _ _)) ?_⟩
  simp
  refine RetV.refl ?_
  have : (0 ≤ n ∧ n ≤ d.limits.length - 1) ↔ d.Seam n := by unfold Drv.Seam Drv.n; omega
  simp [← this]

theorem ref05_Beside_ok (d : Drv) (hd : d.Small) (n : Int) : APure Pg fn_ref05_Beside [d.v, .int .i64 n] (.int .i64 (d.deg n)) := by
  have hp := hd.p
  refine ref05_Beside.pure (by simp) ?_
  simp [Drv.cells]
  intro s
  refine Lp.intro (σ := Nat) (inv := fun i => i ≤ d.beside.length) (vw := fun i => [(1, .int .i64 n), (2, .ptr 2 0 (s+1)), (5, .int .i64 ((d.beside.take i).countP fun p => decide (p.1 = n) || decide (p.2 = n) : Nat)), (6, .int .i64 i)]) (hp := fun _ => [(2, .row d.cells (s+1))]) (ms := fun i => d.beside.length - i) 0 (by simp) (by simp) (by simp [Drv.cells]) ?_
  intro i hi J hJ
  by_cases hc : i < d.beside.length
  · have hx : d.beside.take (i + 1) = d.beside.take i ++ [d.beside[i]] := (List.take_append_getElem hc).symm
    have hy := List.countP_le_length (p := fun p : Int × Int => decide (p.1 = n) || decide (p.2 = n)) (l := d.beside.take i)
    simp at hy
    by_cases h1 : d.beside[i].1 = n <;> by_cases h2 : d.beside[i].2 = n <;> simp [Drv.cells, hc, h1, h2]
    all_goals repeat refine ⟨Fits.of (by omega) (by omega), ?_⟩
    all_goals exact hJ.next (i + 1) (by omega) (by omega) (by simp [hx, h1, h2, -List.take_append_getElem]) (by simp [Drv.cells])
  · simp [Drv.cells, hc]
    refine hJ.exit ?_
    simp
    refine RetV.refl ?_
    rw [List.take_of_length_le (by omega)]
    rfl


theorem ref05_Drive_ok (d : Drv) (hd : d.Small) : APure Pg fn_ref05_Drive [d.v] (.bool (decide d.Valid)) := by
  have hl := hd.l
  have hp := hd.p
  have hb := hd.b
  have vn : ∀ {p : Prop}, (d.Valid → p) → ¬ p → decide d.Valid = false := by
    intro p h k; simp; exact fun v => k (h v)
  refine ref05_Drive.pure (by simp) ?_
  simp [Drv.cells]
  intro s
  refine PCallK.intro (PInv.func (ref05_in_ok _ _ _)) ?_
  by_cases h1 : (1 : Int) ≤ d.limits.length ∧ (d.limits.length : Int) ≤ 6
  · by_cases h2 : d.blows.length = d.limits.length
    · have h2' : (d.blows.length : Int) = d.limits.length := by omega
      simp [h1, h2']
      refine Lp.intro (σ := Nat) (inv := fun i => i ≤ d.beside.length ∧ ∀ (j : Nat) p, j < i → d.beside[j]? = some p → d.Seam p.1 ∧ d.Seam p.2 ∧ p.1 < p.2 ∧ ∀ k : Nat, k < j → d.beside[k]? ≠ some p) (vw := fun i => [(1, .ptr 1 0 (s+1)), (3, .int .i64 i)]) (hp := fun _ => [(1, .row d.cells (s+1))]) (ms := fun i => d.beside.length - i) 0 (by simp) (by simp) (by simp [Drv.cells]) ?_
      rintro i ⟨hi, inv⟩ J hJ
      by_cases hc : i < d.beside.length
      · have bad : ∀ {q : Prop}, (d.Seam d.beside[i].1 ∧ d.Seam d.beside[i].2 ∧ d.beside[i].1 < d.beside[i].2 ∧ (∀ k : Nat, k < i → d.beside[k]? ≠ some d.beside[i]) → q) → ¬ q → decide d.Valid = false :=
          fun h k => vn (fun v => h (v.pr i _ (by simp [hc]))) k
        simp [Drv.cells, hc, setRange]
        refine ⟨by omega, fun s1 => PCallK.intro (PInv.func (ref05_Seam_ok d hd _)) ?_⟩
        by_cases q1 : d.Seam d.beside[i].1
        · simp [q1]
          refine PCallK.intro (PInv.func (ref05_Seam_ok d hd _)) ?_
          by_cases q2 : d.Seam d.beside[i].2
          · by_cases q3 : d.beside[i].1 < d.beside[i].2
            · simp [q2, Int.not_le.2 q3]
              refine Lp.intro (σ := Nat) (inv := fun k => k ≤ i ∧ ∀ j, j < k → d.beside[j]? ≠ some d.beside[i]) (vw := fun k => [(1, .ptr 1 0 (s+1)), (3, .int .i64 i), (4, .ptr 4 0 (s1+1)), (5, .int .i64 k)]) (hp := fun _ => [(1, .row d.cells (s+1)), (4, .row [.int .i64 d.beside[i].1, .int .i64 d.beside[i].2] (s1+1))]) (ms := fun k => i - k) 0 (by simp) (by simp) (by simp [Drv.cells]) ?_
              rintro k ⟨hk, inv2⟩ J2 hJ2
              by_cases hkc : k < i
              · have hkl : k < d.beside.length := by omega
                by_cases q4 : d.beside[k] = d.beside[i]
                · simp [Drv.cells, hkc, hkl, q4]
                  refine ⟨by omega, hJ2.ret ?_⟩
                  simp
                  refine hJ.ret ?_
                  simp
                  refine RetV.refl ?_
                  have : ¬ ∀ j : Nat, j < i → d.beside[j]? ≠ some d.beside[i] := fun h => h k hkc (by simp [hkl, q4])
                  simp [bad (fun v => v.2.2.2) this]
                · have q5 : (d.beside[k].1 == d.beside[i].1 && d.beside[k].2 == d.beside[i].2) = false := by
                    rw [Prod.ext_iff] at q4
                    simpa using q4
                  simp [Drv.cells, hkc, hkl, q5]
                  refine ⟨by omega, Fits.of (by omega) (by omega), hJ2.next (k + 1) ⟨by omega, fun j hj => ?_⟩ (by omega) (by simp) (by simp [Drv.cells])⟩
                  by_cases hjk : j = k
                  · subst hjk; simpa [hkl] using q4
                  · exact inv2 j (by omega)
              · simp [Drv.cells, hkc]
                refine hJ2.exit ?_
                simp
                refine ⟨Fits.of (by omega) (by omega), hJ.next (i + 1) ⟨by omega, fun j p hj hp => ?_⟩ (by omega) (by simp) (by simp [Drv.cells])⟩
                by_cases hji : j = i
                · subst hji
                  obtain rfl : d.beside[j] = p := by simpa [hc] using hp
                  exact ⟨q1, q2, q3, fun k' hk' => inv2 k' (by omega)⟩
                · exact inv j p (by omega) hp
            · simp [q2, Int.not_lt.1 q3]
              refine hJ.ret ?_
              simp
              exact RetV.refl (by rw [bad (fun v => v.2.2.1) q3])
          · simp [q2]
            refine hJ.ret ?_
            simp
            exact RetV.refl (by rw [bad (fun v => v.2.1) q2])
        · simp [q1]
          refine hJ.ret ?_
          simp
          exact RetV.refl (by rw [bad (fun v => v.1) q1])
      · simp [Drv.cells, hc]
        refine hJ.exit ?_
        simp
        have inv : ∀ (j : Nat) (p : Int × Int), d.beside[j]? = some p → d.Seam p.1 ∧ d.Seam p.2 ∧ p.1 < p.2 ∧ ∀ k : Nat, k < j → d.beside[k]? ≠ some p :=
          fun j p hj => inv j p (by have := (List.getElem?_eq_some_iff.1 hj).1; omega) hj
        refine Lp.intro (σ := Nat) (inv := fun i => i ≤ d.limits.length ∧ ∀ (j : Nat) l s, j < i → d.limits[j]? = some l → d.blows[j]? = some s → 1 ≤ l ∧ l ≤ 6 ∧ d.deg j < l ∧ 0 ≤ s.1 ∧ s.1 ≤ s.2 ∧ s.2 ≤ 12 ∧ s.2 - s.1 ≤ 2) (vw := fun i => [(1, .ptr 1 0 (s+1)), (6, .int .i64 i)]) (hp := fun _ => [(1, .row d.cells (s+1))]) (ms := fun i => d.limits.length - i) 0 (by simp) (by simp) (by simp [Drv.cells]) ?_
        rintro i ⟨hi, inv2⟩ J hJ
        by_cases hc : i < d.limits.length
        · have hcb : i < d.blows.length := by omega
          have bad : ∀ {q : Prop}, (1 ≤ d.limits[i] ∧ d.limits[i] ≤ 6 ∧ d.deg i < d.limits[i] ∧ 0 ≤ d.blows[i].1 ∧ d.blows[i].1 ≤ d.blows[i].2 ∧ d.blows[i].2 ≤ 12 ∧ d.blows[i].2 - d.blows[i].1 ≤ 2 → q) → ¬ q → decide d.Valid = false :=
            fun h k => vn (fun v => h (v.sm i _ _ (by simp [hc]) (by simp [hcb]))) k
          simp [Drv.cells, hc, hcb, setRange]
          refine ⟨by omega, fun s1 => PCallK.intro (PInv.func (ref05_in_ok _ _ _)) ?_⟩
          by_cases q1 : 1 ≤ d.limits[i] ∧ d.limits[i] ≤ 6
          · simp [hc, hcb, q1]
            refine PCallK.intro (PInv.func (ref05_Beside_ok d hd _)) ?_
            have := d.deg_le i
            by_cases q2 : (d.deg i : Int) < d.limits[i]
            · by_cases q3 : 0 ≤ d.blows[i].1
              · by_cases q4 : d.blows[i].1 ≤ d.blows[i].2
                · by_cases q5 : d.blows[i].2 ≤ 12
                  · have q6 : Fits (d.blows[i].2 - d.blows[i].1) := Fits.of (by omega) (by omega)
                    by_cases q7 : d.blows[i].2 - d.blows[i].1 ≤ 2
                    · simp [hc, hcb, Int.not_le.2 q2, Int.not_lt.2 q3, Int.not_lt.2 q4, Int.not_lt.2 q5, Int.not_lt.2 q7, q6]
                      refine ⟨Fits.of (by omega) (by omega), hJ.next (i + 1) ⟨by omega, fun j l s hj hl hs => ?_⟩ (by omega) (by simp) (by simp [Drv.cells])⟩
                      by_cases hji : j = i
                      · subst hji
                        obtain rfl : d.limits[j] = l := by simpa [hc] using hl
                        obtain rfl : d.blows[j] = s := by simpa [hcb] using hs
                        exact ⟨q1.1, q1.2, q2, q3, q4, q5, q7⟩
                      · exact inv2 j l s (by omega) hl hs
                    · simp [hc, hcb, Int.not_le.2 q2, Int.not_lt.2 q3, Int.not_lt.2 q4, Int.not_lt.2 q5, Int.not_le.1 q7, q6]
                      refine hJ.ret ?_
                      simp
                      exact RetV.refl (by rw [bad (fun v => v.2.2.2.2.2.2) q7])
                  · simp [hc, hcb, Int.not_le.2 q2, Int.not_lt.2 q3, Int.not_lt.2 q4, Int.not_le.1 q5]
                    refine hJ.ret ?_
                    simp
                    exact RetV.refl (by rw [bad (fun v => v.2.2.2.2.2.1) q5])
                · simp [hc, hcb, Int.not_le.2 q2, Int.not_lt.2 q3, Int.not_le.1 q4]
                  refine hJ.ret ?_
                  simp
                  exact RetV.refl (by rw [bad (fun v => v.2.2.2.2.1) q4])
              · simp [hc, hcb, Int.not_le.2 q2, Int.not_le.1 q3]
                refine hJ.ret ?_
                simp
                exact RetV.refl (by rw [bad (fun v => v.2.2.2.1) q3])
            · simp [hc, hcb, Int.not_lt.1 q2]
              refine hJ.ret ?_
              simp
              exact RetV.refl (by rw [bad (fun v => v.2.2.1) q2])
          · simp [hc, hcb, q1]
            refine hJ.ret ?_
            simp
            exact RetV.refl (by rw [bad (fun v => (⟨v.1, v.2.1⟩ : 1 ≤ d.limits[i] ∧ d.limits[i] ≤ 6)) q1])
        · simp [Drv.cells, hc]
          refine hJ.exit ?_
          simp
          refine RetV.refl ?_
          have : d.Valid := ⟨by unfold Drv.n; omega, by unfold Drv.n; omega, h2, inv, fun j l s hl hs => inv2 j l s (by have := (List.getElem?_eq_some_iff.1 hl).1; omega) hl hs⟩
          simp [this]
    · have h2' : ¬ (d.blows.length : Int) = d.limits.length := by omega
      simp [h1, h2']
      exact RetV.refl (by simp [vn (fun v => v.bl) h2])
  · simp [h1]
    refine RetV.refl ?_
    rw [vn (fun v => (⟨by have := v.n1; unfold Drv.n at this; omega, by have := v.n6; unfold Drv.n at this; omega⟩ : (1 : Int) ≤ d.limits.length ∧ (d.limits.length : Int) ≤ 6)) h1]

end Go.Cw
end

/- What becomes of blows if a seam opens: the reference tells it. -/
section
set_option maxRecDepth 100000
set_option linter.unusedSimpArgs false
namespace Go.Cw
open Go Go.Proofs

theorem ref05_open_ok (d : Drv) (hd : d.Small) (hv : d.Valid) (c : Nat → Int) (hc : ∀ j, j < d.n → 0 ≤ c j ∧ c j ≤ 10000) (i : Nat) (hi : i < d.n) :
    APure Pg fn_ref05_open [d.v, L (tab d.n c), .int .i64 i] (L (tab d.n (d.fire i c))) := by
  have hp := hd.p
  have hn : d.n ≠ 0 := by omega
  have hn' : 0 < d.n := by omega
  have hn6 := hv.n6
  have hlim := hv.lim_pos hi
  have hl := d.lim_get hi
  have hi' : i < d.limits.length := hi
  refine ref05_open.pure (by simp) ?_
  simp [Drv.cells, hn, hn', xAp_ne hn, hi, hi', d.lim_at hi']
  intro s s1 s2
  have := hc i hi
  (repeat first | refine And.intro (by omega) ?_ | refine And.intro (Fits.of (by omega) (by omega)) ?_)
  refine Lp.intro (σ := Nat) (inv := fun k => k ≤ d.beside.length) (vw := fun k => [(2, .int .i64 i), (3, .ptr 3 0 (s+1)), (7, .sl 11 0 (s2+1) d.n (.gr 1)), (8, .int .i64 k)])
    (hp := fun k => [(3, .row d.cells (s+1)), (11, .row (ints (tab d.n fun j => c j - (if j = i then d.lim i else 0) + Drv.cntL (d.beside.take k) i j)) (s2+1))]) (ms := fun k => d.beside.length - k) 0 (by simp) (by simp) ?_ ?_
  · simp [Drv.cells, Drv.cntL]
    refine tab_ext fun j hj => ?_
    simp only [upd]
    split <;> simp_all
  · intro k hk J hJ
    by_cases hkc : k < d.beside.length
    · obtain ⟨a, b, hab, h1, h2⟩ := hv.pair k hkc
      have ca := Drv.cntL_le (d.beside.take k) i a
      have cb := Drv.cntL_le (d.beside.take k) i b
      have ha := hc a (by omega)
      have hb := hc b h2
      simp at ca cb
      by_cases q1 : a = i
      · subst q1
        have q2 : ¬ b = a := by omega
        simp [Drv.cells, hkc, hab, h2, q2]
        (repeat first | refine And.intro (by omega) ?_ | refine And.intro (Fits.of (by omega) (by omega)) ?_)
        refine hJ.next (k + 1) (by omega) (by omega) (by simp) ?_
        simp [Drv.cells]
        refine tab_ext fun j hj => ?_
        rw [Drv.cntL_take _ _ hkc, hab]
        by_cases hjb : j = b
        · subst hjb; simp [upd, q2]; omega
        · simp [upd, hjb, Ne.symm hjb, q2]
      · by_cases q2 : b = i
        · subst q2
          simp [Drv.cells, hkc, hab, h2, q1, show a < d.n by omega]
          (repeat first | refine And.intro (by omega) ?_ | refine And.intro (Fits.of (by omega) (by omega)) ?_)
          refine hJ.next (k + 1) (by omega) (by omega) (by simp) ?_
          simp [Drv.cells]
          refine tab_ext fun j hj => ?_
          rw [Drv.cntL_take _ _ hkc, hab]
          by_cases hja : j = a
          · subst hja; simp [upd, q1]; omega
          · simp [upd, hja, Ne.symm hja, q1]
        · simp [Drv.cells, hkc, hab, h2, q1, q2]
          (repeat first | refine And.intro (by omega) ?_ | refine And.intro (Fits.of (by omega) (by omega)) ?_)
          refine hJ.next (k + 1) (by omega) (by omega) (by simp) ?_
          simp [Drv.cells]
          refine tab_ext fun j hj => ?_
          rw [Drv.cntL_take _ _ hkc, hab]
          simp [q1, q2]
    · simp [Drv.cells, hkc]
      refine hJ.exit ?_
      simp
      refine RetV.frz 11 rfl  (RetV.refl ?_)
      rw [List.take_of_length_le (by omega)]
      simp [L]
      rfl

end Go.Cw
end

/- Seams as they open by an order: the reference tells it. -/
section
set_option maxRecDepth 100000
set_option linter.unusedSimpArgs false
namespace Go.Cw
open Go Go.Proofs

theorem ref05_run_ok (d : Drv) (hd : d.Small) (hv : d.Valid) (order : List Nat) (ho : ∀ i ∈ order, i < d.n) (hol : order.length ≤ 40) {m : Int} (hm : m ≤ 10000) {c c' : Nat → Int} (hc : d.In m c) {all : List Nat} (r : d.Runs order c all c') :
    APure Pg fn_ref05_run [d.v, L (tab d.n c), L (nats order)] (.tup [L (nats all), L (tab d.n c')]) := by
  have hn := hv.n1
  have hlen := (r.inn hv ho hc).2.1
  refine ref05_run.pure (by simp) ?_
  simp [Drv.cells]
  intro s
  refine Lp.intro' (σ := List Nat × List Nat × (Nat → Int) × Bool × Nat)
    (inv := fun x => all = x.1 ++ x.2.1 ∧ d.Runs order x.2.2.1 x.2.1 c' ∧ d.In m x.2.2.1 ∧ (x.2.2.2.1 = false → x.2.1 = []))
    (vw := fun x => [(1, L (tab d.n x.2.2.1)), (2, L (nats order)), (3, .ptr 3 0 (s+1)), (8, gS 1 40 x.1.length x.2.2.2.2), (9, .bool x.2.2.2.1)])
    (hp := fun x => [(3, .row d.cells (s+1)), (40, gO x.1.length (ints (nats x.1)) x.2.2.2.2)])
    (ms := fun x => 2 * x.2.1.length + (if x.2.2.2.1 then 1 else 0)) ([], all, c, true, 0) (by simpa using ⟨r, hc⟩)
    (Sl.wk 8 .es (by simpa using ALe.nils_es) (Sl.refl ⟨rfl, by simp, by simp [Drv.cells]⟩)) ?_
  rintro ⟨done, rest, cur, again, st⟩ ⟨hall, hr, hcur, ha⟩ J hJ
  simp at hall hr hcur ha
  cases again with
  | false =>
    obtain rfl := ha rfl
    cases hr with
    | stop hf =>
    simp [Drv.cells]
    refine hJ.exit ?_
    simp
    obtain rfl : all = done := by simpa using hall
    refine RetV.le (v' := .tup [.vl all.length (ints (nats all)), L (tab d.n c')]) (h' := upd (upd (upd nilH 40 (gO all.length (ints (nats all)) st)) 3 (.row d.cells (s+1))) 40 .dead) ?_ (RetV.refl (by simp [L]))
    exact VLe.tup_gS (by simp) (by simp)
  | true =>
    simp [Drv.cells]
    refine Lp.intro (σ := Nat) (inv := fun k => k ≤ order.length ∧ ∀ j, j < k → ∀ i, order[j]? = some i → ¬ d.lim i ≤ cur i)
      (vw := fun k => [(1, L (tab d.n cur)), (2, L (nats order)), (3, .ptr 3 0 (s+1)), (8, gS 1 40 done.length st), (9, .bool false), (10, .int .i64 k)])
      (hp := fun x => [(3, .row d.cells (s+1)), (40, gO done.length (ints (nats done)) st)]) (ms := fun k => order.length - k) 0 (by simp) (by simp) (by simp [Drv.cells]) ?_
    rintro k ⟨hk, inv⟩ J2 hJ2
    by_cases hkc : k < order.length
    · have hi := ho order[k] (by simp)
      have hi' : order[k] < d.limits.length := hi
      by_cases q : d.lim order[k] ≤ cur order[k]
      · simp [Drv.cells, hkc, hi, hi', d.lim_at hi', q]
        intro s1 s2
        have hf : d.firstCan order cur = some order[k] := by
          refine List.find?_eq_some_iff_getElem.2 ⟨by simpa using q, k, hkc, rfl, fun j hj => ?_⟩
          have := inv j hj order[j] (by simp [show j < order.length by omega])
          simpa using this
        cases hr with
        | stop h => rw [hf] at h; cases h
        | @step _ _ i₀ all₀ h r' =>
        obtain rfl : order[k] = i₀ := by rw [hf] at h; exact Option.some.inj h
        have hlen' : done.length + all₀.length + 1 = all.length := by rw [hall]; simp; omega
        (repeat first | refine And.intro (by omega) ?_ | refine And.intro (Fits.of (by omega) (by omega)) ?_)
        refine xApN_gS (cells := ints (nats done)) (by simp) (by simp) (by omega) (by omega) ?_
        simp [Drv.cells, hkc]
        refine PCallK.intro (PInv.func (ref05_open_ok d hd hv cur (fun j hj => ⟨hcur.pos j hj, by have := hcur.le hj; omega⟩) order[k] hi)) ?_
        simp
        refine hJ2.exit ?_
        simp
        refine hJ.next (done ++ [order[k]], all₀, d.fire order[k] cur, true, s2 + 1) ⟨by simpa using hall, r', hcur.fire hv hi q, by simp⟩ (by simp) (by simp) (by simp [Drv.cells])
      · simp [Drv.cells, hkc, hi, hi', d.lim_at hi', q]
        (repeat first | refine And.intro (by omega) ?_ | refine And.intro (Fits.of (by omega) (by omega)) ?_)
        refine hJ2.next (k + 1) ⟨by omega, fun j hj i hji => ?_⟩ (by omega) (by simp) (by simp [Drv.cells])
        by_cases hjk : j = k
        · subst hjk; simp [hkc] at hji; subst hji; exact q
        · exact inv j (by omega) i hji
    · simp [Drv.cells, hkc]
      refine hJ2.exit ?_
      simp
      have hf : d.firstCan order cur = none := by
        refine List.find?_eq_none.2 fun i hi => ?_
        obtain ⟨j, hj, rfl⟩ := List.getElem_of_mem hi
        simpa using inv j (by omega) order[j] (by simp [hj])
      cases hr with
      | step h _ => rw [hf] at h; cases h
      | stop _ =>
      exact hJ.next (done, [], c', false, st) ⟨hall, .stop hf, hcur, fun _ => rfl⟩ (by simp) (by simp) (by simp [Drv.cells])

end Go.Cw
end

/- What comes of blows: the reference tells it. -/
section
set_option maxRecDepth 100000
set_option linter.unusedSimpArgs false
namespace Go.Cw
open Go Go.Proofs

theorem ref05_rising_ok (d : Drv) (hd : d.Small) : APure Pg fn_ref05_rising [d.v] (L (nats (List.range d.n))) := by
  have hl : d.limits.length ≤ 40 := hd.l
  refine ref05_rising.pure (by simp) ?_
  simp [Drv.cells]
  intro s
  refine Lp.intro' (σ := Nat × Nat) (inv := fun x => x.1 ≤ d.limits.length)
    (vw := fun x => [(1, .ptr 1 0 (s+1)), (3, gS 1 15 x.1 x.2), (4, .int .i64 x.1)])
    (hp := fun x => [(1, .row d.cells (s+1)), (15, gO x.1 (ints (nats (List.range x.1))) x.2)])
    (ms := fun x => d.limits.length - x.1) (0, 0) (by simp)
    (Sl.wk 3 .es (by simpa using ALe.nils_es) (Sl.refl ⟨rfl, by simp, by simp [Drv.cells]⟩)) ?_
  rintro ⟨k, st⟩ hk J hJ
  simp at hk
  by_cases hkc : k < d.limits.length
  · simp [Drv.cells, hkc]
    intro s1 s2
    refine xApN_gS (cells := ints (nats (List.range k))) (by simp) (by simp) (by omega) (by omega) ?_
    simp
    (repeat first | refine And.intro (by omega) ?_ | refine And.intro (Fits.of (by omega) (by omega)) ?_)
    exact hJ.next (k + 1, s2 + 1) (by simp; omega) (by simp; omega) (by simp) (by simp [Drv.cells, List.range_succ])
  · obtain rfl : k = d.limits.length := by omega
    simp [Drv.cells]
    refine hJ.exit ?_
    simp
    refine RetV.le (VLe.gS (by simp; rfl) (by simp)) (RetV.refl ?_)
    simp [L, Drv.n]

/-- How often each seam opens in a list of openings. -/
def times (all : List Nat) (i : Nat) : Int := (all.countP fun k => k == i : Nat)

theorem times_take (all : List Nat) (k : Nat) (hk : k < all.length) (i : Nat) : times (all.take (k + 1)) i = times (all.take k) i + if i = all[k] then 1 else 0 := by
  unfold times
  rw [← List.take_append_getElem hk, List.countP_append, Int.natCast_add]
  by_cases h : i = all[k]
  · simp [h]
  · simp [h, Ne.symm h]
theorem times_le (all : List Nat) (i : Nat) : 0 ≤ times all i ∧ times all i ≤ all.length := by
  unfold times
  have : all.countP (fun k => k == i) ≤ all.length := List.countP_le_length
  omega

theorem ref05_Rest_ok (d : Drv) (hd : d.Small) (hv : d.Valid) {m : Int} (hm : m ≤ 10000) {c c' : Nat → Int} (hc : d.In m c) {all : List Nat} (r : d.Runs (List.range d.n) c all c') :
    APure Pg fn_ref05_Rest [d.v, L (tab d.n c)] (.tup [L (tab d.n c'), L (tab d.n (times all))]) := by
  have hn := hv.n1
  have hn0 : d.n ≠ 0 := by omega
  have hn1 : 0 < d.n := by omega
  have hn6 := hv.n6
  obtain ⟨hc', hlen, hall⟩ := r.inn hv (by simp) hc
  refine ref05_Rest.pure (by simp) ?_
  simp [Drv.cells]
  intro s
  refine PCallK.intro (PInv.func (ref05_rising_ok d hd)) ?_
  simp
  refine PCallK.intro (PInv.func (ref05_run_ok d hd hv (List.range d.n) (by simp) (by simp; omega) hm hc r)) ?_
  simp
  intro s1
  refine ⟨by omega, ?_⟩
  refine Lp.intro (σ := Nat) (inv := fun k => k ≤ all.length)
    (vw := fun k => [(6, L (nats all)), (7, L (tab d.n c')), (8, .sl 20 0 (s1+1) d.n (.ex d.n)), (9, .int .i64 k)])
    (hp := fun k => [(20, .row (ints (tab d.n (times (all.take k)))) (s1+1))])
    (ms := fun k => all.length - k) 0 (by simp) (by simp) ?_ ?_
  · simp [ints_replicate]
    apply List.ext_getElem?
    intro j
    rw [tab_get, List.getElem?_replicate]
    split <;> simp [times]
  rintro k hk J hJ
  by_cases hkc : k < all.length
  · have hx := hall all[k] (by simp)
    simp [hkc, hx]
    have ht := times_le (all.take k) all[k]
    simp at ht
    (repeat first | refine And.intro (by omega) ?_ | refine And.intro (Fits.of (by omega) (by omega)) ?_)
    refine hJ.next (k + 1) (by omega) (by omega) (by simp) ?_
    simp
    refine tab_ext fun j hj => ?_
    rw [times_take _ _ hkc]
    simp only [upd]
    split <;> simp_all
  · obtain rfl : k = all.length := by omega
    simp
    refine hJ.exit ?_
    simp [xAp_ne hn0, hn1, hn0]
    intro s2 s3
    (repeat first | refine And.intro (by omega) ?_ | refine And.intro (Fits.of (by omega) (by omega)) ?_)
    refine RetV.frz 38 rfl (RetV.frz 20 rfl (RetV.refl ?_))
    simp [L]

end Go.Cw
end

/- When lists are blows or an order; what Settle and Run of the reference tell. -/
section
set_option maxRecDepth 100000
set_option linter.unusedSimpArgs false
namespace Go.Cw
open Go Go.Proofs

def Drv.Blows (d : Drv) (l : List Int) : Prop := l.length = d.n ∧ ∀ x ∈ l, 0 ≤ x ∧ x ≤ 52
instance (d : Drv) (l : List Int) : Decidable (d.Blows l) := inferInstanceAs (Decidable (_ ∧ _))



def Drv.Order (d : Drv) (l : List Int) : Prop := l.length = d.n ∧ ∀ i : Nat, i < d.n → l.count (i : Int) = 1
instance (d : Drv) (l : List Int) : Decidable (d.Order l) := inferInstanceAs (Decidable (_ ∧ _))


end Go.Cw
end

/- What Settle and Run of the reference tell. -/
section
set_option maxRecDepth 100000
set_option linter.unusedSimpArgs false
namespace Go.Cw
open Go Go.Proofs

namespace Drv
open Classical in
/-- The seams as they open, and what is left. -/
noncomputable def runOf (d : Drv) (order : List Nat) (c : Nat → Int) : List Nat × (Nat → Int) :=
  if h : ∃ p : List Nat × (Nat → Int), d.Runs order c p.1 p.2 then h.choose else ([], c)

theorem Runs.eq {d : Drv} {order : List Nat} {c c' : Nat → Int} {all : List Nat} (r : d.Runs order c all c') : d.runOf order c = (all, c') := by
  have h : ∃ p : List Nat × (Nat → Int), d.Runs order c p.1 p.2 := ⟨(all, c'), r⟩
  unfold runOf
  rw [dif_pos h]
  obtain ⟨h1, h2⟩ := h.choose_spec.det r
  exact Prod.ext h1 h2

noncomputable def left (d : Drv) (c : Nat → Int) : Nat → Int := (d.runOf (List.range d.n) c).2
noncomputable def odo (d : Drv) (c : Nat → Int) : Nat → Int := times (d.runOf (List.range d.n) c).1

theorem In.of_le {d : Drv} (hv : d.Valid) {c : Nat → Int} {m : Int} (h : ∀ j, j < d.n → 0 ≤ c j ∧ c j ≤ m) (hm : 0 ≤ m) : d.In (6 * m) c := by
  refine ⟨fun j hj => (h j hj).1, ?_⟩
  have key : ∀ n : Nat, (∀ j, j < n → c j ≤ m) → Drv.sum n c ≤ n * m := by
    intro n
    induction n with
    | zero => intro _; simp [Drv.sum]
    | succ n ih =>
      intro h
      have h1 := ih fun j hj => h j (by omega)
      have h2 := h n (by omega)
      simp only [Drv.sum, Int.natCast_add, Int.add_mul]
      omega
  refine Int.le_trans (key d.n fun j hj => (h j hj).2) ?_
  exact Int.mul_le_mul_of_nonneg_right (by have := hv.n6; omega) hm

theorem In.runs {d : Drv} (hv : d.Valid) {order : List Nat} (ho : ∀ i ∈ order, i < d.n) {c : Nat → Int} {m : Int} (h : d.In m c) : d.Runs order c (d.runOf order c).1 (d.runOf order c).2 := by
  have hm : 0 ≤ m := Int.le_trans (sum_nonneg h.pos) h.sum
  obtain ⟨all, c', r⟩ := Runs.total hv ho (m := m.toNat) (c := c) ⟨h.pos, by have := h.sum; omega⟩
  rw [r.eq]; exact r
end Drv

theorem ref05_Rest_ok' (d : Drv) (hd : d.Small) (hv : d.Valid) {c : Nat → Int} (hc : ∀ j, j < d.n → 0 ≤ c j ∧ c j ≤ 1000) : APure Pg fn_ref05_Rest [d.v, L (tab d.n c)] (.tup [L (tab d.n (d.left c)), L (tab d.n (d.odo c))]) := by
  have h := Drv.In.of_le hv hc (by omega)
  exact ref05_Rest_ok d hd hv (by omega) h (h.runs hv (by simp))

theorem Drv.Blows.tab {d : Drv} {l : List Int} (h : d.Blows l) : tab d.n (ofL l) = l := by rw [← h.1]; exact tab_of l
theorem Drv.Blows.le {d : Drv} {l : List Int} (h : d.Blows l) (j : Nat) (hj : j < d.n) : 0 ≤ ofL l j ∧ ofL l j ≤ 52 := by
  have hj' : j < l.length := by rw [h.1]; exact hj
  have : ofL l j = l[j] := by simp [ofL, hj']
  rw [this]; exact h.2 _ (by simp)

noncomputable def Drv.settleV (d : Drv) (l : List Int) : AVal :=
  if d.Valid then (if d.Blows l then .tup [L (tab d.n (d.left (ofL l))), L (tab d.n (d.odo (ofL l))), .int .i64 0] else .tup [L [], L [], .int .i64 2]) else .tup [L [], L [], .int .i64 1]

theorem ALe.nils_L : ALe .nils (L []) := ALe.nils_vl


/-- An order as numbers of seams. -/
def toN (l : List Int) : List Nat := l.map Int.toNat
theorem count_below (l : List Int) (n : Nat) (h : ∀ i : Nat, i < n → l.count (i : Int) = 1) : l.countP (fun (x : Int) => decide (0 ≤ x ∧ x < (n : Int))) = n := by
  induction n with
  | zero =>
    rw [List.countP_eq_zero]
    intro x _
    simp only [decide_eq_true_eq]; omega
  | succ n ih =>
    have h1 := ih fun i hi => h i (by omega)
    have h2 := h n (by omega)
    have : l.countP (fun (x : Int) => decide (0 ≤ x ∧ x < ((n + 1 : Nat) : Int))) = l.countP (fun (x : Int) => decide (0 ≤ x ∧ x < (n : Int))) + l.count (n : Int) := by
      clear h1 h2 h ih
      induction l with
      | nil => rfl
      | cons a l ih =>
        simp only [List.countP_cons, List.count_cons, decide_eq_true_eq, beq_iff_eq]
        rw [ih]
        (repeat' split) <;> omega
    rw [this, h1, h2]
theorem Drv.Order.mem {d : Drv} {l : List Int} (h : d.Order l) : ∀ x ∈ l, 0 ≤ x ∧ x < d.n := by
  have h1 := count_below l d.n h.2
  rw [← h.1, List.countP_eq_length] at h1
  intro x hx
  have := h1 x hx
  rw [h.1] at this
  simpa using this
theorem Drv.Order.nats {d : Drv} {l : List Int} (h : d.Order l) : nats (toN l) = l := by
  simp only [Go.Cw.nats, toN, List.map_map]
  conv => rhs; rw [← List.map_id l]
  refine List.map_congr_left fun x hx => ?_
  have := h.mem x hx
  simp; omega

noncomputable def Drv.runV (d : Drv) (l order : List Int) : AVal :=
  if d.Valid then (if d.Blows l ∧ d.Order order then .tup [L (nats (d.runOf (toN order) (ofL l)).1), .int .i64 0] else .tup [L [], .int .i64 2]) else .tup [L [], .int .i64 1]


end Go.Cw
end

/- The truths of a drive, as the reference lists them. -/
section
set_option maxRecDepth 100000
set_option linter.unusedSimpArgs false
namespace Go.Cw
open Go Go.Proofs

/-- All lists that go on from one by numbers of spans. -/
def truthsS : List (Int × Int) → List Int → List (List Int)
  | [], b => [b]
  | s :: r, b => (List.range (s.2 - s.1 + 1).toNat).flatMap fun (k : Nat) => truthsS r (b ++ [s.1 + (k : Int)])

def NarrowS (r : List (Int × Int)) : Prop := ∀ s ∈ r, 0 ≤ s.1 ∧ s.1 ≤ s.2 ∧ s.2 ≤ 12 ∧ s.2 - s.1 ≤ 2

theorem truthsS_len : ∀ (r : List (Int × Int)) (b : List Int), NarrowS r → (truthsS r b).length ≤ 3 ^ r.length
  | [], b, _ => by simp [truthsS]
  | s :: r, b, h => by
    have h1 := h s (by simp)
    have ih := fun b => truthsS_len r b fun x hx => h x (by simp [hx])
    simp only [truthsS, List.length_flatMap, List.length_cons]
    have key : ∀ n : Nat, ((List.range n).map fun k : Nat => (truthsS r (b ++ [s.1 + (k : Int)])).length).sum ≤ n * 3 ^ r.length := by
      intro n
      induction n with
      | zero => simp
      | succ n ihn =>
        rw [List.range_succ, List.map_append, List.sum_append_nat, Nat.succ_mul]
        have := ih (b ++ [s.1 + (n : Int)])
        simp only [List.map_cons, List.map_nil, List.sum_cons, List.sum_nil]
        omega
    refine Nat.le_trans (key _) ?_
    rw [Nat.pow_succ, Nat.mul_comm]
    exact Nat.mul_le_mul_left _ (by omega)

theorem Drv.Valid.narrow {d : Drv} (hv : d.Valid) : NarrowS d.blows := by
  intro s hs
  obtain ⟨i, hi, rfl⟩ := List.getElem_of_mem hs
  have hl : i < d.limits.length := by have := hv.bl; unfold Drv.n at this; omega
  have := hv.sm i d.limits[i] d.blows[i] (by simp [hl]) (by simp [hi])
  omega

theorem ref05_truths_ok (d : Drv) (hd : d.Small) (hv : d.Valid) (r : Nat) : ∀ (j : Nat) (b : List Int) (o : List (List Int)) (s : Nat), b.length + j = d.n → o.length + (truthsS (d.blows.drop b.length) b).length ≤ 100000 →
    ∀ K : AEnd → Heap → Prop, (∀ s', K (.ret (gS 1 r (o ++ truthsS (d.blows.drop b.length) b).length s')) (hpV [(r, gO (o ++ truthsS (d.blows.drop b.length) b).length (LL (o ++ truthsS (d.blows.drop b.length) b)) s')])) →
      ACalls Pg fn_ref05_truths [d.v, L b, gS 1 r o.length s] (hpV [(r, gO o.length (LL o) s)]) K := by
  intro j
  obtain ⟨F, hF⟩ : ∃ F, r < F := ⟨r + 1, by omega⟩
  have e1 : ∀ k, ¬ F + k = r := fun k => by omega
  have e2 : ∀ k, ¬ r = F + k := fun k => by omega
  induction j with
  | zero =>
    intro b o s hb hlen K hK
    have hbl : b.length = d.limits.length := hb
    refine ref05_truths.enter F (by simp) ?_
    simp [Drv.cells, hbl]
    intro s1 s2 s3
    refine xApN_gS (cells := LL o) (by simp [e2]) (by simp) (by omega) (by omega) ?_
    have hdr : d.blows.drop b.length = [] := by rw [List.drop_eq_nil_iff]; have := hv.bl; unfold Drv.n at this; omega
    rw [hdr, show truthsS [] b = [b] from rfl] at hK
    simp [e1, e2]
    refine RetV.move (F + 18) r (RetV.view [(r, .row (LL (o ++ [b])) (s3 + 1))] (by simp) ?_)
    simpa using hK (s3 + 1)
  | succ j ih =>
    intro b o s hb hlen K hK
    refine ref05_truths.enter F (by simp) ?_
    have hbl : ¬ b.length = d.limits.length := by unfold Drv.n at hb; omega
    have hbb : b.length < d.blows.length := by have := hv.bl; omega
    obtain ⟨sp, hsp⟩ : ∃ sp, d.blows[b.length] = sp := ⟨_, rfl⟩
    have hnar := hv.narrow sp (by rw [← hsp]; simp)
    have hn6 := hv.n6
    have hT : truthsS (d.blows.drop b.length) b = (List.range (sp.2 - sp.1 + 1).toNat).flatMap fun (k : Nat) => truthsS (d.blows.drop (b.length + 1)) (b ++ [sp.1 + (k : Int)]) := by
      rw [List.drop_eq_getElem_cons hbb, hsp]; rfl
    rw [hT] at hK hlen
    obtain ⟨OUT, hOUT⟩ : ∃ OUT : Nat → List (List Int), OUT = fun k => o ++ ((List.range k).flatMap fun (k : Nat) => truthsS (d.blows.drop (b.length + 1)) (b ++ [sp.1 + (k : Int)])) := ⟨_, rfl⟩
    have hO0 : OUT 0 = o := by rw [hOUT]; simp
    have hOs : ∀ k, OUT (k + 1) = OUT k ++ truthsS (d.blows.drop (b.length + 1)) (b ++ [sp.1 + (k : Int)]) := by
      intro k; rw [hOUT]; simp only [List.range_succ, List.flatMap_append, List.append_assoc]; simp
    have hOm : ∀ k m, (OUT k).length ≤ (OUT (k + m)).length := by
      intro k m
      induction m with
      | zero => exact Nat.le_refl _
      | succ m ih => rw [← Nat.add_assoc, hOs, List.length_append]; omega
    rw [show o ++ ((List.range (sp.2 - sp.1 + 1).toNat).flatMap fun (k : Nat) => truthsS (d.blows.drop (b.length + 1)) (b ++ [sp.1 + (k : Int)])) = OUT (sp.2 - sp.1 + 1).toNat by rw [hOUT]] at hK
    rw [← List.length_append, show o ++ ((List.range (sp.2 - sp.1 + 1).toNat).flatMap fun (k : Nat) => truthsS (d.blows.drop (b.length + 1)) (b ++ [sp.1 + (k : Int)])) = OUT (sp.2 - sp.1 + 1).toNat by rw [hOUT]] at hlen
    clear hOUT
    simp [Drv.cells, hbl, hbb, hsp]
    intro s1
    refine ⟨by omega, fun s2 => ?_⟩
    refine Lp.intro (σ := Nat × Nat) (inv := fun x => x.1 ≤ (sp.2 - sp.1 + 1).toNat)
      (vw := fun x => [(1, L b), (2, gS 1 r (OUT x.1).length x.2), (3, .ptr (F + 3) 0 (s1+1)), (7, .ptr (F + 7) 0 (s2+1)), (8, .int .i64 (sp.1 + x.1))])
      (hp := fun x => [(F + 3, .row d.cells (s1+1)), (F + 7, .row [.int .i64 sp.1, .int .i64 sp.2] (s2+1)), (r, gO (OUT x.1).length (LL (OUT x.1)) x.2)])
      (ms := fun x => (sp.2 - sp.1 + 1).toNat - x.1) (0, s) (by simp) (by simp [hO0]) (by simp [Drv.cells, e1, e2, hO0]) ?_
    rintro ⟨k, st⟩ hk J hJ
    simp at hk
    by_cases hkc : k < (sp.2 - sp.1 + 1).toNat
    · have hle : sp.1 + k ≤ sp.2 := by omega
      have hbn : b.length + 1 ≤ 1000 := by omega
      have hone : (OUT (k + 1)).length ≤ 100000 := by
        obtain ⟨m, hm⟩ := Nat.exists_eq_add_of_le hkc
        have := hOm (k + 1) m
        rw [← hm] at this
        omega
      have call : ∀ (s5 : Nat) (d' : Option Nat) (KK : KT) (Q : Post) (tm : TM) (df : DF) (h : Heap), h (F + 39) = .row (ints (b ++ [sp.1 + (k : Int)])) s5 → h r = gO (OUT k).length (LL (OUT k)) st →
          (∀ s', KK (putD tm d' (gS 1 r (OUT (k + 1)).length s')) df (upd (upd h r (gO (OUT (k + 1)).length (LL (OUT (k + 1))) s')) (F + 39) .dead)) →
          FCall ⟨Pg, F, 43, false, []⟩ (.func (.func fn_ref05_truths) [] []) [d.v, .sl (F + 39) 0 s5 (b.length + 1) (.gr 1), gS 1 r (OUT k).length st] [] [] d' KK Q tm df h := by
        intro s5 d' KK Q tm df h h1 h2 hk
        refine FCall.cps [(F + 39, .row (ints (b ++ [sp.1 + (k : Int)])) s5), (r, gO (OUT k).length (LL (OUT k)) st)] (fun s' : Nat => gS 1 r (OUT (k + 1)).length s') (fun s' => [(F + 39, .dead), (r, gO (OUT (k + 1)).length (LL (OUT (k + 1))) s')]) (fun _ => True) ?_ ⟨h1, h2, trivial⟩ (fun _ => rfl) trivial (fun s' _ => ⟨trivial, hk s'⟩)
        intro K' hK'
        refine AInvoke.frz (cells := ints (b ++ [sp.1 + (k : Int)])) (s := s5) (F + 39) (upd_same _ _ _) (AInvoke.func ?_)
        have := ih (b ++ [sp.1 + (k : Int)]) (OUT k) st (by simp; omega) (by simp only [List.length_append, List.length_singleton]; rw [← List.length_append, ← hOs]; exact hone) K' ?_
        · rw [hpV_cons, upd_upd, upd_dead (by simp [e1])]
          simpa [L, e2, Drv.cells, frz_gS (e2 39)] using this
        · intro s'
          have := hK' s' trivial
          rw [show (b ++ [sp.1 + (k : Int)]).length = b.length + 1 by simp]
          rw [hpV_cons, upd_dead (by simp [e1])] at this
          rw [← hOs]
          exact this
      by_cases hb0 : b = []
      · subst hb0
        simp [hle, e1, e2, Drv.cells]
        intro s3 s4 s5
        refine call _ _ _ _ _ _ _ (by simp) (by simp [e2]) fun s' => ?_
        simp
        (repeat first | refine And.intro (by omega) ?_ | refine And.intro (Fits.of (by omega) (by omega)) ?_)
        exact hJ.next (k + 1, s') (by simp; omega) (by simp; omega) (by simp; omega) (by simp [e1, e2, Drv.cells])
      · have hb1 : b.length ≠ 0 := by simpa using hb0
        have hb2 : 0 < b.length := by omega
        simp [hle, e1, e2, Drv.cells, xAp_ne hb1, hb1, hb2, hb0]
        intro s3 s4 s5
        refine ⟨by omega, fun s6 => ⟨by omega, ?_⟩⟩
        refine call _ _ _ _ _ _ _ (by simp) (by simp [e2]) fun s' => ?_
        simp
        (repeat first | refine And.intro (by omega) ?_ | refine And.intro (Fits.of (by omega) (by omega)) ?_)
        exact hJ.next (k + 1, s') (by simp; omega) (by simp; omega) (by simp; omega) (by simp [e1, e2, Drv.cells])
    · have hle : ¬ sp.1 + (k : Int) ≤ sp.2 := by omega
      simp [hle, e1, e2]
      refine hJ.exit ?_
      simp
      obtain rfl : k = (sp.2 - sp.1 + 1).toNat := by omega
      refine RetV.view [(r, gO (OUT (sp.2 - sp.1 + 1).toNat).length (LL (OUT (sp.2 - sp.1 + 1).toNat)) st)] (by simp [e1, e2]) ?_
      exact hK st

end Go.Cw
end

/- What Times and Left of the reference tell; whether two lists are the same. -/
section
set_option maxRecDepth 100000
set_option linter.unusedSimpArgs false
namespace Go.Cw
open Go Go.Proofs

def Drv.truths (d : Drv) : List (List Int) := truthsS d.blows []

theorem Drv.Valid.truths_len {d : Drv} (hv : d.Valid) : d.truths.length ≤ 729 := by
  refine Nat.le_trans (truthsS_len _ _ hv.narrow) ?_
  have h1 : d.blows.length ≤ 6 := by rw [hv.bl]; exact hv.n6
  exact Nat.le_trans (Nat.pow_le_pow_right (by omega) h1) (by decide)

theorem ref05_Truths_ok (d : Drv) (hd : d.Small) (hv : d.Valid) : APure Pg fn_ref05_Truths [d.v] (LLv d.truths) := by
  refine ref05_Truths.pure (by simp) ?_
  simp [Drv.cells]
  intro s
  have hlen := hv.truths_len
  refine FCall.cps [(50, .dead)] (fun s' : Nat => gS 1 50 d.truths.length s') (fun s' => [(50, gO d.truths.length (LL d.truths) s')]) (fun _ => True) ?_ (by simp) (fun _ => rfl) trivial (fun s' _ => ⟨trivial, ?_⟩)
  · intro K' hK'
    refine AInvoke.ale (ALe.refl _) (args' := [d.v, L [], gS 1 50 0 0]) ⟨ALe.refl _, ALe.nils_vl, ALe.nils_es, trivial⟩ (AInvoke.func ?_)
    have := ref05_truths_ok d hd hv 50 d.n [] [] 0 (by simp) (by simpa [Drv.truths] using Nat.le_trans hlen (by omega)) K' ?_
    · simpa [gO] using this
    · intro s'
      simpa [Drv.truths] using hK' s' trivial
  · simp
    refine RetV.le (VLe.gS (cells := LL d.truths) (s := s') (by simp) (by simp)) (RetV.refl (by simp [LLv]))

theorem ref05_Ints_ok (a b : List Int) (ha : a.length ≤ 100000) (hb : b.length ≤ 100000) : APure Pg fn_ref05_Ints [L a, L b] (.bool (decide (a = b))) := by
  refine ref05_Ints.pure (by simp) ?_
  by_cases h : a.length = b.length
  · simp [h]
    refine Lp.intro (σ := Nat) (inv := fun k => k ≤ a.length ∧ a.take k = b.take k) (vw := fun k => [(0, L a), (1, L b), (5, .int .i64 k)]) (hp := fun _ => []) (ms := fun k => a.length - k) 0 (by simp) (by simp) (by simp) ?_
    rintro k ⟨hk, inv⟩ J hJ
    by_cases hkc : k < a.length
    · have hkb : k < b.length := by omega
      by_cases q : a[k] = b[k]
      · simp [hkc, hkb, q]
        (repeat first | refine And.intro (by omega) ?_ | refine And.intro (Fits.of (by omega) (by omega)) ?_)
        refine hJ.next (k + 1) ⟨by omega, ?_⟩ (by omega) (by simp) (by simp)
        rw [← List.take_append_getElem hkc, ← List.take_append_getElem hkb, inv, q]
      · simp [hkc, hkb, q]
        refine hJ.ret ?_
        simp
        refine RetV.refl ?_
        have : ¬ a = b := by rintro rfl; exact q rfl
        simp [this]
    · simp [hkc, h, show ¬ k < b.length by omega]
      refine hJ.exit ?_
      simp
      refine RetV.refl ?_
      rw [List.take_of_length_le (by omega), List.take_of_length_le (by omega)] at inv
      simp [inv]
  · simp [h]
    refine RetV.refl ?_
    have : ¬ a = b := by rintro rfl; exact h rfl
    simp [this]



end Go.Cw
end

/- What Times, Left and Opens of the reference tell. -/
section
set_option maxRecDepth 100000
set_option linter.unusedSimpArgs false
namespace Go.Cw
open Go Go.Proofs

/-- Numbers of spans. -/
def Inside : List (Int × Int) → List Int → Prop
  | [], [] => True
  | s :: r, x :: m => (s.1 ≤ x ∧ x ≤ s.2) ∧ Inside r m
  | _, _ => False

theorem mem_truthsS : ∀ {r : List (Int × Int)} {b l : List Int}, l ∈ truthsS r b ↔ ∃ m, l = b ++ m ∧ Inside r m
  | [], b, l => by
    simp only [truthsS, List.mem_singleton]
    constructor
    · rintro rfl; exact ⟨[], by simp, trivial⟩
    · rintro ⟨m, rfl, h⟩
      cases m with
      | nil => simp
      | cons _ _ => exact h.elim
  | s :: r, b, l => by
    simp only [truthsS, List.mem_flatMap, List.mem_range, mem_truthsS (r := r)]
    constructor
    · rintro ⟨k, hk, m, rfl, h⟩
      exact ⟨(s.1 + k) :: m, by simp, ⟨by omega, by omega⟩, h⟩
    · rintro ⟨m, rfl, h⟩
      cases m with
      | nil => exact h.elim
      | cons x m =>
        refine ⟨(x - s.1).toNat, by have := h.1; omega, m, ?_, h.2⟩
        have : s.1 + ((x - s.1).toNat : Int) = x := by have := h.1; omega
        rw [this]; simp

theorem Inside.len : ∀ {r : List (Int × Int)} {m : List Int}, Inside r m → m.length = r.length
  | [], [], _ => rfl
  | _ :: _, _ :: _, h => by simp [h.2.len]
  | [], _ :: _, h => h.elim
  | _ :: _, [], h => h.elim

theorem Inside.at : ∀ {r : List (Int × Int)} {m : List Int}, Inside r m → ∀ (i : Nat) (h : i < r.length), (r[i]).1 ≤ ofL m i ∧ ofL m i ≤ (r[i]).2
  | [], _, _, i, h => by simp at h
  | s :: r, x :: m, hi, 0, h => by simpa [ofL] using hi.1
  | s :: r, x :: m, hi, i + 1, h => by
    have := Inside.at hi.2 i (by simpa using h)
    simpa [ofL] using this
  | _ :: _, [], hi, _, _ => hi.elim

theorem mem_truths {d : Drv} {l : List Int} : l ∈ d.truths ↔ Inside d.blows l := by
  unfold Drv.truths
  rw [mem_truthsS]
  constructor
  · rintro ⟨m, rfl, h⟩; simpa using h
  · intro h; exact ⟨l, by simp, h⟩

/-- The blows that a seam can have. -/
def Drv.lo (d : Drv) (i : Nat) : Int := (d.blows.getD i (0, 0)).1
def Drv.hi (d : Drv) (i : Nat) : Int := (d.blows.getD i (0, 0)).2

theorem Drv.Valid.truth {d : Drv} (hv : d.Valid) {l : List Int} (h : l ∈ d.truths) : l.length = d.n ∧ ∀ j, j < d.n → (d.lo j ≤ ofL l j ∧ ofL l j ≤ d.hi j) ∧ 0 ≤ ofL l j ∧ ofL l j ≤ 12 := by
  have hi := mem_truths.1 h
  refine ⟨by rw [hi.len, hv.bl], fun j hj => ?_⟩
  have hj' : j < d.blows.length := by rw [hv.bl]; exact hj
  have := hi.at j hj'
  have h2 := hv.narrow d.blows[j] (by simp)
  simp [Drv.lo, Drv.hi, hj']
  omega

theorem truthsS_ne : ∀ (r : List (Int × Int)) (b : List Int), NarrowS r → truthsS r b ≠ []
  | [], b, _ => by simp [truthsS]
  | s :: r, b, h => by
    have h1 := h s (by simp)
    have h2 := truthsS_ne r (b ++ [s.1 + (0 : Nat)]) fun x hx => h x (by simp [hx])
    obtain ⟨l, hl⟩ := List.exists_mem_of_ne_nil _ h2
    refine List.ne_nil_of_mem (a := l) ?_
    simp only [truthsS, List.mem_flatMap, List.mem_range]
    exact ⟨0, by omega, hl⟩

theorem Drv.Valid.truths_ne {d : Drv} (hv : d.Valid) : d.truths ≠ [] := truthsS_ne _ _ hv.narrow

noncomputable def Drv.timesL (d : Drv) (i : Nat) : List Int := d.truths.map fun l => d.odo (ofL l) i
noncomputable def Drv.leftL (d : Drv) (i : Nat) : List Int := d.truths.map fun l => d.left (ofL l) i

noncomputable def Drv.timesV (d : Drv) (k : Int) : AVal :=
  if d.Valid then (if d.Seam k then .tup [SP2 (spanOf (d.timesL k.toNat)), .int .i64 0] else .tup [SP2 (0, 0), .int .i64 2]) else .tup [SP2 (0, 0), .int .i64 1]
noncomputable def Drv.leftV (d : Drv) (k : Int) : AVal :=
  if d.Valid then (if d.Seam k then .tup [SP2 (spanOf (d.leftL k.toNat)), .int .i64 0] else .tup [SP2 (0, 0), .int .i64 2]) else .tup [SP2 (0, 0), .int .i64 1]



noncomputable def Drv.canP (d : Drv) (i : Nat) : Bool := decide (0 < (spanOf (d.timesL i)).2)
noncomputable def Drv.sureP (d : Drv) (i : Nat) : Bool := decide (0 < (spanOf (d.timesL i)).1)
noncomputable def Drv.opensV (d : Drv) : AVal :=
  if d.Valid then .tup [.int .i64 (bits d.canP d.n), .int .i64 (bits d.sureP d.n), .int .i64 0] else .tup [.int .i64 0, .int .i64 0, .int .i64 1]


end Go.Cw
end

/- What Push and Chain of the reference tell. -/
section
set_option maxRecDepth 100000
set_option linter.unusedSimpArgs false
namespace Go.Cw
open Go Go.Proofs

def Drv.PushAll (d : Drv) (a b : Nat) (k : Nat) : Prop := ∀ l ∈ d.truths, 0 < d.odo (plus (ofL l) a k) b
noncomputable instance (d : Drv) (a b k : Nat) : Decidable (d.PushAll a b k) := Classical.propDecidable _

noncomputable def Drv.pushV (d : Drv) (a b : Int) : AVal :=
  if d.Valid then (if d.Seam a ∧ d.Seam b then (match (List.range 41).find? fun k => decide (d.PushAll a.toNat b.toNat k) with
    | some k => .tup [.int .i64 k, .int .i64 0]
    | none => .tup [.int .i64 0, .int .i64 4]) else .tup [.int .i64 0, .int .i64 2]) else .tup [.int .i64 0, .int .i64 1]


noncomputable def Drv.chainV (d : Drv) (l : List Int) (a : Int) : AVal :=
  if d.Valid then (if d.Blows l ∧ d.Seam a then (if ∃ i, i < d.n ∧ d.lim i ≤ ofL l i then .tup [.int .i64 0, .int .i64 6] else
    .tup [.int .i64 (bits (fun i => decide (0 < d.odo (plus (ofL l) a.toNat 1) i)) d.n), .int .i64 0]) else .tup [.int .i64 0, .int .i64 2]) else .tup [.int .i64 0, .int .i64 1]


end Go.Cw
end

/- The program's own small functions. -/
section
set_option maxRecDepth 100000
set_option linter.unusedSimpArgs false
namespace Go.Cw
open Go Go.Proofs

theorem drive_within_ok (n lo hi : Int) : APure Pg fn_drive_within [.int .i64 n, .int .i64 lo, .int .i64 hi] (.bool (decide (lo ≤ n ∧ n ≤ hi))) := by
  refine drive_within.pure (by simp) ?_
  by_cases h : lo ≤ n <;> simp [h] <;> refine RetV.refl ?_ <;> simp_all

theorem drive_isSeam_ok (d : Drv) (hd : d.Small) (n : Int) : APure Pg fn_drive_isSeam [d.v, .int .i64 n] (.bool (decide (d.Seam n))) := by
  have := hd.l
  refine drive_isSeam.pure (by simp) ?_
  simp
  intro s
  refine ⟨Fits.of (by omega) (by omega), PCallK.intro (PInv.func (drive_within_ok _ _ _)) ?_⟩
  simp
  refine RetV.refl ?_
  have : (0 ≤ n ∧ n ≤ d.limits.length - 1) ↔ d.Seam n := by unfold Drv.Seam Drv.n; omega
  simp [← this]

theorem drive_areBlows_1_ok (n : Int) : APure Pg fn_drive_areBlows_1 [.int .i64 n] (.bool (!decide (0 ≤ n ∧ n ≤ 52))) := by
  refine drive_areBlows_1.pure (by simp) ?_
  simp
  refine PCallK.intro (PInv.func (drive_within_ok _ _ _)) ?_
  simp
  exact RetV.refl (by simp)

/-- The first place at which something is so. -/
def idx (p : Int → Bool) (l : List Int) : Int := match l.findIdx? p with
  | some i => i
  | none => -1

theorem slices_IndexFunc_ok (l : List Int) (hl : l.length ≤ 100000) (f : AVal) (p : Int → Bool) (hf : ∀ x ∈ l, PInv Pg f [.int .i64 x] (.bool (p x))) : APure Pg fn_slices_IndexFunc_int_int [L l, f] (.int .i64 (idx p l)) := by
  refine slices_IndexFunc_int_int.pure (by simp) ?_
  simp
  refine Lp.intro (σ := Nat) (inv := fun k => k ≤ l.length ∧ ∀ j (h : j < l.length), j < k → p l[j] = false) (vw := fun k => [(0, L l), (1, f), (7, .int .i64 l.length), (8, .int .i64 k)]) (hp := fun _ => []) (ms := fun k => l.length - k) 0 (by simp) (by simp) (by simp) ?_
  rintro k ⟨hk, inv⟩ J hJ
  by_cases hkc : k < l.length
  · simp [hkc]
    refine FCall.pure (hf l[k] (by simp)) ?_
    cases q : p l[k]
    · simp
      (repeat first | refine And.intro (by omega) ?_ | refine And.intro (Fits.of (by omega) (by omega)) ?_)
      refine hJ.next (k + 1) ⟨by omega, fun j hj hjk => ?_⟩ (by omega) (by simp) (by simp)
      by_cases h : j = k
      · subst h; exact q
      · exact inv j hj (by omega)
    · simp
      refine hJ.ret ?_
      simp
      refine RetV.refl ?_
      have : l.findIdx? p = some k := by
        rw [List.findIdx?_eq_some_iff_getElem]
        exact ⟨hkc, q, fun j hj => by simp [inv j (by omega) hj]⟩
      simp [idx, this]
  · simp [hkc]
    refine hJ.exit ?_
    simp
    refine RetV.refl ?_
    have : l.findIdx? p = none := by
      rw [List.findIdx?_eq_none_iff]
      intro x hx
      obtain ⟨j, hj, rfl⟩ := List.getElem_of_mem hx
      exact inv j hj (by omega)
    simp [idx, this]

theorem idx_ge (p : Int → Bool) (l : List Int) : decide (0 ≤ idx p l) = l.any p := by
  unfold idx
  cases h : l.findIdx? p with
  | none =>
    rw [List.findIdx?_eq_none_iff] at h
    symm
    simpa [List.any_eq_false] using h
  | some i =>
    rw [List.findIdx?_eq_some_iff_getElem] at h
    obtain ⟨h1, h2, _⟩ := h
    symm
    simp only [Int.natCast_nonneg, decide_true, List.any_eq_true]
    exact ⟨l[i], by simp, h2⟩

theorem slices_ContainsFunc_ok (l : List Int) (hl : l.length ≤ 100000) (f : AVal) (p : Int → Bool) (hf : ∀ x ∈ l, PInv Pg f [.int .i64 x] (.bool (p x))) : APure Pg fn_slices_ContainsFunc_int_int [L l, f] (.bool (l.any p)) := by
  refine slices_ContainsFunc_int_int.pure (by simp) ?_
  simp
  refine PCallK.intro (PInv.func (slices_IndexFunc_ok l hl f p hf)) ?_
  simp
  exact RetV.refl (by rw [idx_ge])

theorem drive_areBlows_ok (d : Drv) (l : List Int) (hl : l.length ≤ 1000) : APure Pg fn_drive_areBlows [d.v, L l] (.bool (decide (d.Blows l))) := by
  refine drive_areBlows.pure (by simp) ?_
  by_cases h : l.length = d.limits.length
  · simp [h]
    intro s
    have hcf := slices_ContainsFunc_ok l (by omega) (.func (.func fn_drive_areBlows_1) [] []) (fun n => !decide (0 ≤ n ∧ n ≤ 52)) fun x _ => PInv.func (drive_areBlows_1_ok x)
    have e : l.any (fun n => !decide (0 ≤ n ∧ n ≤ 52)) = !decide (d.Blows l) := by
      by_cases h2 : d.Blows l
      · simp only [h2, decide_true, Bool.not_true, List.any_eq_false]
        intro x hx; simp [h2.2 x hx]
      · simp only [h2, decide_false, Bool.not_false, List.any_eq_true]
        refine Classical.byContradiction fun hn => h2 ⟨h, fun x hx => ?_⟩
        refine Classical.byContradiction fun hq => hn ⟨x, hx, by simp only [hq, decide_false, Bool.not_false]⟩
    rw [e] at hcf
    refine PCallK.intro (PInv.func hcf) ?_
    simp
    exact RetV.refl (by simp)
  · simp [h]
    intro s
    refine RetV.refl ?_
    have : ¬ d.Blows l := fun h' => h h'.1
    simp [this]

/-- An array of blows. -/
def B6 (c : Nat → Int) : AVal := .agg (ints (tab 6 c))

theorem drive_blows_with_ok (c : Nat → Int) (i : Nat) (hi : i < 6) (x : Int) (hx : Fits (c i + x)) : APure Pg fn_drive_blows_with [B6 c, .int .i64 i, .int .i64 x] (B6 (plus c i x)) := by
  refine drive_blows_with.pure (by simp) ?_
  simp [B6, hi, show (i : Int) < 6 by omega, hx]
  intro s s1
  (repeat first | refine And.intro (by omega) ?_ | refine And.intro (Fits.of (by omega) (by omega)) ?_)
  exact RetV.refl (by simp [plus])

theorem drive_blowsOf_ok (l : List Int) (hl : l.length ≤ 6) : APure Pg fn_drive_blowsOf [L l] (B6 (ofL l)) := by
  refine drive_blowsOf.pure (by simp) ?_
  simp
  intro s
  rw [show min l.length 6 = l.length by omega, List.take_of_length_le (by simp), setRange_pre6 l hl]
  simp
  exact ⟨by omega, RetV.refl (by simp [B6])⟩

namespace Drv
/-- The seams beside one, as the program lists them. -/
def adjL (l : List (Int × Int)) (i : Nat) : List Int := l.flatMap fun p => (if p.1 = (i : Int) then [p.2] else []) ++ (if p.2 = (i : Int) then [p.1] else [])
def adj (d : Drv) (i : Nat) : List Int := adjL d.beside i
/-- The same, as numbers of seams. -/
def adjNL (l : List (Int × Int)) (i : Nat) : List Nat := l.flatMap fun p => (if p.1 = (i : Int) then [p.2.toNat] else []) ++ (if p.2 = (i : Int) then [p.1.toNat] else [])
def adjN (d : Drv) (i : Nat) : List Nat := adjNL d.beside i
theorem adjNL_take (l : List (Int × Int)) (k : Nat) (hk : k < l.length) (i : Nat) : adjNL (l.take (k + 1)) i = adjNL (l.take k) i ++ ((if (l[k]).1 = (i : Int) then [(l[k]).2.toNat] else []) ++ (if (l[k]).2 = (i : Int) then [(l[k]).1.toNat] else [])) := by
  unfold adjNL
  rw [← List.take_append_getElem hk, List.flatMap_append]
  simp
theorem adjL_take (l : List (Int × Int)) (k : Nat) (hk : k < l.length) (i : Nat) : adjL (l.take (k + 1)) i = adjL (l.take k) i ++ ((if (l[k]).1 = (i : Int) then [(l[k]).2] else []) ++ (if (l[k]).2 = (i : Int) then [(l[k]).1] else [])) := by
  unfold adjL
  rw [← List.take_append_getElem hk, List.flatMap_append]
  simp
theorem adj_all {d : Drv} (hv : d.Valid) (i : Nat) : ∀ k, k ≤ d.beside.length → adjL (d.beside.take k) i = nats (adjNL (d.beside.take k) i) ∧ (∀ j, (adjNL (d.beside.take k) i).count j = cntL (d.beside.take k) i j) ∧ (∀ o ∈ adjNL (d.beside.take k) i, o < d.n) ∧
    (adjNL (d.beside.take k) i).length = (d.beside.take k).countP fun p => decide (p.1 = (i : Int)) || decide (p.2 = (i : Int)) := by
  intro k
  induction k with
  | zero => intro _; simp [adjL, adjNL, cntL]
  | succ k ih =>
    intro hk
    have hk' : k < d.beside.length := by omega
    obtain ⟨a, b, hab, h1, h2⟩ := hv.pair k hk'
    obtain ⟨i1, i2, i3, i4⟩ := ih (by omega)
    have ec : (d.beside.take (k + 1)).countP (fun p => decide (p.1 = (i : Int)) || decide (p.2 = (i : Int))) = (d.beside.take k).countP (fun p => decide (p.1 = (i : Int)) || decide (p.2 = (i : Int))) + (if a = i ∨ b = i then 1 else 0) := by
      rw [← List.take_append_getElem hk', List.countP_append, hab]
      by_cases q1 : a = i <;> by_cases q2 : b = i <;> simp [q1, q2]
    rw [adjNL_take _ _ hk', adjL_take _ _ hk', hab, i1, ec]
    simp only [natCast_eq]
    refine ⟨?_, fun j => ?_, ?_, ?_⟩
    · by_cases q1 : a = i <;> by_cases q2 : b = i <;> simp [q1, q2, nats]
    · rw [cntL_take _ _ hk', hab, List.count_append, i2]
      simp only [Prod.mk.injEq, natCast_eq]
      by_cases q1 : a = i
      · subst q1
        have q2 : ¬ b = a := by omega
        by_cases q3 : b = j
        · subst q3; simp [q2]
        · simp [q2, q3]
      · by_cases q2 : b = i
        · subst q2
          by_cases q3 : a = j
          · subst q3; simp [q1]
          · simp [q1, q3]
        · simp [q1, q2]
    · intro o ho
      rcases List.mem_append.1 ho with ho | ho
      · exact i3 o ho
      · by_cases q1 : a = i <;> by_cases q2 : b = i <;> simp [q1, q2] at ho <;> omega
    · by_cases q1 : a = i <;> by_cases q2 : b = i <;> simp [q1, q2, i4]
      omega
theorem adj_eq {d : Drv} (hv : d.Valid) (i : Nat) : d.adj i = nats (d.adjN i) := by
  have := (adj_all hv i d.beside.length (Nat.le_refl _)).1
  rw [List.take_length] at this; exact this
theorem adj_cnt {d : Drv} (hv : d.Valid) (i j : Nat) : (d.adjN i).count j = d.cnt i j := by
  have := (adj_all hv i d.beside.length (Nat.le_refl _)).2.1 j
  rw [List.take_length] at this; exact this
theorem adj_lt {d : Drv} (hv : d.Valid) (i : Nat) : ∀ o ∈ d.adjN i, o < d.n := by
  have := (adj_all hv i d.beside.length (Nat.le_refl _)).2.2.1
  rw [List.take_length] at this; exact this
theorem adj_len {d : Drv} (hv : d.Valid) (i : Nat) : (d.adjN i).length = d.deg i := by
  have := (adj_all hv i d.beside.length (Nat.le_refl _)).2.2.2
  rw [List.take_length] at this; exact this
theorem adjL_len (l : List (Int × Int)) (h : ∀ p ∈ l, p.1 ≠ p.2) (i : Nat) : (adjL l i).length = l.countP fun p => decide (p.1 = (i : Int)) || decide (p.2 = (i : Int)) := by
  induction l with
  | nil => rfl
  | cons p l ih =>
    have h1 := h p (by simp)
    have ih := ih fun x hx => h x (by simp [hx])
    unfold adjL at ih ⊢
    simp only [List.flatMap_cons, List.length_append, List.countP_cons, ih]
    by_cases q1 : p.1 = (i : Int)
    · have q2 : ¬ p.2 = (i : Int) := fun h => h1 (q1.trans h.symm)
      simp [q1, q2]; omega
    · by_cases q2 : p.2 = (i : Int) <;> simp [q1, q2]
      omega
def hcells (d : Drv) : List AVal := [L d.limits, LP d.beside, LP d.blows] ++ (List.range 6).map fun i => L (d.adj i)
def H (d : Drv) : AVal := .pv d.hcells
@[simp] theorem hcells_length (d : Drv) : d.hcells.length = 9 := (rfl)
@[simp] theorem hcells_0 (d : Drv) : d.hcells.head? = some (L d.limits) := (rfl)
@[simp] theorem hcells_1 (d : Drv) : d.hcells[1]? = some (LP d.beside) := (rfl)
@[simp] theorem hcells_2 (d : Drv) : d.hcells[2]? = some (LP d.blows) := (rfl)
@[simp] theorem hcells_at0 (d : Drv) : d.hcells[0] = L d.limits := (rfl)
@[simp] theorem hcells_at1 (d : Drv) : d.hcells[1] = LP d.beside := (rfl)
@[simp] theorem hcells_at2 (d : Drv) : d.hcells[2] = LP d.blows := (rfl)
theorem hcells_adj (d : Drv) {i : Nat} (hi : i < 6) : d.hcells[3 + i]? = some (L (d.adj i)) := by
  unfold hcells
  rw [List.getElem?_append_right (by simp)]
  simp [hi]
theorem hcells_adj' (d : Drv) {i : Nat} (hi : i < 6) : d.hcells[i + 3]? = some (L (d.adj i)) := by rw [Nat.add_comm]; exact d.hcells_adj hi
end Drv

theorem drive_hull_seams_ok (d : Drv) : APure Pg fn_drive_hull_seams [d.H] (.int .i64 d.n) := by
  refine drive_hull_seams.pure (by simp) ?_
  simp [Drv.H]
  exact RetV.refl (by simp [Drv.n])


/-- The blows behind so many openings of a seam. -/
def Drv.fireN (d : Drv) (i : Nat) (t : Int) (c : Nat → Int) : Nat → Int := fun j => c j - (if j = i then t * d.lim i else 0) + t * d.cnt i j

theorem drive_hull_opened_ok (d : Drv) (hd : d.Small) (hv : d.Valid) (c : Nat → Int) (hc : ∀ j, j < 6 → 0 ≤ c j ∧ c j ≤ 10000) (i : Nat) (hi : i < d.n) (t : Int) (ht : 0 ≤ t ∧ t ≤ 10000) :
    APure Pg fn_drive_hull_opened [d.H, B6 c, .int .i64 i, .int .i64 t] (B6 (d.fireN i t c)) := by
  have hi6 : i < 6 := by have := hv.n6; omega
  have hil : i < d.limits.length := hi
  have hlim := hv.lim_pos hi
  have hlen := Drv.adj_len hv i
  have hdeg := d.deg_le i
  have hp := hd.p
  have hm : 0 ≤ t * d.lim i ∧ t * d.lim i ≤ 60000 := by
    refine ⟨Int.mul_nonneg ht.1 (by omega), Int.le_trans (Int.mul_le_mul ht.2 hlim.2.1 (by omega) (by omega)) (by decide)⟩
  have hneg : -t * d.lim i = -(t * d.lim i) := Int.neg_mul _ _
  have hci := hc i hi6
  refine drive_hull_opened.pure (by simp) ?_
  simp [Drv.H, B6, hil, d.lim_at hil]
  intro s s1
  (repeat first | refine And.intro (by omega) ?_ | refine And.intro (Fits.of (by omega) (by omega)) ?_)
  refine FCall.pure (PInv.func (drive_blows_with_ok c i hi6 (-t * d.lim i) (by rw [hneg]; exact Fits.of (by omega) (by omega)))) ?_
  simp [B6, show (i : Int) < 6 by omega, d.hcells_adj hi6, Drv.adj_eq hv i]
  have hal := Drv.adj_lt hv i
  have hn6 := hv.n6
  refine Lp.intro (σ := Nat) (inv := fun k => k ≤ (d.adjN i).length)
    (vw := fun k => [(3, .int .i64 t), (5, .ptr 5 0 (s+1)), (8, .ptr 8 0 (s1+1)), (9, .func (.func fn_drive_blows_with) [] []), (32, L (nats (d.adjN i))), (33, .int .i64 (d.adjN i).length), (34, .int .i64 k)])
    (hp := fun k => [(5, .row (ints (tab 6 fun j => plus c i (-t * d.lim i) j + t * ((d.adjN i).take k).count j)) (s+1)), (8, .row [.int .i64 0, .int .i64 0, .int .i64 0, .int .i64 0, .int .i64 0, .int .i64 0] (s1+1))])
    (ms := fun k => (d.adjN i).length - k) 0 (by simp) (by simp) (by simp) ?_
  intro k hk J hJ
  by_cases hkc : k < (d.adjN i).length
  · obtain ⟨o, ho⟩ : ∃ o, (d.adjN i)[k] = o := ⟨_, rfl⟩
    have hon : o < d.n := hal o (by rw [← ho]; simp)
    have hcnt : ((d.adjN i).take k).count o ≤ 40 := Nat.le_trans List.count_le_length (by simp; omega)
    have hmul : 0 ≤ t * ((d.adjN i).take k).count o ∧ t * ((d.adjN i).take k).count o ≤ 400000 := by
      refine ⟨Int.mul_nonneg ht.1 (by omega), Int.le_trans (Int.mul_le_mul ht.2 (show (((d.adjN i).take k).count o : Int) ≤ 40 by omega) (by omega) (by omega)) (by decide)⟩
    have hpl : -60000 ≤ plus c i (-t * d.lim i) o ∧ plus c i (-t * d.lim i) o ≤ 10000 := by
      have := hc o (by omega)
      unfold plus upd
      split <;> omega
    simp [hkc, ho]
    refine FCall.pure (PInv.func (drive_blows_with_ok (fun j => plus c i (-t * d.lim i) j + t * ((d.adjN i).take k).count j) o (by omega) t (Fits.of (by omega) (by omega)))) ?_
    simp [B6]
    (repeat first | refine And.intro (by omega) ?_ | refine And.intro (Fits.of (by omega) (by omega)) ?_)
    refine hJ.next (k + 1) (by omega) (by omega) (by simp) ?_
    simp
    refine tab_ext fun j hj => ?_
    rw [← List.take_append_getElem hkc, List.count_append, ho]
    by_cases hjo : j = o
    · subst hjo
      simp [plus, upd, Int.mul_add]; omega
    · simp [plus, upd, hjo, Ne.symm hjo]
  · have hfull : (d.adjN i).take k = d.adjN i := List.take_of_length_le (by omega)
    simp [hkc]
    refine hJ.exit ?_
    simp [hfull]
    refine RetV.refl ?_
    simp
    refine tab_ext fun j hj => ?_
    rw [Drv.adj_cnt hv]
    unfold Drv.fireN plus upd
    split
    · rename_i hj; subst hj; rw [hneg]; omega
    · omega

end Go.Cw
end

/- Whichever seams open, in the end each has opened as often: plain reckoning. -/
section
namespace Go.Cw
open Go
namespace Drv

/-- Openings one after the other, each of a seam that can. -/
inductive Seq (d : Drv) : (Nat → Int) → List Nat → (Nat → Int) → Prop where
  | nil {c : Nat → Int} : Seq d c [] c
  | cons {c c' : Nat → Int} {i : Nat} {l : List Nat} (hi : i < d.n) (h : d.lim i ≤ c i) (s : Seq d (d.fire i c) l c') : Seq d c (i :: l) c'

theorem Seq.append {d : Drv} {c c₁ c₂ : Nat → Int} {l m : List Nat} (a : Seq d c l c₁) (b : Seq d c₁ m c₂) : Seq d c (l ++ m) c₂ := by
  induction a with
  | nil => exact b
  | cons hi h _ ih => exact .cons hi h (ih b)

theorem times_cons (i : Nat) (l : List Nat) (j : Nat) : times (i :: l) j = times l j + if j = i then 1 else 0 := by
  unfold times
  rw [List.countP_cons]
  by_cases h : j = i
  · subst h; simp
  · simp [h, Ne.symm h]
theorem times_append (l m : List Nat) (j : Nat) : times (l ++ m) j = times l j + times m j := by
  unfold times
  rw [List.countP_append, Int.natCast_add]
theorem times_nil (j : Nat) : times [] j = 0 := rfl
theorem times_nonneg (l : List Nat) (j : Nat) : 0 ≤ times l j := by unfold times; omega

/-- What blows become if each seam opens so often. -/
def cfg (d : Drv) (c v : Nat → Int) (j : Nat) : Int := c j - v j * d.lim j + sum d.n fun i => v i * d.cnt i j

def Stable (d : Drv) (c : Nat → Int) : Prop := ∀ j, j < d.n → c j < d.lim j

theorem sum_mul_ite (n t : Nat) (ht : t < n) (f : Nat → Int) : sum n (fun i => (if i = t then 1 else 0) * f i) = f t := by
  have : (fun i => (if i = t then (1 : Int) else 0) * f i) = fun i => if i = t then f t else 0 := by
    funext i; split
    · rename_i h; rw [h, Int.one_mul]
    · rw [Int.zero_mul]
  rw [this, sum_ite, if_pos ht]

theorem cfg_fire {d : Drv} {i : Nat} (hi : i < d.n) (c v : Nat → Int) (j : Nat) : d.cfg (d.fire i c) v j = d.cfg c (fun k => v k + if k = i then 1 else 0) j := by
  unfold cfg fire
  have h1 : sum d.n (fun k => (v k + if k = i then 1 else 0) * (d.cnt k j : Int)) = sum d.n (fun k => v k * d.cnt k j) + d.cnt i j := by
    have : (fun k => (v k + if k = i then 1 else 0) * (d.cnt k j : Int)) = fun k => v k * d.cnt k j + (if k = i then 1 else 0) * d.cnt k j := by
      funext k; rw [Int.add_mul]
    rw [this, sum_add, sum_mul_ite _ _ hi]
  rw [h1, Int.add_mul]
  by_cases hj : j = i
  · subst hj; simp; omega
  · simp [hj]; omega

theorem Seq.cfg {d : Drv} {c c' : Nat → Int} {l : List Nat} (s : Seq d c l c') : c' = d.cfg c (times l) := by
  induction s with
  | nil =>
    funext j
    unfold Drv.cfg
    simp [times_nil, sum_zero]
  | @cons c₀ c₁ i l hi h s ih =>
    rw [ih]
    funext j
    rw [cfg_fire hi]
    have : (fun k => times l k + if k = i then 1 else 0) = times (i :: l) := by
      funext k; rw [times_cons]
    rw [this]

theorem Seq.mem {d : Drv} {c c' : Nat → Int} {l : List Nat} (s : Seq d c l c') : ∀ i ∈ l, i < d.n := by
  induction s with
  | nil => simp
  | cons hi _ _ ih => simpa using ⟨hi, ih⟩

theorem Seq.inn {d : Drv} (hv : d.Valid) {c c' : Nat → Int} {l : List Nat} (s : Seq d c l c') : ∀ {m : Int}, d.In m c → d.In m c' := by
  induction s with
  | nil => exact fun h => h
  | cons hi h _ ih => exact fun hc => ih (hc.fire hv hi h)

/-- However seams open, none opens more often than what brings as many blows, or more, to rest. -/
theorem Seq.least {d : Drv} {c c' : Nat → Int} {l : List Nat} (s : Seq d c l c') : ∀ {b v : Nat → Int}, (∀ j, j < d.n → c j ≤ b j) → (∀ j, 0 ≤ v j) → d.Stable (d.cfg b v) → ∀ j, times l j ≤ v j := by
  induction s with
  | nil => intro b v _ h0 _ j; rw [times_nil]; exact h0 j
  | @cons c₀ c₁ i l hi h s ih =>
    intro b v hcb h0 hst
    have hv1 : 1 ≤ v i := by
      refine Classical.byContradiction fun hn => ?_
      have hz : v i = 0 := by have := h0 i; omega
      have h1 := hst i hi
      unfold Drv.cfg at h1
      rw [hz] at h1
      have h2 : 0 ≤ sum d.n (fun k => v k * (d.cnt k i : Int)) := sum_nonneg fun k _ => Int.mul_nonneg (h0 k) (by omega)
      have h3 := hcb i hi
      omega
    have key := ih (b := d.fire i b) (v := fun k => v k - if k = i then 1 else 0) (fun j hj => ?_) (fun j => ?_) ?_
    · intro j
      rw [times_cons]
      have : times l j ≤ v j - if j = i then 1 else 0 := key j
      omega
    · unfold fire
      have := hcb j hj
      omega
    · show 0 ≤ v j - if j = i then 1 else 0
      split
      · rename_i hji; subst hji; omega
      · have := h0 j; omega
    · intro j hj
      rw [cfg_fire hi]
      have : (fun k => v k - (if k = i then 1 else 0) + if k = i then 1 else 0) = v := by funext k; omega
      rw [this]
      exact hst j hj

theorem Runs.seq {d : Drv} {order : List Nat} (ho : ∀ i ∈ order, i < d.n) (hall : ∀ i, i < d.n → i ∈ order) {c c' : Nat → Int} {l : List Nat} (r : Runs d order c l c') : Seq d c l c' ∧ d.Stable c' := by
  induction r with
  | stop h =>
    refine ⟨.nil, fun j hj => ?_⟩
    have := List.find?_eq_none.1 h j (hall j hj)
    simp at this
    omega
  | step h _ ih =>
    obtain ⟨h1, h2⟩ := firstCan_some h
    exact ⟨.cons (ho _ h1) h2 ih.1, ih.2⟩

/-- WHATEVER opens, in the end each has opened as often, and as much is left. -/
theorem Seq.unique {d : Drv} {c c₁ c₂ : Nat → Int} {l m : List Nat} (a : Seq d c l c₁) (ha : d.Stable c₁) (b : Seq d c m c₂) (hb : d.Stable c₂) : times l = times m ∧ c₁ = c₂ := by
  have h1 : ∀ j, times l j ≤ times m j := a.least (fun j _ => Int.le_refl _) (times_nonneg m) (by rw [← b.cfg]; exact hb)
  have h2 : ∀ j, times m j ≤ times l j := b.least (fun j _ => Int.le_refl _) (times_nonneg l) (by rw [← a.cfg]; exact ha)
  have h3 : times l = times m := by funext j; have := h1 j; have := h2 j; omega
  exact ⟨h3, by rw [a.cfg, b.cfg, h3]⟩

theorem In.rest {d : Drv} (hv : d.Valid) {c : Nat → Int} {m : Int} (h : d.In m c) : ∃ l, Seq d c l (d.left c) ∧ d.Stable (d.left c) ∧ d.odo c = times l := by
  have r := h.runs hv (order := List.range d.n) (by simp)
  obtain ⟨h1, h2⟩ := r.seq (by simp) (by simp)
  exact ⟨_, h1, h2, rfl⟩

theorem Seq.rest {d : Drv} (hv : d.Valid) {c c' : Nat → Int} {m : Int} (h : d.In m c) {l : List Nat} (s : Seq d c l c') (hst : d.Stable c') : times l = d.odo c ∧ c' = d.left c := by
  obtain ⟨l', h1, h2, h3⟩ := h.rest hv
  obtain ⟨h4, h5⟩ := s.unique hst h1 h2
  exact ⟨by rw [h3, h4], h5⟩

/-- With more blows no seam opens less often. -/
theorem odo_mono {d : Drv} (hv : d.Valid) {c b : Nat → Int} {m m' : Int} (hc : d.In m c) (hb : d.In m' b) (h : ∀ j, j < d.n → c j ≤ b j) (j : Nat) : d.odo c j ≤ d.odo b j := by
  obtain ⟨l, h1, _, h3⟩ := hc.rest hv
  obtain ⟨l', h1', h2', h3'⟩ := hb.rest hv
  rw [h3, h3']
  exact h1.least h (times_nonneg l') (by rw [← h1'.cfg]; exact h2') j

theorem odo_nonneg {d : Drv} (hv : d.Valid) {c : Nat → Int} {m : Int} (hc : d.In m c) (j : Nat) : 0 ≤ d.odo c j := by
  obtain ⟨l, _, _, h3⟩ := hc.rest hv
  rw [h3]; exact times_nonneg _ _
theorem odo_none {d : Drv} (hv : d.Valid) {c : Nat → Int} {m : Int} (hc : d.In m c) {j : Nat} (hj : d.n ≤ j) : d.odo c j = 0 := by
  obtain ⟨l, h1, _, h3⟩ := hc.rest hv
  rw [h3]
  unfold times
  have : l.countP (fun k => k == j) = 0 := by
    rw [List.countP_eq_zero]
    intro i hi
    have := h1.mem i hi
    simp; omega
  rw [this]; rfl
theorem left_cfg {d : Drv} (hv : d.Valid) {c : Nat → Int} {m : Int} (hc : d.In m c) : d.left c = d.cfg c (d.odo c) := by
  obtain ⟨l, h1, _, h3⟩ := hc.rest hv
  rw [h3]; exact h1.cfg
theorem left_stable {d : Drv} (hv : d.Valid) {c : Nat → Int} {m : Int} (hc : d.In m c) : d.Stable (d.left c) := by
  obtain ⟨l, _, h2, _⟩ := hc.rest hv
  exact h2
theorem left_in {d : Drv} (hv : d.Valid) {c : Nat → Int} {m : Int} (hc : d.In m c) : d.In m (d.left c) := by
  obtain ⟨l, h1, _, _⟩ := hc.rest hv
  exact h1.inn hv hc

/-- As many openings of one seam as it can at a time. -/
theorem Seq.many {d : Drv} {i : Nat} (hi : i < d.n) (hl : 0 ≤ d.lim i) (hz : d.cnt i i = 0) : ∀ (t : Nat) {c : Nat → Int}, t * d.lim i ≤ c i → Seq d c (List.replicate t i) (d.fireN i t c)
  | 0, c, _ => by
    have : d.fireN i (0 : Nat) c = c := by funext j; simp [fireN]
    rw [this]; exact .nil
  | t + 1, c, h => by
    rw [Int.natCast_add, Int.add_mul] at h
    have h0 : 0 ≤ (t : Int) * d.lim i := Int.mul_nonneg (by omega) hl
    have := Seq.many hi hl hz t (c := d.fire i c) (by simp [fire, hz]; simp at h; omega)
    have e : d.fireN i t (d.fire i c) = d.fireN i ((t + 1 : Nat) : Int) c := by
      funext j
      unfold fireN fire
      rw [Int.natCast_add, Int.add_mul, Int.add_mul]
      split <;> simp <;> omega
    rw [e] at this
    exact .cons hi (by simp at h; omega) this

theorem cnt_self {d : Drv} (hv : d.Valid) (i : Nat) : d.cnt i i = 0 := by
  unfold cnt cntL
  rw [List.countP_eq_zero]
  intro p hp
  obtain ⟨k, hk, rfl⟩ := List.getElem_of_mem hp
  obtain ⟨a, b, hab, h1, h2⟩ := hv.pair k hk
  rw [hab]
  simp only [Prod.mk.injEq, natCast_eq, Bool.or_eq_true, decide_eq_true_eq]
  omega
theorem cnt_none {d : Drv} (hv : d.Valid) (i : Nat) {j : Nat} (hj : d.n ≤ j) : d.cnt i j = 0 := by
  unfold cnt cntL
  rw [List.countP_eq_zero]
  intro p hp
  obtain ⟨k, hk, rfl⟩ := List.getElem_of_mem hp
  obtain ⟨a, b, hab, h1, h2⟩ := hv.pair k hk
  rw [hab]
  simp only [Prod.mk.injEq, natCast_eq, Bool.or_eq_true, decide_eq_true_eq]
  omega

theorem Seq.out {d : Drv} (hv : d.Valid) {c c' : Nat → Int} {l : List Nat} (s : Seq d c l c') {j : Nat} (hj : d.n ≤ j) : c' j = c j := by
  induction s with
  | nil => rfl
  | @cons c₀ c₁ i l hi h _ ih =>
    rw [ih]
    unfold fire
    rw [cnt_none hv i hj, if_neg (by omega)]
    simp

theorem Seq.len {d : Drv} (hv : d.Valid) {c c' : Nat → Int} {l : List Nat} (s : Seq d c l c') : l.length + Drv.sum d.n c' ≤ Drv.sum d.n c := by
  induction s with
  | nil => simp
  | @cons c₀ c₁ i l hi h _ ih =>
    rw [fire_sum hv hi] at ih
    have := (hv.lim_pos hi).2.2
    simp only [List.length_cons]
    omega

theorem times_replicate (t i j : Nat) : times (List.replicate t i) j = if j = i then (t : Int) else 0 := by
  unfold times
  rw [List.countP_replicate]
  by_cases h : j = i
  · subst h; simp
  · simp [h, Ne.symm h]
theorem times_le_len (l : List Nat) (j : Nat) : times l j ≤ l.length := (times_le l j).2
end Drv
end Go.Cw
end

/- Sets as numbers, ends of blows; what is refused. -/
section
set_option maxRecDepth 100000
set_option linter.unusedSimpArgs false
namespace Go.Cw
open Go Go.Proofs

theorem drive_setOf_ok (i : Nat) (hi : i < 60) : APure Pg fn_drive_setOf [L [(i : Int)]] (.int .i64 (2 ^ i)) := by
  refine drive_setOf.pure (by simp) ?_
  simp
  refine Lp.intro (σ := Nat) (inv := fun k => k ≤ 1) (vw := fun k => [(2, .int .i64 (if k = 0 then 0 else 2 ^ i)), (5, L [(i : Int)]), (6, .int .i64 1), (7, .int .i64 k)]) (hp := fun _ => []) (ms := fun k => 1 - k) 0 (by simp) (by simp) (by simp) ?_
  intro k hk J hJ
  by_cases hkc : k = 0
  · subst hkc
    simp
    have h1 := two_pow_le (show i ≤ 60 by omega)
    have h2 := two_pow_pos i
    refine ⟨by omega, by unfold Fits; omega, Fits.of (by omega) (by omega), ?_⟩
    refine hJ.next 1 (by omega) (by omega) ?_ (by simp)
    have := bitI_or 0 (2 ^ i) (by decide) (Nat.pow_lt_pow_right (by omega) (by omega))
    simp at this
    simp [this]
  · obtain rfl : k = 1 := by omega
    simp
    refine hJ.exit ?_
    simp
    exact RetV.refl rfl


theorem drive_hull_ends_ok (d : Drv) (hd : d.Small) (hv : d.Valid) (most : Bool) : APure Pg fn_drive_hull_ends [d.H, .bool most] (B6 (if most then d.hi else d.lo)) := by
  have hb := hd.b
  have hn6 := hv.n6
  have hbl := hv.bl
  refine drive_hull_ends.pure (by simp) ?_
  simp [Drv.H]
  intro s
  refine Lp.intro (σ := Nat) (inv := fun k => k ≤ d.n)
    (vw := fun k => [(1, .bool most), (4, .ptr 4 0 (s+1)), (11, LP d.blows), (12, .int .i64 d.n), (13, .int .i64 k)])
    (hp := fun k => [(4, .row (ints (tab 6 fun j => if j < k then (if most then d.hi j else d.lo j) else 0)) (s+1))]) (ms := fun k => d.n - k) 0 (by simp) (by simp [hbl]) ?_ ?_
  · simp
    rfl
  intro k hk J hJ
  by_cases hkc : k < d.n
  · have hkb : k < d.blows.length := by omega
    have hk6 : k < 6 := by omega
    have hlo : (d.blows[k]).1 = d.lo k := by simp [Drv.lo, hkb]
    have hhi : (d.blows[k]).2 = d.hi k := by simp [Drv.hi, hkb]
    have hset : ∀ x, tab 6 (upd (fun j => if j < k then (if most then d.hi j else d.lo j) else 0) k x) = tab 6 fun j => if j < k then (if most then d.hi j else d.lo j) else if j = k then x else 0 := by
      intro x
      refine tab_ext fun j hj => ?_
      simp only [upd]
      split
      · rename_i h; subst h; simp
      · rename_i h; simp [h]
    cases most
    · simp [hkc, hkb, hk6, hlo, hhi, show (k : Int) < 6 by omega]
      refine ⟨by omega, fun s1 => ?_⟩
      (repeat first | refine And.intro (by omega) ?_ | refine And.intro (Fits.of (by omega) (by omega)) ?_)
      refine hJ.next (k + 1) (by omega) (by omega) (by simp) ?_
      simp
      refine tab_ext fun j hj => ?_
      simp only [upd]
      split
      · rename_i h; subst h; simp
      · rename_i h; simp [show j < k + 1 ↔ j < k by omega]
    · simp [hkc, hkb, hk6, hlo, hhi, show (k : Int) < 6 by omega]
      refine ⟨by omega, fun s1 => ?_⟩
      (repeat first | refine And.intro (by omega) ?_ | refine And.intro (Fits.of (by omega) (by omega)) ?_)
      refine hJ.next (k + 1) (by omega) (by omega) (by simp) ?_
      simp
      refine tab_ext fun j hj => ?_
      simp only [upd]
      split
      · rename_i h; subst h; simp
      · rename_i h; simp [show j < k + 1 ↔ j < k by omega]
  · obtain rfl : k = d.n := by omega
    simp
    refine hJ.exit ?_
    simp
    refine RetV.refl ?_
    simp [B6]
    refine tab_ext fun j hj => ?_
    by_cases hjn : j < d.n
    · cases most <;> simp [hjn]
    · have : ¬ j < d.blows.length := by omega
      cases most <;> simp [hjn, Drv.lo, Drv.hi, this]

theorem drive_rest_open_ok (c u : Nat → Int) : APure Pg fn_drive_rest_open [.agg (ints (tab 6 c) ++ ints (tab 6 u))] (.int .i64 (bits (fun i => decide (0 < u i)) 6)) := by
  refine drive_rest_open.pure (by simp) ?_
  simp
  intro s
  refine Lp.intro (σ := Nat) (inv := fun k => k ≤ 6)
    (vw := fun k => [(2, .int .i64 (bits (fun i => decide (0 < u i)) k)), (6, B6 u), (7, .int .i64 k)])
    (hp := fun k => []) (ms := fun k => 6 - k) 0 (by simp) (by simp [bits, B6]) (by simp) ?_
  intro k hk J hJ
  by_cases hkc : k < 6
  · by_cases q : 0 < u k
    · simp [hkc, show (k : Int) < 6 by omega, B6, q]
      intro s1
      refine FCall.frz1 15 rfl (by simpa [L] using PInv.func (first := []) (cap := []) (drive_setOf_ok k (by omega))) trivial ⟨trivial, ?_⟩
      simp
      (repeat first | refine And.intro (by omega) ?_ | refine And.intro (Fits.of (by omega) (by omega)) ?_)
      refine hJ.next (k + 1) (by omega) (by omega) ?_ (by simp)
      simp [bits, q, B6]
      exact bits_or _ _ (by omega)
    · simp [hkc, show (k : Int) < 6 by omega, B6, q]
      (repeat first | refine And.intro (by omega) ?_ | refine And.intro (Fits.of (by omega) (by omega)) ?_)
      exact hJ.next (k + 1) (by omega) (by omega) (by simp [bits, q, B6]) (by simp)
  · obtain rfl : k = 6 := by omega
    simp
    refine hJ.exit ?_
    simp
    exact RetV.refl rfl

/-- What is refused. -/
def refV (e : Int) : AVal := .iface 148 (.agg [.int .i64 e])

theorem drive_want_ok (e : Int) : APure Pg fn_drive_want [.bool true, .int .i64 e] (.tup []) := by
  refine drive_want.pure (by simp) ?_
  simp
  exact RetV.refl rfl

theorem drive_want_pan (e : Int) : APan Pg fn_drive_want [.bool false, .int .i64 e] (refV e) := by
  refine APan.of_nil (drive_want.enter 0 (by simp) ?_)
  simp
  exact ⟨_, HLe.refl _, rfl⟩

theorem drive_said_nil (p : AVal) : APure Pg fn_drive_said [.nili, p] (.tup []) := by
  refine drive_said.pure (by simp) ?_
  simp
  exact RetV.refl rfl

theorem drive_said_ref (e x : Int) (r s : Nat) (K : AEnd → Heap → Prop) (hK : K (.ret (.tup [])) (hpV [(r, .row [.int .i64 e] s)])) : ACalls Pg fn_drive_said [refV e, .ptr r 0 s] (hpV [(r, .row [.int .i64 x] s)]) K := by
  obtain ⟨F, hF⟩ : ∃ F, r < F := ⟨r + 1, by omega⟩
  have e1 : ∀ k, ¬ F + k = r := fun k => by omega
  have e2 : ∀ k, ¬ r = F + k := fun k => by omega
  refine drive_said.enter F (by simp) ?_
  simp [refV, e1, e2]
  intro s1
  exact RetV.view [(r, .row [.int .i64 e] s)] (by simp) hK

end Go.Cw
end

/- What comes of blows: the program settles each once. -/
section
set_option maxRecDepth 100000
set_option linter.unusedSimpArgs false
namespace Go.Cw
open Go Go.Proofs

theorem drive_hull_settler_ok (d : Drv) (m : Nat) (K : AEnd → Heap → Prop) (hK : ∀ s, K (.ret (.agg [d.H, .map m s])) (hpV [(m, .map [] s)])) : ACalls Pg fn_drive_hull_settler [d.H] (hpV [(m, .dead)]) K := by
  obtain ⟨F, hF⟩ : ∃ F, m < F := ⟨m + 1, by omega⟩
  have e1 : ∀ k, ¬ F + k = m := fun k => by omega
  have e2 : ∀ k, ¬ m = F + k := fun k => by omega
  refine drive_hull_settler.enter F (by simp) ?_
  simp [Drv.H, e1, e2]
  intro s s1
  refine RetV.move (F + 4) m (RetV.view [(m, .map [] (s1 + 1))] (by simp [e1, e2]) ?_)
  simpa [Drv.H] using hK (s1 + 1)

namespace Drv
noncomputable def restL (d : Drv) (c : Nat → Int) : List Int := tab 6 (d.left c) ++ tab 6 (d.odo c)
@[simp] theorem restL_length (d : Drv) (c : Nat → Int) : (d.restL c).length = 12 := by simp [restL]
@[simp] theorem restL_take (d : Drv) (c : Nat → Int) : (d.restL c).take 12 = d.restL c := List.take_of_length_le (by simp)
noncomputable def restV (d : Drv) (c : Nat → Int) : AVal := .agg (ints (d.restL c))
noncomputable def memo (d : Drv) (M : List (List Int)) : List (AVal × AVal) := entsI (fun l => d.restV (ofL l)) M
end Drv

/-- Nothing beyond six. -/
def Z6 (c : Nat → Int) : Prop := ∀ j, 6 ≤ j → c j = 0
theorem Z6.eq {c : Nat → Int} (h : Z6 c) : ofL (tab 6 c) = c := by
  funext j
  by_cases hj : j < 6
  · rw [← ofL_at _ (by simpa using hj)]; simp
  · rw [ofL_none _ (by simp; omega), h j (by omega)]

theorem drive_settler_rest_ok (d : Drv) (hd : d.Small) (hv : d.Valid) (c : Nat → Int) (hz : Z6 c) {B : Int} (hB : B ≤ 10000) (hc : d.In B c) (hc0 : ∀ j, j < 6 → 0 ≤ c j ∧ c j ≤ 10000) (m s : Nat) (M : List (List Int)) (hM : ∀ l ∈ M, l.length = 6)
    (K : AEnd → Heap → Prop) (hK : ∀ M', (∀ l ∈ M', l.length = 6) → K (.ret (d.restV c)) (hpV [(m, .map (d.memo M') s)])) : ACalls Pg fn_drive_settler_rest [.agg [d.H, .map m s], B6 c] (hpV [(m, .map (d.memo M) s)]) K := by
  obtain ⟨F, hF⟩ : ∃ F, m < F := ⟨m + 1, by omega⟩
  have e1 : ∀ k, ¬ F + k = m := fun k => by omega
  have e2 : ∀ k, ¬ m = F + k := fun k => by omega
  have hn6 := hv.n6
  refine drive_settler_rest.enter F (by simp) ?_
  have hlk : ∀ h : Heap, h m = .map (d.memo M) s → ∀ zero, aLookup h (true, [.i, .i, .i, .i, .i, .i]) true zero (.map m s) (.agg (ints (tab 6 c))) = some (if tab 6 c ∈ M then .tup [d.restV c, .bool true] else .tup [zero, .bool false]) := by
    intro h hh zero
    have := aLookup_ints (n := 6) (k := tab 6 c) (by simp) hM hh zero
    rw [hz.eq] at this
    exact this
  simp [Drv.H, B6, e1, e2]
  intro s1 s2 s3
  rw [hlk _ (by simp [e2])]
  by_cases hkm : tab 6 c ∈ M
  · simp [hkm, e1, e2, Drv.restV]
    intro s4
    refine RetV.view [(m, .map (d.memo M) s)] (by simp [e1, e2]) ?_
    simpa [Drv.restV] using hK M hM
  · simp [hkm, e1, e2, setRange_12]
    intro s4 s5
    refine Lp.intro (σ := (Nat → Int) × (Nat → Int) × Bool) (inv := fun x => (∃ l, Drv.Seq d c l x.1 ∧ x.2.1 = times l) ∧ (x.2.2 = false → d.Stable x.1))
      (vw := fun x => [(2, .ptr (F + 2) 0 (s1+1)), (3, .ptr (F + 3) 0 (s2+1)), (4, .ptr (F + 4) 0 (s3+1)), (7, .ptr (F + 7) 0 (s5+1)), (8, .bool x.2.2)])
      (hp := fun x => [(F + 2, .row [d.H, .map m s] (s1+1)), (F + 3, .row (ints (tab 6 c)) (s2+1)), (F + 4, .row (ints (tab 6 (fun _ => 0) ++ tab 6 fun _ => 0)) (s3+1)), (F + 7, .row (ints (tab 6 x.1 ++ tab 6 x.2.1)) (s5+1)), (m, .map (d.memo M) s)])
      (ms := fun x => 2 * (Drv.sum d.n x.1).toNat + if x.2.2 then 1 else 0) (c, (fun _ => 0), true) ⟨⟨[], .nil, rfl⟩, by simp⟩ (by simp) ?_ ?_
    · simp [e1, e2, Drv.H]
      rfl
    rintro ⟨cur, u, again⟩ ⟨⟨l, hl, hu⟩, hst⟩ J hJ
    simp at hl hu hst
    have hcur := hl.inn hv hc
    cases again with
    | false =>
      simp [e1, e2]
      refine hJ.exit ?_
      obtain ⟨h1, h2⟩ := hl.rest hv hc (hst rfl)
      have hr : ints (tab 6 cur ++ tab 6 u) = ints (d.restL c) := by rw [hu, h1, h2]; rfl
      simp [e1, e2, Drv.H, hr]
      refine osat_iff.2 ⟨_, mapU_ints (n := 6) (k := tab 6 c) (f := fun l => d.restV (ofL l)) (M := M) (m := m) (s := s) (by simp) hM hkm ?_ (by simp) (by simp) ?_, ?_⟩
      · simp [e2]; rfl
      · simp [hz.eq, Drv.restV]
      · simp [e1, e2]
        refine RetV.view [(m, .map (d.memo (M ++ [tab 6 c])) s)] (by simp [e1, e2]; rfl) ?_
        have := hK (M ++ [tab 6 c]) (fun l hl => by
          rcases List.mem_append.1 hl with h | h
          · exact hM l h
          · simp at h; simp [h])
        simpa [Drv.restV] using this
    | true =>
      simp [e1, e2, Drv.H]
      refine PCallK.intro (PInv.func (drive_hull_seams_ok d)) ?_
      simp
      refine Lp.intro (σ := Nat × (Nat → Int) × (Nat → Int) × Bool) (inv := fun x => x.1 ≤ d.n ∧ (∃ l, Drv.Seq d c l x.2.1 ∧ x.2.2.1 = times l) ∧ (x.2.2.2 = false → ∀ j, j < x.1 → x.2.1 j < d.lim j) ∧ Drv.sum d.n x.2.1 + (if x.2.2.2 then 1 else 0) ≤ Drv.sum d.n cur)
        (vw := fun x => [(2, .ptr (F + 2) 0 (s1+1)), (3, .ptr (F + 3) 0 (s2+1)), (4, .ptr (F + 4) 0 (s3+1)), (7, .ptr (F + 7) 0 (s5+1)), (8, .bool x.2.2.2), (26, .int .i64 d.n), (27, .int .i64 x.1)])
        (hp := fun x => [(F + 2, .row [d.H, .map m s] (s1+1)), (F + 3, .row (ints (tab 6 c)) (s2+1)), (F + 4, .row (ints (tab 6 (fun _ => 0) ++ tab 6 fun _ => 0)) (s3+1)), (F + 7, .row (ints (tab 6 x.2.1 ++ tab 6 x.2.2.1)) (s5+1)), (m, .map (d.memo M) s)])
        (ms := fun x => d.n - x.1) (0, cur, u, false) ⟨by simp, ⟨l, hl, hu⟩, by simp, by simp⟩ (by simp) (by simp [e1, e2, Drv.H]) ?_
      rintro ⟨k, cur2, u2, ag⟩ ⟨hk, ⟨l2, hl2, hu2⟩, hst2, hsum⟩ J2 hJ2
      simp at hk hl2 hu2 hst2 hsum
      have hcur2 := hl2.inn hv hc
      by_cases hkc : k < d.n
      · have hk6 : k < 6 := by omega
        have hkl : k < d.limits.length := hkc
        have hlim := hv.lim_pos hkc
        have hpos := hcur2.pos k hkc
        have hle := hcur2.le hkc
        have hdiv : (cur2 k).tdiv (d.lim k) = cur2 k / d.lim k := Int.tdiv_eq_ediv_of_nonneg hpos
        have hd0 : 0 ≤ cur2 k / d.lim k := Int.ediv_nonneg hpos (by omega)
        have hd1 : cur2 k / d.lim k ≤ 10000 := Int.le_trans (Int.ediv_le_self _ hpos) (by omega)
        have hmul : cur2 k / d.lim k * d.lim k ≤ cur2 k := Int.ediv_mul_le _ (by omega)
        simp [e1, e2, Drv.H, hkc, hk6, hkl, d.lim_at hkl, show (k : Int) < 6 by omega, two_lo 6 cur2 _ hk6, hdiv, show ¬ d.lim k = 0 by omega]
        refine ⟨Fits.of (by omega) (by omega), ?_⟩
        by_cases q : 0 < cur2 k / d.lim k
        · have hbig : ∀ j, j < 6 → 0 ≤ cur2 j ∧ cur2 j ≤ 10000 := by
            intro j hj
            by_cases hjn : j < d.n
            · have := hcur2.pos j hjn; have := hcur2.le hjn; omega
            · rw [hl2.out hv (by omega)]; exact hc0 j hj
          have hlen := hl2.len hv
          have hsum0 := Drv.sum_nonneg hcur2.pos
          have ht := Drv.times_le_len l2 k
          have ht0 := Drv.times_nonneg l2 k
          have hcs := hc.sum
          obtain ⟨t, htt⟩ := Int.eq_ofNat_of_zero_le hd0
          rw [htt] at hmul hd1 q
          have hseq := Drv.Seq.many (d := d) hkc (by omega) (Drv.cnt_self hv k) t (c := cur2) hmul
          have hlen2 := hseq.len hv
          simp at hlen2
          have q' : 0 < t := by omega
          simp [htt, q', e1, e2, two_take, two_drop]
          refine PCallK.intro (PInv.func (drive_hull_opened_ok d hd hv cur2 hbig k hkc t ⟨by omega, by omega⟩)) ?_
          simp [e1, e2, two_take, two_drop]
          refine PCallK.intro (PInv.func (drive_blows_with_ok u2 k hk6 t (by rw [hu2]; exact Fits.of (by omega) (by omega)))) ?_
          simp [e1, e2, B6, setRange_hi]
          (repeat first | refine And.intro (by omega) ?_ | refine And.intro (Fits.of (by omega) (by omega)) ?_)
          refine hJ2.next (k + 1, d.fireN k t cur2, plus u2 k t, true) ⟨by simp; omega, ⟨l2 ++ List.replicate t k, hl2.append hseq, ?_⟩, by simp, ?_⟩ (by simp; omega) (by simp) (by simp [e1, e2, Drv.H])
          · funext j
            rw [Drv.times_append, Drv.times_replicate, hu2]
            simp only [plus, upd]
            split
            · rename_i h; subst h; rfl
            · omega
          · simp
            have : (if ag = true then (1 : Int) else 0) ≥ 0 := by split <;> omega
            omega
        · have hlt : cur2 k < d.lim k := by
            refine Classical.byContradiction fun hn => q ?_
            exact Int.le_ediv_of_mul_le (by omega) (by omega)
          simp [q, e1, e2]
          (repeat first | refine And.intro (by omega) ?_ | refine And.intro (Fits.of (by omega) (by omega)) ?_)
          refine hJ2.next (k + 1, cur2, u2, ag) ⟨by simp; omega, ⟨l2, hl2, hu2⟩, ?_, hsum⟩ (by simp; omega) (by simp) (by simp [e1, e2, Drv.H])
          simp
          intro ha j hj
          by_cases hjk : j = k
          · subst hjk; exact hlt
          · exact hst2 ha j (by omega)
      · simp [hkc, e1, e2]
        refine hJ2.exit ?_
        simp [e1, e2]
        have hsum0 := Drv.sum_nonneg hcur2.pos
        refine hJ.next (cur2, u2, ag) ⟨⟨l2, hl2, hu2⟩, fun ha j hj => hst2 ha j (by omega)⟩ ?_ (by simp) (by simp [e1, e2, Drv.H])
        simp
        cases ag <;> simp at hsum ⊢ <;> omega

end Go.Cw
end

/- How often seams open, at least and at most. -/
section
set_option maxRecDepth 100000
set_option linter.unusedSimpArgs false
namespace Go.Cw
open Go Go.Proofs

theorem Drv.Valid.lohi {d : Drv} (hv : d.Valid) (j : Nat) : 0 ≤ d.lo j ∧ d.lo j ≤ d.hi j ∧ d.hi j ≤ 12 := by
  by_cases hj : j < d.blows.length
  · have := hv.narrow d.blows[j] (by simp)
    simp [Drv.lo, Drv.hi, hj]
    omega
  · simp [Drv.lo, Drv.hi, hj]
theorem Drv.Valid.lo_in {d : Drv} (hv : d.Valid) : d.In 72 d.lo := Drv.In.of_le hv (m := 12) (fun j _ => by have := hv.lohi j; omega) (by omega)
theorem Drv.Valid.hi_in {d : Drv} (hv : d.Valid) : d.In 72 d.hi := Drv.In.of_le hv (m := 12) (fun j _ => by have := hv.lohi j; omega) (by omega)
theorem Drv.Valid.lo_z {d : Drv} (hv : d.Valid) : Z6 d.lo := fun j hj => by
  have := hv.bl; have := hv.n6
  simp [Drv.lo, show ¬ j < d.blows.length by omega]
theorem Drv.Valid.hi_z {d : Drv} (hv : d.Valid) : Z6 d.hi := fun j hj => by
  have := hv.bl; have := hv.n6
  simp [Drv.hi, show ¬ j < d.blows.length by omega]

theorem drive_hull_times_ok (d : Drv) (hd : d.Small) (hv : d.Valid) : APure Pg fn_drive_hull_times [d.H] (.tup [B6 (d.odo d.lo), B6 (d.odo d.hi)]) := by
  refine drive_hull_times.pure (by simp) ?_
  simp
  intro s s1
  refine FCall.cps [(200, .dead)] (fun s' : Nat => .agg [d.H, .map 200 s']) (fun s' => [(200, .map [] s')]) (fun _ => True) (fun K' hK' => AInvoke.func ?_) (by simp) (fun _ => rfl) trivial (fun s' _ => ⟨trivial, ?_⟩)
  · exact drive_hull_settler_ok d 200 K' fun s' => hK' s' trivial
  simp
  intro s2
  refine PCallK.intro (PInv.func (drive_hull_ends_ok d hd hv false)) ?_
  simp
  refine FCall.cps [(200, .map (d.memo []) s')] (fun _ : {M' : List (List Int) // ∀ l ∈ M', l.length = 6} => d.restV d.lo) (fun M' => [(200, .map (d.memo M'.1) s')]) (fun _ => True) (fun K' hK' => AInvoke.func ?_) (by simp; rfl) (fun _ => rfl) trivial (fun M' _ => ?_)
  · refine drive_settler_rest_ok d hd hv d.lo hv.lo_z (B := 72) (by omega) hv.lo_in (fun j _ => by have := hv.lohi j; omega) 200 s' [] (by simp) K' fun M' hM' => hK' ⟨M', hM'⟩ trivial
  obtain ⟨M', hM'⟩ := M'
  simp [Drv.restV, Drv.restL, two_drop]
  refine PCallK.intro (PInv.func (drive_hull_ends_ok d hd hv true)) ?_
  simp
  refine FCall.cps [(200, .map (d.memo M') s')] (fun _ : {M' : List (List Int) // ∀ l ∈ M', l.length = 6} => d.restV d.hi) (fun M' => [(200, .map (d.memo M'.1) s')]) (fun _ => True) (fun K' hK' => AInvoke.func ?_) (by simp) (fun _ => rfl) trivial (fun M'' _ => ?_)
  · refine drive_settler_rest_ok d hd hv d.hi hv.hi_z (B := 72) (by omega) hv.hi_in (fun j _ => by have := hv.lohi j; omega) 200 s' M' hM' K' fun M' hM' => hK' ⟨M', hM'⟩ trivial
  simp [Drv.restV, Drv.restL, two_drop]
  exact RetV.refl rfl

end Go.Cw
end

/- A drive that is looked at. -/
section
set_option maxRecDepth 100000
set_option linter.unusedSimpArgs false
namespace Go.Cw
open Go Go.Proofs

def idxP (l : List (Int × Int)) (p : Int × Int) : Int := match l.findIdx? fun x => decide (p = x) with
  | some i => i
  | none => -1

theorem slices_Index_2_ok (l : List (Int × Int)) (n : Nat) (hn : n ≤ l.length) (hl : l.length ≤ 100000) (p : Int × Int) : APure Pg fn_slices_Index_2_int_2_int [.vl n (prs l), .agg [.int .i64 p.1, .int .i64 p.2]] (.int .i64 (idxP (l.take n) p)) := by
  refine slices_Index_2_int_2_int.pure (by simp) ?_
  simp
  intro s
  refine Lp.intro (σ := Nat) (inv := fun k => k ≤ n ∧ ∀ j (h : j < l.length), j < k → p ≠ l[j]) (vw := fun k => [(0, .vl n (prs l)), (3, .ptr 3 0 (s+1)), (7, .int .i64 n), (8, .int .i64 k)]) (hp := fun _ => [(3, .row [.int .i64 p.1, .int .i64 p.2] (s+1))]) (ms := fun k => n - k) 0 (by simp) (by simp) (by simp) ?_
  rintro k ⟨hk, inv⟩ J hJ
  by_cases hkc : k < n
  · have hkl : k < l.length := by omega
    by_cases q : p = l[k]
    · have q' : (p.1 == l[k].1 && p.2 == l[k].2) = true := by rw [← q]; simp
      simp [hkc, prs_drop, hkl, q']
      refine ⟨by omega, ?_⟩
      refine hJ.ret ?_
      simp
      refine RetV.refl ?_
      have : (l.take n).findIdx? (fun x => decide (p = x)) = some k := by
        rw [List.findIdx?_eq_some_iff_getElem]
        refine ⟨by simp; omega, by simpa using q, fun j hj => ?_⟩
        simp
        exact inv j (by omega) hj
      simp [idxP, this]
    · have q' : (p.1 == l[k].1 && p.2 == l[k].2) = false := by
        rw [Prod.ext_iff] at q
        simpa using q
      simp [hkc, prs_drop, hkl, q']
      refine ⟨by omega, Fits.of (by omega) (by omega), hJ.next (k + 1) ⟨by omega, fun j hj hjk => ?_⟩ (by omega) (by simp) (by simp)⟩
      by_cases h : j = k
      · subst h; exact q
      · exact inv j hj (by omega)
  · simp [hkc]
    refine hJ.exit ?_
    simp
    refine RetV.refl ?_
    have : (l.take n).findIdx? (fun x => decide (p = x)) = none := by
      rw [List.findIdx?_eq_none_iff]
      intro x hx
      obtain ⟨j, hj, rfl⟩ := List.getElem_of_mem hx
      simp at hj
      simp
      exact inv j (by omega) (by omega)
    simp [idxP, this]

theorem idxP_ge (l : List (Int × Int)) (p : Int × Int) : decide (0 ≤ idxP l p) = decide (p ∈ l) := by
  unfold idxP
  cases h : l.findIdx? (fun x => decide (p = x)) with
  | none =>
    rw [List.findIdx?_eq_none_iff] at h
    have : p ∉ l := fun hm => by have := h p hm; simp at this
    simp [this]
  | some i =>
    rw [List.findIdx?_eq_some_iff_getElem] at h
    obtain ⟨h1, h2, _⟩ := h
    simp at h2
    have : p ∈ l := by rw [h2]; simp
    simp [this]

theorem slices_Contains_2_ok (l : List (Int × Int)) (n : Nat) (hn : n ≤ l.length) (hl : l.length ≤ 100000) (p : Int × Int) : APure Pg fn_slices_Contains_2_int_2_int [.vl n (prs l), .agg [.int .i64 p.1, .int .i64 p.2]] (.bool (decide (p ∈ l.take n))) := by
  refine slices_Contains_2_int_2_int.pure (by simp) ?_
  simp
  intro s
  refine PCallK.intro (PInv.func (slices_Index_2_ok l n hn hl p)) ?_
  simp
  exact RetV.refl (by rw [idxP_ge])

noncomputable def Drv.openE (d : Drv) (is : Bool) : AEnd := if d.Valid then (if is then .ret d.H else .pan (refV 2)) else .pan (refV 1)

theorem drive_open_all (d : Drv) (hd : d.Small) (is : Bool) : ACalls Pg fn_drive_open [d.v, .bool is] nilH fun e _ => e = d.openE is := by
  have hl := hd.l
  have hp := hd.p
  have hb := hd.b
  have vn : ∀ {p : Prop}, (d.Valid → p) → ¬ p → .pan (refV 1) = d.openE is := by
    intro p h k
    have : ¬ d.Valid := fun v => k (h v)
    simp [Drv.openE, this]
  refine drive_open.enter 0 (by simp) ?_
  simp
  intro s
  refine PCallK.intro (PInv.func (drive_within_ok _ _ _)) ?_
  by_cases h1 : (1 : Int) ≤ d.limits.length ∧ (d.limits.length : Int) ≤ 6
  · by_cases h2 : d.blows.length = d.limits.length
    · simp [h1, h2]
      refine FCall.pure (PInv.func (drive_want_ok 1)) ?_
      simp
      intro s1
      obtain ⟨A, hA⟩ : ∃ A : Nat → Nat → List Int, A = fun k j => Drv.adjL (d.beside.take k) j := ⟨_, rfl⟩
      have hA0 : ∀ j, A 0 j = [] := by intro j; rw [hA]; rfl
      have hAs : ∀ k (hk : k < d.beside.length) (a b : Nat), d.beside[k] = ((a : Int), (b : Int)) → ∀ j, A (k + 1) j = A k j ++ ((if a = j then [(b : Int)] else []) ++ (if b = j then [(a : Int)] else [])) := by
        intro k hk a b hab j
        rw [hA]
        simp only [Drv.adjL_take _ _ hk, hab, natCast_eq]
      have hAl : ∀ k j, (A k j).length ≤ 80 := by
        intro k j
        rw [hA]
        simp only [Drv.adjL, List.length_flatMap]
        have key : ∀ l : List (Int × Int), (l.map fun p => ((if p.1 = (j : Int) then [p.2] else []) ++ (if p.2 = (j : Int) then [p.1] else [])).length).sum ≤ 2 * l.length := by
          intro l
          induction l with
          | nil => simp
          | cons p l ih =>
            simp only [List.map_cons, List.sum_cons, List.length_cons, List.length_append]
            (repeat' split) <;> simp at ih ⊢ <;> omega
        refine Nat.le_trans (key _) ?_
        simp; omega
      have hAe : ∀ j, A d.beside.length j = d.adj j := by
        intro j; rw [hA]; simp [Drv.adj]
      clear hA
      refine Lp.intro' (σ := Nat × (Nat → Nat)) (inv := fun x => x.1 ≤ d.beside.length ∧ ∀ (j : Nat) (p : Int × Int), j < x.1 → d.beside[j]? = some p → d.Seam p.1 ∧ d.Seam p.2 ∧ p.1 < p.2 ∧ ∀ k : Nat, k < j → d.beside[k]? ≠ some p)
        (vw := fun x => [(1, .bool is), (2, .ptr 2 0 (s+1)), (5, .ptr 27 0 (s1+1)), (29, LP d.beside), (30, .int .i64 d.beside.length), (31, .int .i64 x.1)])
        (hp := fun x => [(2, .row d.cells (s+1)), (27, .row [L d.limits, LP d.beside, LP d.blows, gS 1 200 (A x.1 0).length (x.2 0), gS 1 201 (A x.1 1).length (x.2 1), gS 1 202 (A x.1 2).length (x.2 2), gS 1 203 (A x.1 3).length (x.2 3), gS 1 204 (A x.1 4).length (x.2 4), gS 1 205 (A x.1 5).length (x.2 5)] (s1+1)),
          (200, gO (A x.1 0).length (ints (A x.1 0)) (x.2 0)), (201, gO (A x.1 1).length (ints (A x.1 1)) (x.2 1)), (202, gO (A x.1 2).length (ints (A x.1 2)) (x.2 2)), (203, gO (A x.1 3).length (ints (A x.1 3)) (x.2 3)), (204, gO (A x.1 4).length (ints (A x.1 4)) (x.2 4)), (205, gO (A x.1 5).length (ints (A x.1 5)) (x.2 5))])
        (ms := fun x => d.beside.length - x.1) (0, fun _ => 0) (by simp)
        (Sl.rowLe 27 [L d.limits, LP d.beside, LP d.blows, .es, .es, .es, .es, .es, .es] rfl ⟨ALe.refl _, ALe.refl _, ALe.refl _, ALe.nils_es, ALe.nils_es, ALe.nils_es, ALe.nils_es, ALe.nils_es, ALe.nils_es, trivial⟩ (Sl.refl ⟨rfl, by simp, by simp [hA0]⟩)) ?_
      rintro ⟨k, st⟩ ⟨hk, inv⟩ J hJ
      simp at hk
      by_cases hkc : k < d.beside.length
      · have bad : ∀ {q : Prop}, (d.Seam d.beside[k].1 ∧ d.Seam d.beside[k].2 ∧ d.beside[k].1 < d.beside[k].2 ∧ (∀ j : Nat, j < k → d.beside[j]? ≠ some d.beside[k]) → q) → ¬ q → .pan (refV 1) = d.openE is :=
          fun h q => vn (fun v => h (v.pr k _ (by simp [hkc]))) q
        simp [hkc]
        refine ⟨by omega, fun s2 => PCallK.intro (PInv.func (drive_isSeam_ok d hd _)) ?_⟩
        by_cases q1 : d.Seam d.beside[k].1
        · simp [q1]
          refine PCallK.intro (PInv.func (drive_isSeam_ok d hd _)) ?_
          by_cases q2 : d.Seam d.beside[k].2
          · by_cases q3 : d.beside[k].1 < d.beside[k].2
            · obtain ⟨a, b, hab, hab1, hab2⟩ : ∃ a b : Nat, d.beside[k] = ((a : Int), (b : Int)) ∧ a < b ∧ b < d.n := by
                have := q1.1; have := q2.1; have := q2.2
                exact ⟨d.beside[k].1.toNat, d.beside[k].2.toNat, by ext <;> simp <;> omega, by omega, by omega⟩
              simp [q2, q3]
              refine ⟨by omega, PCallK.intro (PInv.func (slices_Contains_2_ok d.beside k hk (by omega) d.beside[k])) ?_⟩
              by_cases q4 : d.beside[k] ∈ d.beside.take k
              · simp [q4]
                refine FCall.pan (PInvPan.func (drive_want_pan 1)) ?_
                simp
                refine hJ.pan ?_
                simp
                refine ⟨_, HLe.refl _, bad (fun v => v.2.2.2) fun hq => ?_⟩
                obtain ⟨j, hj, hjk⟩ := List.getElem_of_mem q4
                simp at hj
                exact hq j (by omega) (by rw [List.getElem?_eq_getElem (by omega), ← hjk]; simp)
              · simp [q4]
                refine FCall.pure (PInv.func (drive_want_ok 1)) ?_
                have a0 : (a = 0 ∨ a = 1 ∨ a = 2 ∨ a = 3 ∨ a = 4) := by have := h1.2; unfold Drv.n at hab2; omega
                have b0 : (b = 1 ∨ b = 2 ∨ b = 3 ∨ b = 4 ∨ b = 5) := by have := h1.2; unfold Drv.n at hab2; omega
                have l0 := hAl k 0
                have l1 := hAl k 1
                have l2 := hAl k 2
                have l3 := hAl k 3
                have l4 := hAl k 4
                have l5 := hAl k 5
                have hA1 := hAs k hkc a b hab
                have hinv : ∀ (j : Nat) (p : Int × Int), j < k + 1 → d.beside[j]? = some p → d.Seam p.1 ∧ d.Seam p.2 ∧ p.1 < p.2 ∧ ∀ k : Nat, k < j → d.beside[k]? ≠ some p := by
                  intro j p hj hjp
                  by_cases hjk : j = k
                  · subst hjk
                    obtain rfl : d.beside[j] = p := by simpa [hkc] using hjp
                    refine ⟨q1, q2, q3, fun k' hk' he => q4 ?_⟩
                    rw [List.mem_take_iff_getElem]
                    obtain ⟨h5, h6⟩ := List.getElem?_eq_some_iff.1 he
                    exact ⟨k', by omega, h6⟩
                  · exact inv j p (by omega) hjp
                rcases a0 with rfl | rfl | rfl | rfl | rfl <;> rcases b0 with rfl | rfl | rfl | rfl | rfl <;> first | omega | skip
                · simp [hab]
                  intro s3 s4 s5
                  refine xApN_gS (cells := ints (A k 0)) (by simp) (by simp) (by omega) (by omega) ?_
                  simp
                  intro s6
                  refine xApN_gS (cells := ints (A k 1)) (by simp) (by simp) (by omega) (by omega) ?_
                  simp
                  (repeat first | refine And.intro (by omega) ?_ | refine And.intro (Fits.of (by omega) (by omega)) ?_)
                  refine hJ.next' (k + 1, fun j => if j = 0 then s5 + 1 else if j = 1 then s6 + 1 else st j) ⟨by simp; omega, hinv⟩ (by simp; omega) (Sl.moveH 79 200 (Sl.moveH 90 201 (Sl.refl ⟨rfl, by simp, by simp [hA1]⟩)))
                · simp [hab]
                  intro s3 s4 s5
                  refine xApN_gS (cells := ints (A k 0)) (by simp) (by simp) (by omega) (by omega) ?_
                  simp
                  intro s6
                  refine xApN_gS (cells := ints (A k 2)) (by simp) (by simp) (by omega) (by omega) ?_
                  simp
                  (repeat first | refine And.intro (by omega) ?_ | refine And.intro (Fits.of (by omega) (by omega)) ?_)
                  refine hJ.next' (k + 1, fun j => if j = 0 then s5 + 1 else if j = 2 then s6 + 1 else st j) ⟨by simp; omega, hinv⟩ (by simp; omega) (Sl.moveH 79 200 (Sl.moveH 90 202 (Sl.refl ⟨rfl, by simp, by simp [hA1]⟩)))
                · simp [hab]
                  intro s3 s4 s5
                  refine xApN_gS (cells := ints (A k 0)) (by simp) (by simp) (by omega) (by omega) ?_
                  simp
                  intro s6
                  refine xApN_gS (cells := ints (A k 3)) (by simp) (by simp) (by omega) (by omega) ?_
                  simp
                  (repeat first | refine And.intro (by omega) ?_ | refine And.intro (Fits.of (by omega) (by omega)) ?_)
                  refine hJ.next' (k + 1, fun j => if j = 0 then s5 + 1 else if j = 3 then s6 + 1 else st j) ⟨by simp; omega, hinv⟩ (by simp; omega) (Sl.moveH 79 200 (Sl.moveH 90 203 (Sl.refl ⟨rfl, by simp, by simp [hA1]⟩)))
                · simp [hab]
                  intro s3 s4 s5
                  refine xApN_gS (cells := ints (A k 0)) (by simp) (by simp) (by omega) (by omega) ?_
                  simp
                  intro s6
                  refine xApN_gS (cells := ints (A k 4)) (by simp) (by simp) (by omega) (by omega) ?_
                  simp
                  (repeat first | refine And.intro (by omega) ?_ | refine And.intro (Fits.of (by omega) (by omega)) ?_)
                  refine hJ.next' (k + 1, fun j => if j = 0 then s5 + 1 else if j = 4 then s6 + 1 else st j) ⟨by simp; omega, hinv⟩ (by simp; omega) (Sl.moveH 79 200 (Sl.moveH 90 204 (Sl.refl ⟨rfl, by simp, by simp [hA1]⟩)))
                · simp [hab]
                  intro s3 s4 s5
                  refine xApN_gS (cells := ints (A k 0)) (by simp) (by simp) (by omega) (by omega) ?_
                  simp
                  intro s6
                  refine xApN_gS (cells := ints (A k 5)) (by simp) (by simp) (by omega) (by omega) ?_
                  simp
                  (repeat first | refine And.intro (by omega) ?_ | refine And.intro (Fits.of (by omega) (by omega)) ?_)
                  refine hJ.next' (k + 1, fun j => if j = 0 then s5 + 1 else if j = 5 then s6 + 1 else st j) ⟨by simp; omega, hinv⟩ (by simp; omega) (Sl.moveH 79 200 (Sl.moveH 90 205 (Sl.refl ⟨rfl, by simp, by simp [hA1]⟩)))
                · simp [hab]
                  intro s3 s4 s5
                  refine xApN_gS (cells := ints (A k 1)) (by simp) (by simp) (by omega) (by omega) ?_
                  simp
                  intro s6
                  refine xApN_gS (cells := ints (A k 2)) (by simp) (by simp) (by omega) (by omega) ?_
                  simp
                  (repeat first | refine And.intro (by omega) ?_ | refine And.intro (Fits.of (by omega) (by omega)) ?_)
                  refine hJ.next' (k + 1, fun j => if j = 1 then s5 + 1 else if j = 2 then s6 + 1 else st j) ⟨by simp; omega, hinv⟩ (by simp; omega) (Sl.moveH 79 201 (Sl.moveH 90 202 (Sl.refl ⟨rfl, by simp, by simp [hA1]⟩)))
                · simp [hab]
                  intro s3 s4 s5
                  refine xApN_gS (cells := ints (A k 1)) (by simp) (by simp) (by omega) (by omega) ?_
                  simp
                  intro s6
                  refine xApN_gS (cells := ints (A k 3)) (by simp) (by simp) (by omega) (by omega) ?_
                  simp
                  (repeat first | refine And.intro (by omega) ?_ | refine And.intro (Fits.of (by omega) (by omega)) ?_)
                  refine hJ.next' (k + 1, fun j => if j = 1 then s5 + 1 else if j = 3 then s6 + 1 else st j) ⟨by simp; omega, hinv⟩ (by simp; omega) (Sl.moveH 79 201 (Sl.moveH 90 203 (Sl.refl ⟨rfl, by simp, by simp [hA1]⟩)))
                · simp [hab]
                  intro s3 s4 s5
                  refine xApN_gS (cells := ints (A k 1)) (by simp) (by simp) (by omega) (by omega) ?_
                  simp
                  intro s6
                  refine xApN_gS (cells := ints (A k 4)) (by simp) (by simp) (by omega) (by omega) ?_
                  simp
                  (repeat first | refine And.intro (by omega) ?_ | refine And.intro (Fits.of (by omega) (by omega)) ?_)
                  refine hJ.next' (k + 1, fun j => if j = 1 then s5 + 1 else if j = 4 then s6 + 1 else st j) ⟨by simp; omega, hinv⟩ (by simp; omega) (Sl.moveH 79 201 (Sl.moveH 90 204 (Sl.refl ⟨rfl, by simp, by simp [hA1]⟩)))
                · simp [hab]
                  intro s3 s4 s5
                  refine xApN_gS (cells := ints (A k 1)) (by simp) (by simp) (by omega) (by omega) ?_
                  simp
                  intro s6
                  refine xApN_gS (cells := ints (A k 5)) (by simp) (by simp) (by omega) (by omega) ?_
                  simp
                  (repeat first | refine And.intro (by omega) ?_ | refine And.intro (Fits.of (by omega) (by omega)) ?_)
                  refine hJ.next' (k + 1, fun j => if j = 1 then s5 + 1 else if j = 5 then s6 + 1 else st j) ⟨by simp; omega, hinv⟩ (by simp; omega) (Sl.moveH 79 201 (Sl.moveH 90 205 (Sl.refl ⟨rfl, by simp, by simp [hA1]⟩)))
                · simp [hab]
                  intro s3 s4 s5
                  refine xApN_gS (cells := ints (A k 2)) (by simp) (by simp) (by omega) (by omega) ?_
                  simp
                  intro s6
                  refine xApN_gS (cells := ints (A k 3)) (by simp) (by simp) (by omega) (by omega) ?_
                  simp
                  (repeat first | refine And.intro (by omega) ?_ | refine And.intro (Fits.of (by omega) (by omega)) ?_)
                  refine hJ.next' (k + 1, fun j => if j = 2 then s5 + 1 else if j = 3 then s6 + 1 else st j) ⟨by simp; omega, hinv⟩ (by simp; omega) (Sl.moveH 79 202 (Sl.moveH 90 203 (Sl.refl ⟨rfl, by simp, by simp [hA1]⟩)))
                · simp [hab]
                  intro s3 s4 s5
                  refine xApN_gS (cells := ints (A k 2)) (by simp) (by simp) (by omega) (by omega) ?_
                  simp
                  intro s6
                  refine xApN_gS (cells := ints (A k 4)) (by simp) (by simp) (by omega) (by omega) ?_
                  simp
                  (repeat first | refine And.intro (by omega) ?_ | refine And.intro (Fits.of (by omega) (by omega)) ?_)
                  refine hJ.next' (k + 1, fun j => if j = 2 then s5 + 1 else if j = 4 then s6 + 1 else st j) ⟨by simp; omega, hinv⟩ (by simp; omega) (Sl.moveH 79 202 (Sl.moveH 90 204 (Sl.refl ⟨rfl, by simp, by simp [hA1]⟩)))
                · simp [hab]
                  intro s3 s4 s5
                  refine xApN_gS (cells := ints (A k 2)) (by simp) (by simp) (by omega) (by omega) ?_
                  simp
                  intro s6
                  refine xApN_gS (cells := ints (A k 5)) (by simp) (by simp) (by omega) (by omega) ?_
                  simp
                  (repeat first | refine And.intro (by omega) ?_ | refine And.intro (Fits.of (by omega) (by omega)) ?_)
                  refine hJ.next' (k + 1, fun j => if j = 2 then s5 + 1 else if j = 5 then s6 + 1 else st j) ⟨by simp; omega, hinv⟩ (by simp; omega) (Sl.moveH 79 202 (Sl.moveH 90 205 (Sl.refl ⟨rfl, by simp, by simp [hA1]⟩)))
                · simp [hab]
                  intro s3 s4 s5
                  refine xApN_gS (cells := ints (A k 3)) (by simp) (by simp) (by omega) (by omega) ?_
                  simp
                  intro s6
                  refine xApN_gS (cells := ints (A k 4)) (by simp) (by simp) (by omega) (by omega) ?_
                  simp
                  (repeat first | refine And.intro (by omega) ?_ | refine And.intro (Fits.of (by omega) (by omega)) ?_)
                  refine hJ.next' (k + 1, fun j => if j = 3 then s5 + 1 else if j = 4 then s6 + 1 else st j) ⟨by simp; omega, hinv⟩ (by simp; omega) (Sl.moveH 79 203 (Sl.moveH 90 204 (Sl.refl ⟨rfl, by simp, by simp [hA1]⟩)))
                · simp [hab]
                  intro s3 s4 s5
                  refine xApN_gS (cells := ints (A k 3)) (by simp) (by simp) (by omega) (by omega) ?_
                  simp
                  intro s6
                  refine xApN_gS (cells := ints (A k 5)) (by simp) (by simp) (by omega) (by omega) ?_
                  simp
                  (repeat first | refine And.intro (by omega) ?_ | refine And.intro (Fits.of (by omega) (by omega)) ?_)
                  refine hJ.next' (k + 1, fun j => if j = 3 then s5 + 1 else if j = 5 then s6 + 1 else st j) ⟨by simp; omega, hinv⟩ (by simp; omega) (Sl.moveH 79 203 (Sl.moveH 90 205 (Sl.refl ⟨rfl, by simp, by simp [hA1]⟩)))
                · simp [hab]
                  intro s3 s4 s5
                  refine xApN_gS (cells := ints (A k 4)) (by simp) (by simp) (by omega) (by omega) ?_
                  simp
                  intro s6
                  refine xApN_gS (cells := ints (A k 5)) (by simp) (by simp) (by omega) (by omega) ?_
                  simp
                  (repeat first | refine And.intro (by omega) ?_ | refine And.intro (Fits.of (by omega) (by omega)) ?_)
                  refine hJ.next' (k + 1, fun j => if j = 4 then s5 + 1 else if j = 5 then s6 + 1 else st j) ⟨by simp; omega, hinv⟩ (by simp; omega) (Sl.moveH 79 204 (Sl.moveH 90 205 (Sl.refl ⟨rfl, by simp, by simp [hA1]⟩)))
            · simp [q2, q3]
              refine FCall.pan (PInvPan.func (drive_want_pan 1)) ?_
              simp
              refine hJ.pan ?_
              simp
              exact ⟨_, HLe.refl _, bad (fun v => v.2.2.1) q3⟩
          · simp [q2]
            refine FCall.pan (PInvPan.func (drive_want_pan 1)) ?_
            simp
            refine hJ.pan ?_
            simp
            exact ⟨_, HLe.refl _, bad (fun v => v.2.1) q2⟩
        · simp [q1]
          refine FCall.pan (PInvPan.func (drive_want_pan 1)) ?_
          simp
          refine hJ.pan ?_
          simp
          exact ⟨_, HLe.refl _, bad (fun v => v.1) q1⟩
      · obtain rfl : k = d.beside.length := by omega
        simp
        refine hJ.exit ?_
        simp [hAe]
        have inv : ∀ (j : Nat) (p : Int × Int), d.beside[j]? = some p → d.Seam p.1 ∧ d.Seam p.2 ∧ p.1 < p.2 ∧ ∀ k : Nat, k < j → d.beside[k]? ≠ some p :=
          fun j p hj => inv j p (List.getElem?_eq_some_iff.1 hj).1 hj
        have hlen : ∀ i : Nat, (d.adj i).length = d.deg i := fun i => Drv.adjL_len _ (fun p hp he => by
          obtain ⟨j, hj, rfl⟩ := List.getElem_of_mem hp
          have := (inv j _ (List.getElem?_eq_getElem hj)).2.2.1
          omega) i
        refine Lp.intro' (σ := Nat) (inv := fun k => k ≤ d.limits.length ∧ ∀ (j : Nat) l s, j < k → d.limits[j]? = some l → d.blows[j]? = some s → 1 ≤ l ∧ l ≤ 6 ∧ d.deg j < l ∧ 0 ≤ s.1 ∧ s.1 ≤ s.2 ∧ s.2 ≤ 12 ∧ s.2 - s.1 ≤ 2)
          (vw := fun k => [(1, .bool is), (2, .ptr 2 0 (s+1)), (5, d.H), (99, L d.limits), (100, .int .i64 d.limits.length), (101, .int .i64 k)]) (hp := fun k => [(2, .row d.cells (s+1))]) (ms := fun k => d.limits.length - k) 0 (by simp)
          (Sl.vle 5 _ (VLe.ptr (r := 27) rfl) (Sl.vle 5 d.H (VLe.pv (LLe.cons (VLe.refl _ _) (LLe.cons (VLe.refl _ _) (LLe.cons (VLe.refl _ _)
            (LLe.cons (VLe.gS rfl (by simp)) (LLe.cons (VLe.gS rfl (by simp)) (LLe.cons (VLe.gS rfl (by simp)) (LLe.cons (VLe.gS rfl (by simp)) (LLe.cons (VLe.gS rfl (by simp)) (LLe.cons (VLe.gS rfl (by simp)) (LLe.nil _)))))))))) rfl)
            (Sl.refl ⟨rfl, by simp, by simp⟩))) ?_
        rintro k ⟨hk, inv2⟩ J hJ
        by_cases hkc : k < d.limits.length
        · have hkb : k < d.blows.length := by omega
          have hk6 : k < 6 := by omega
          have bad : ∀ {q : Prop}, (1 ≤ d.limits[k] ∧ d.limits[k] ≤ 6 ∧ d.deg k < d.limits[k] ∧ 0 ≤ d.blows[k].1 ∧ d.blows[k].1 ≤ d.blows[k].2 ∧ d.blows[k].2 ≤ 12 ∧ d.blows[k].2 - d.blows[k].1 ≤ 2 → q) → ¬ q → .pan (refV 1) = d.openE is :=
            fun h q => vn (fun v => h (v.sm k _ _ (by simp [hkc]) (by simp [hkb]))) q
          have hdl := d.deg_le k
          simp [hkc, hkb, Drv.H, d.hcells_adj hk6, hlen, show (k : Int) < 6 by omega]
          refine ⟨by omega, fun s2 => ⟨Fits.of (by omega) (by omega), PCallK.intro (PInv.func (drive_within_ok _ _ _)) ?_⟩⟩
          by_cases q1 : (d.deg k : Int) + 1 ≤ d.limits[k] ∧ d.limits[k] ≤ 6
          · by_cases q3 : 0 ≤ d.blows[k].1
            · by_cases q4 : d.blows[k].1 ≤ d.blows[k].2
              · by_cases q5 : d.blows[k].2 ≤ 12
                · have q6 : Fits (d.blows[k].2 - d.blows[k].1) := Fits.of (by omega) (by omega)
                  by_cases q7 : d.blows[k].2 - d.blows[k].1 ≤ 2
                  · simp [q1, q3, q4, q5, q6, q7]
                    refine FCall.pure (PInv.func (drive_want_ok 1)) ?_
                    simp
                    (repeat first | refine And.intro (by omega) ?_ | refine And.intro (Fits.of (by omega) (by omega)) ?_)
                    refine hJ.next (k + 1) ⟨by omega, fun j l s hj hl hs => ?_⟩ (by omega) (by simp [Drv.H]) (by simp)
                    by_cases hjk : j = k
                    · subst hjk
                      obtain rfl : d.limits[j] = l := by simpa [hkc] using hl
                      obtain rfl : d.blows[j] = s := by simpa [hkb] using hs
                      exact ⟨by omega, q1.2, by omega, q3, q4, q5, q7⟩
                    · exact inv2 j l s (by omega) hl hs
                  · simp [q1, q3, q4, q5, q6, q7]
                    refine FCall.pan (PInvPan.func (drive_want_pan 1)) ?_
                    simp
                    refine hJ.pan ?_
                    simp
                    exact ⟨_, HLe.refl _, bad (fun v => v.2.2.2.2.2.2) q7⟩
                · simp [q1, q3, q4, q5]
                  refine FCall.pan (PInvPan.func (drive_want_pan 1)) ?_
                  simp
                  refine hJ.pan ?_
                  simp
                  exact ⟨_, HLe.refl _, bad (fun v => v.2.2.2.2.2.1) q5⟩
              · simp [q1, q3, q4]
                refine FCall.pan (PInvPan.func (drive_want_pan 1)) ?_
                simp
                refine hJ.pan ?_
                simp
                exact ⟨_, HLe.refl _, bad (fun v => v.2.2.2.2.1) q4⟩
            · simp [q1, q3]
              refine FCall.pan (PInvPan.func (drive_want_pan 1)) ?_
              simp
              refine hJ.pan ?_
              simp
              exact ⟨_, HLe.refl _, bad (fun v => v.2.2.2.1) q3⟩
          · simp [q1]
            refine FCall.pan (PInvPan.func (drive_want_pan 1)) ?_
            simp
            refine hJ.pan ?_
            simp
            exact ⟨_, HLe.refl _, bad (fun v => (⟨by have := v.2.2.1; omega, v.2.1⟩ : (d.deg k : Int) + 1 ≤ d.limits[k] ∧ d.limits[k] ≤ 6)) q1⟩
        · simp [hkc]
          refine hJ.exit ?_
          have hV : d.Valid := ⟨by unfold Drv.n; omega, by unfold Drv.n; omega, h2, inv, fun j l s hl hs => inv2 j l s (by have := (List.getElem?_eq_some_iff.1 hl).1; omega) hl hs⟩
          cases is
          · simp
            refine FCall.pan (PInvPan.func (drive_want_pan 2)) ?_
            simp
            exact ⟨_, HLe.refl _, by simp [Drv.openE, hV]⟩
          · simp
            refine FCall.pure (PInv.func (drive_want_ok 2)) ?_
            simp
            exact RetV.refl (by simp [Drv.openE, hV])
    · have h2' : ¬ (d.blows.length : Int) = d.limits.length := by omega
      simp [h1, h2]
      refine FCall.pan (PInvPan.func (drive_want_pan 1)) ?_
      simp
      exact ⟨_, HLe.refl _, vn (fun v => v.bl) h2⟩
  · simp [h1]
    refine FCall.pan (PInvPan.func (drive_want_pan 1)) ?_
    simp
    exact ⟨_, HLe.refl _, vn (fun v => (⟨by have := v.n1; unfold Drv.n at this; omega, by have := v.n6; unfold Drv.n at this; omega⟩ : (1 : Int) ≤ d.limits.length ∧ (d.limits.length : Int) ≤ 6)) h1⟩


theorem drive_open_ok (d : Drv) (hd : d.Small) (hv : d.Valid) : APure Pg fn_drive_open [d.v, .bool true] d.H := by
  refine APure.of_nil ((drive_open_all d hd true).mono ?_)
  rintro e h rfl
  simp [Drv.openE, hv]
theorem drive_open_arg (d : Drv) (hd : d.Small) (hv : ¬ d.Valid) (is : Bool) : APan Pg fn_drive_open [d.v, .bool is] (refV 1) := by
  refine APan.of_nil ((drive_open_all d hd is).mono ?_)
  rintro e h rfl
  simp [Drv.openE, hv]
theorem drive_open_range (d : Drv) (hd : d.Small) (hv : d.Valid) : APan Pg fn_drive_open [d.v, .bool false] (refV 2) := by
  refine APan.of_nil ((drive_open_all d hd false).mono ?_)
  rintro e h rfl
  simp [Drv.openE, hv]

end Go.Cw
end

/- What the program's Settle tells. -/
section
set_option maxRecDepth 100000
set_option linter.unusedSimpArgs false
namespace Go.Cw
open Go Go.Proofs

theorem slices_Clone_ok (r nm off s n : Nat) (cap : Cap) (cells : List AVal) (hn : 0 < n) (hn2 : n ≤ 100000) (hl : off + n ≤ cells.length) (hne : r ≠ nm) (K : AEnd → Heap → Prop)
    (hK : ∀ s', K (.ret (.sl nm 0 s' n (.gr 1))) (hpV [(nm, .row ((cells.drop off).take n) s'), (r, .row cells s)])) : ACalls Pg fn_slices_Clone_int_int [.sl r off s n cap] (hpV [(nm, .dead), (r, .row cells s)]) K := by
  obtain ⟨F, hF⟩ : ∃ F, r < F ∧ nm < F := ⟨r + nm + 1, by omega⟩
  have e1 : ∀ k, ¬ F + k = r := fun k => by omega
  have e2 : ∀ k, ¬ r = F + k := fun k => by omega
  have e3 : ∀ k, ¬ F + k = nm := fun k => by omega
  have e4 : ∀ k, ¬ nm = F + k := fun k => by omega
  refine slices_Clone_int_int.enter F (by simp) ?_
  simp [isNil]
  intro s1 s2
  simp [e1, e2, e3, e4, hne, Ne.symm hne, xAp_ne (show n ≠ 0 by omega), hn, show n ≠ 0 by omega]
  refine ⟨by omega, by omega, ?_⟩
  refine RetV.move (F + 7) nm (RetV.view [(nm, .row ((cells.drop off).take n) (s2 + 1)), (r, .row cells s)] (by simp [e1, e2, e3, e4, hne, Ne.symm hne]) ?_)
  simpa using hK (s2 + 1)

theorem drive_Settle_ok (d : Drv) (hd : d.Small) (l : List Int) (hl : l.length ≤ 1000) : APure Pg fn_drive_Settle [d.v, L l] (d.settleV l) := by
  refine drive_Settle.pure (by simp) ?_
  simp
  intro s s1
  refine PCallK.intro (PInv.func (drive_areBlows_ok d l hl)) ?_
  simp
  by_cases h1 : d.Valid
  · by_cases h2 : d.Blows l
    · simp [h2]
      refine FCall.pure (PInv.func (drive_open_ok d hd h1)) ?_
      simp
      have hn6 := h1.n6
      have hn1 := h1.n1
      have hz : Z6 (ofL l) := fun j hj => ofL_none l (by have := h2.1; omega)
      refine FCall.cps [(200, .dead)] (fun s' : Nat => .agg [d.H, .map 200 s']) (fun s' => [(200, .map [] s')]) (fun _ => True) (fun K' hK' => AInvoke.func ?_) (by simp) (fun _ => rfl) trivial (fun s' _ => ⟨trivial, ?_⟩)
      · exact drive_hull_settler_ok d 200 K' fun s' => hK' s' trivial
      simp
      refine PCallK.intro (PInv.func (drive_blowsOf_ok l (by have := h2.1; omega))) ?_
      simp
      refine FCall.cps [(200, .map (d.memo []) s')] (fun _ : {M' : List (List Int) // ∀ l ∈ M', l.length = 6} => d.restV (ofL l)) (fun M' => [(200, .map (d.memo M'.1) s')]) (fun _ => True) (fun K' hK' => AInvoke.func ?_) (by simp; rfl) (fun _ => rfl) trivial (fun M' _ => ?_)
      · refine drive_settler_rest_ok d hd h1 (ofL l) hz (B := 312) (by omega) (Drv.In.of_le h1 (m := 52) h2.le (by omega)) (fun j _ => ?_) 200 s' [] (by simp) K' fun M' hM' => hK' ⟨M', hM'⟩ trivial
        by_cases hj : j < d.n
        · have := h2.le j hj; omega
        · rw [ofL_none l (by have := h2.1; omega)]; omega
      simp [Drv.restV, Drv.restL]
      intro s2
      refine PCallK.intro (PInv.func (drive_hull_seams_ok d)) ?_
      simp
      refine ⟨by omega, ?_⟩
      obtain ⟨cs, hcs⟩ : ∃ cs, cs = ints (tab 6 (d.left (ofL l)) ++ tab 6 (d.odo (ofL l))) := ⟨_, rfl⟩
      rw [← hcs]
      have hl12 : cs.length = 12 := by rw [hcs]; simp
      have ht1 : cs.take d.n = ints (tab d.n (d.left (ofL l))) := by
        rw [hcs, ints_take, List.take_append_of_le_length (by simpa using hn6)]; simp [Nat.min_eq_left hn6]
      have ht2 : (cs.drop 6).take d.n = ints (tab d.n (d.odo (ofL l))) := by
        rw [hcs, ints_drop, two_drop, ints_take]; simp [Nat.min_eq_left hn6]
      refine FCall.cps [(300, .dead), (8, .row cs (s2 + 1))] (fun s' : Nat => .sl 300 0 s' d.n (.gr 1)) (fun s' => [(300, .row ((cs.drop 0).take d.n) s'), (8, .row cs (s2 + 1))]) (fun _ => True) (fun K' hK' => AInvoke.func ?_) (by simp) (fun _ => rfl) trivial (fun s3 _ => ⟨trivial, ?_⟩)
      · exact slices_Clone_ok 8 300 0 (s2 + 1) d.n _ cs hn1 (by omega) (by omega) (by decide) K' fun s' => hK' s' trivial
      simp
      refine PCallK.intro (PInv.func (drive_hull_seams_ok d)) ?_
      simp
      refine ⟨by omega, ?_⟩
      refine FCall.cps [(301, .dead), (8, .row cs (s2 + 1))] (fun s' : Nat => .sl 301 0 s' d.n (.gr 1)) (fun s' => [(301, .row ((cs.drop 6).take d.n) s'), (8, .row cs (s2 + 1))]) (fun _ => True) (fun K' hK' => AInvoke.func ?_) (by simp) (fun _ => rfl) trivial (fun s4 _ => ⟨trivial, ?_⟩)
      · exact slices_Clone_ok 8 301 6 (s2 + 1) d.n _ cs hn1 (by omega) (by omega) (by decide) K' fun s' => hK' s' trivial
      simp [ht1, ht2]
      refine RetD.ret rfl drive_Settle_1.recClo ((drive_said_nil _ _).mono ?_)
      rintro e h' ⟨rfl, rfl⟩
      simp
      refine RetV.frz 300 rfl (RetV.frz 301 rfl (RetV.refl ?_))
      simp [Drv.settleV, h1, h2, L]
    · simp [h2]
      refine FCall.pan (PInvPan.func (drive_open_range d hd h1)) ?_
      simp
      refine RetD.panic rfl drive_Settle_1.recClo ?_
      refine ACalls.cps [(6, .row [.int .i64 0] (s1 + 1))] (fun _ : Unit => .tup []) (fun _ => [(6, .row [.int .i64 2] (s1 + 1))]) (fun _ => True) (fun K' hK' => drive_said_ref _ _ _ _ K' (hK' () trivial)) (by simp) (fun _ => rfl) fun _ _ => ?_
      simp
      exact RetV.ale (v' := .tup [L [], L [], .int .i64 2]) (ALe.tup ⟨ALe.nils_L, ALe.nils_L, ALe.refl _, trivial⟩) (RetV.refl (by simp [Drv.settleV, h1, h2]))
  · refine FCall.pan (PInvPan.func (drive_open_arg d hd h1 _)) ?_
    simp
    refine RetD.panic rfl drive_Settle_1.recClo ?_
    refine ACalls.cps [(6, .row [.int .i64 0] (s1 + 1))] (fun _ : Unit => .tup []) (fun _ => [(6, .row [.int .i64 1] (s1 + 1))]) (fun _ => True) (fun K' hK' => drive_said_ref _ _ _ _ K' (hK' () trivial)) (by simp) (fun _ => rfl) fun _ _ => ?_
    simp
    exact RetV.ale (v' := .tup [L [], L [], .int .i64 1]) (ALe.tup ⟨ALe.nils_L, ALe.nils_L, ALe.refl _, trivial⟩) (RetV.refl (by simp [Drv.settleV, h1]))

end Go.Cw
end

/- How often seams open at least and at most, and how many blows more open one: plain reckoning. -/
section
set_option linter.unusedSimpArgs false
namespace Go.Cw
open Go

namespace Drv

theorem inside_tab : ∀ {r : List (Int × Int)} {m : List Int}, m.length = r.length → (∀ (i : Nat) (h : i < r.length), (r[i]).1 ≤ ofL m i ∧ ofL m i ≤ (r[i]).2) → Inside r m
  | [], [], _, _ => trivial
  | s :: r, x :: m, hl, h => by
    refine ⟨h 0 (by simp), inside_tab (by simpa using hl) fun i hi => ?_⟩
    have := h (i + 1) (by simpa using hi)
    simpa [ofL] using this
  | [], _ :: _, hl, _ => by simp at hl
  | _ :: _, [], hl, _ => by simp at hl

/-- Blows between the ends are a truth. -/
theorem Valid.mem {d : Drv} (hv : d.Valid) {l : List Int} : l ∈ d.truths ↔ l.length = d.n ∧ ∀ j, j < d.n → d.lo j ≤ ofL l j ∧ ofL l j ≤ d.hi j := by
  constructor
  · intro h
    obtain ⟨h1, h2⟩ := hv.truth h
    exact ⟨h1, fun j hj => (h2 j hj).1⟩
  · rintro ⟨h1, h2⟩
    rw [mem_truths]
    refine inside_tab (by rw [h1, hv.bl]) fun i hib => ?_
    have := h2 i (by rw [← hv.bl]; exact hib)
    simpa [lo, Drv.hi, hib] using this

theorem ofL_lo {d : Drv} (hv : d.Valid) : ofL (tab d.n d.lo) = d.lo := by
  funext j
  by_cases hj : j < d.n
  · rw [← ofL_at _ (by simpa using hj)]; simp
  · rw [ofL_none _ (by simp; omega)]
    simp [lo, show ¬ j < d.blows.length by rw [hv.bl]; exact hj]
theorem ofL_hi {d : Drv} (hv : d.Valid) : ofL (tab d.n d.hi) = d.hi := by
  funext j
  by_cases hj : j < d.n
  · rw [← ofL_at _ (by simpa using hj)]; simp
  · rw [ofL_none _ (by simp; omega)]
    simp [hi, show ¬ j < d.blows.length by rw [hv.bl]; exact hj]
theorem lo_mem {d : Drv} (hv : d.Valid) : tab d.n d.lo ∈ d.truths := hv.mem.2 ⟨by simp, fun j _ => by rw [ofL_lo hv]; have := hv.lohi j; omega⟩
theorem hi_mem {d : Drv} (hv : d.Valid) : tab d.n d.hi ∈ d.truths := hv.mem.2 ⟨by simp, fun j _ => by rw [ofL_hi hv]; have := hv.lohi j; omega⟩

theorem Valid.truth_in {d : Drv} (hv : d.Valid) {l : List Int} (h : l ∈ d.truths) : d.In 72 (ofL l) :=
  In.of_le hv (m := 12) (fun j hj => ((hv.truth h).2 j hj).2) (by omega)

theorem times_span {d : Drv} (hv : d.Valid) (i : Nat) : spanOf (d.timesL i) = (d.odo d.lo i, d.odo d.hi i) := by
  refine spanOf_eq ?_ ?_ fun x hx => ?_
  · exact List.mem_map.2 ⟨_, lo_mem hv, by rw [ofL_lo hv]⟩
  · exact List.mem_map.2 ⟨_, hi_mem hv, by rw [ofL_hi hv]⟩
  · obtain ⟨l, hl, rfl⟩ := List.mem_map.1 hx
    have h := (hv.truth hl).2
    exact ⟨odo_mono hv hv.lo_in (hv.truth_in hl) (fun j hj => (h j hj).1.1) i, odo_mono hv (hv.truth_in hl) hv.hi_in (fun j hj => (h j hj).1.2) i⟩

theorem plus_in {d : Drv} (hv : d.Valid) {c : Nat → Int} {m : Int} (h : ∀ j, j < d.n → 0 ≤ c j ∧ c j ≤ m) (hm : 0 ≤ m) (i : Nat) {x : Int} (hx : 0 ≤ x) : d.In (6 * (m + x)) (plus c i x) :=
  In.of_le hv (fun j hj => by
    have := h j hj
    unfold plus upd
    split
    · rename_i h2; subst h2; omega
    · omega) (by omega)
theorem plus_le {c b : Nat → Int} {n : Nat} (h : ∀ j, j < n → c j ≤ b j) (i : Nat) (x : Int) : ∀ j, j < n → plus c i x j ≤ plus b i x j := by
  intro j hj
  unfold plus upd
  have := h j hj
  split
  · rename_i h2; subst h2; omega
  · exact this

theorem push_all {d : Drv} (hv : d.Valid) (a b k : Nat) : d.PushAll a b k ↔ 0 < d.odo (plus d.lo a k) b := by
  unfold PushAll
  constructor
  · intro h
    have := h _ (lo_mem hv)
    rw [ofL_lo hv] at this
    exact this
  · intro h l hl
    have ht := (hv.truth hl).2
    have := odo_mono hv (plus_in hv (m := 12) (fun j _ => by have := hv.lohi j; omega) (by omega) a (x := k) (by omega)) (plus_in hv (m := 12) (fun j hj => (ht j hj).2) (by omega) a (x := k) (by omega))
      (plus_le (fun j hj => (ht j hj).1.1) a k) b
    omega
end Drv

theorem Drv.bits_odo {d : Drv} (hv : d.Valid) {c : Nat → Int} {m : Int} (hc : d.In m c) : bits (fun i => decide (0 < d.odo c i)) 6 = bits (fun i => decide (0 < d.odo c i)) d.n :=
  bits_more hv.n6 fun i h1 _ => by simp [Drv.odo_none hv hc h1]
end Go.Cw
end

/- What the program's Times, Opens, Push and Chain tell. -/
section
set_option maxRecDepth 100000
set_option linter.unusedSimpArgs false
namespace Go.Cw
open Go Go.Proofs

theorem drive_Times_ok (d : Drv) (hd : d.Small) (k : Int) : APure Pg fn_drive_Times [d.v, .int .i64 k] (d.timesV k) := by
  refine drive_Times.pure (by simp) ?_
  simp
  intro s s1 s2
  refine PCallK.intro (PInv.func (drive_isSeam_ok d hd k)) ?_
  simp
  by_cases h1 : d.Valid
  · by_cases h2 : d.Seam k
    · obtain ⟨i, rfl⟩ := Int.eq_ofNat_of_zero_le h2.1
      have hi : i < d.n := by have := h2.2; omega
      have hi6 : i < 6 := by have := h1.n6; omega
      simp [h2]
      refine FCall.pure' (PInv.func (drive_open_ok d hd h1)) (by simp) trivial ?_
      simp
      refine PCallK.intro (PInv.func (drive_hull_times_ok d hd h1)) ?_
      simp [B6, hi6, show (i : Int) < 6 by omega]
      intro s3 s4
      refine RetD.ret rfl drive_Times_1.recClo ((drive_said_nil _ _).mono ?_)
      rintro e h' ⟨rfl, rfl⟩
      simp
      refine RetV.refl ?_
      simp [Drv.timesV, h1, h2, SP2, Drv.times_span h1]
    · simp [h2]
      refine FCall.pan' (PInvPan.func (drive_open_range d hd h1)) (by simp) ?_
      simp
      refine RetD.panic rfl drive_Times_1.recClo ?_
      refine ACalls.cps [(5, .row [.int .i64 0] (s2 + 1))] (fun _ : Unit => .tup []) (fun _ => [(5, .row [.int .i64 2] (s2 + 1))]) (fun _ => True) (fun K' hK' => drive_said_ref _ _ _ _ K' (hK' () trivial)) (by simp) (fun _ => rfl) fun _ _ => ?_
      simp
      exact RetV.refl (by simp [Drv.timesV, h1, h2, SP2])
  · refine FCall.pan' (PInvPan.func (drive_open_arg d hd h1 _)) (by simp) ?_
    simp
    refine RetD.panic rfl drive_Times_1.recClo ?_
    refine ACalls.cps [(5, .row [.int .i64 0] (s2 + 1))] (fun _ : Unit => .tup []) (fun _ => [(5, .row [.int .i64 1] (s2 + 1))]) (fun _ => True) (fun K' hK' => drive_said_ref _ _ _ _ K' (hK' () trivial)) (by simp) (fun _ => rfl) fun _ _ => ?_
    simp
    exact RetV.refl (by simp [Drv.timesV, h1, SP2])

theorem drive_Opens_ok (d : Drv) (hd : d.Small) : APure Pg fn_drive_Opens [d.v] d.opensV := by
  refine drive_Opens.pure (by simp) ?_
  simp
  intro s s1
  by_cases h1 : d.Valid
  · refine FCall.pure (PInv.func (drive_open_ok d hd h1)) ?_
    simp
    refine PCallK.intro (PInv.func (drive_hull_times_ok d hd h1)) ?_
    simp [B6]
    intro s2 s3
    refine PCallK.intro (PInv.func (drive_rest_open_ok (fun _ => 0) (d.odo d.hi))) ?_
    simp
    refine PCallK.intro (PInv.func (drive_rest_open_ok (fun _ => 0) (d.odo d.lo))) ?_
    simp
    refine RetD.ret rfl drive_Opens_1.recClo ((drive_said_nil _ _).mono ?_)
    rintro e h' ⟨rfl, rfl⟩
    simp
    refine RetV.refl ?_
    simp [Drv.opensV, h1, Drv.bits_odo h1 h1.lo_in, Drv.bits_odo h1 h1.hi_in]
    exact ⟨bits_congr fun i _ => by simp [Drv.canP, Drv.times_span h1], bits_congr fun i _ => by simp [Drv.sureP, Drv.times_span h1]⟩
  · refine FCall.pan (PInvPan.func (drive_open_arg d hd h1 _)) ?_
    simp
    refine RetD.panic rfl drive_Opens_1.recClo ?_
    refine ACalls.cps [(4, .row [.int .i64 0] (s1 + 1))] (fun _ : Unit => .tup []) (fun _ => [(4, .row [.int .i64 1] (s1 + 1))]) (fun _ => True) (fun K' hK' => drive_said_ref _ _ _ _ K' (hK' () trivial)) (by simp) (fun _ => rfl) fun _ _ => ?_
    simp
    exact RetV.refl (by simp [Drv.opensV, h1])



end Go.Cw
end
