/-
  What the laws of layer 5 draw; the laws Names, Order, Given and True.
-/
import Derived.Test.YtfdkhgegijiceaaDb
import Derived.Test.YtfdkhgegijiceaaAe
set_option linter.unusedVariables false
set_option linter.unusedSimpArgs false
set_option linter.unusedSectionVars false

/- DriveNames: the chapter's examples. -/
section
set_option maxRecDepth 100000
set_option linter.unusedSimpArgs false
namespace Go.Cw
open Go Go.Proofs

end Go.Cw
end

/- Numbers that are drawn, and what is made of them. -/
section
set_option maxRecDepth 100000
set_option linter.unusedSimpArgs false
namespace Go.Cw
open Go Go.Proofs

/-- Drawn numbers. -/
def U16 (l : List Int) : AVal := .vl l.length (intsK .u16 l)
structure U16ok (l : List Int) : Prop where
  len : l.length ≤ 9223372036854775807
  rng : ∀ x ∈ l, 0 ≤ x ∧ x ≤ 65535
@[simp] theorem frz_U16 (r s : Nat) (cells : List AVal) (l : List Int) : frz r s cells (U16 l) = U16 l := (rfl)
@[simp] theorem acells_U16 (l : List Int) : acells (U16 l) = some [U16 l] := (rfl)
@[simp] theorem aLen_U16 (l : List Int) : aLen (U16 l) = some (.int .i64 l.length) := (rfl)
@[simp] theorem ren_U16 (r nm : Nat) (l : List Int) : ren r nm (U16 l) = U16 l := (rfl)
@[simp] theorem satIxS_U16 (l : List Int) (k : IntKind) (n : Int) (K : AVal → Prop) : satIxS 1 (U16 l) (.int k n) K = ((0 ≤ n ∧ n < l.length) ∧ K (.pv (intsK .u16 (l.drop n.toNat)))) := by
  simp [U16]

/-- The function that draws. -/
def drawV (ra s : Nat) (l : List Int) : AVal := .func (.func fn_law05_draws_1) [] [.ptr ra 0 s, .pv [U16 l]]

theorem law05_draws_ok (l : List Int) (ra : Nat) (K : AEnd → Heap → Prop) (hK : ∀ s, K (.ret (drawV ra s l)) (hpV [(ra, .row [.int .i64 0] s)])) : ACalls Pg fn_law05_draws [U16 l] (hpV [(ra, .dead)]) K := by
  obtain ⟨F, hF⟩ : ∃ F, ra < F := ⟨ra + 1, by omega⟩
  have e1 : ∀ k, ¬ F + k = ra := fun k => by omega
  have e2 : ∀ k, ¬ ra = F + k := fun k => by omega
  refine law05_draws.enter F (by simp) ?_
  simp [e1, e2]
  intro s s1
  refine RetV.frz (F + 1) (cells := [U16 l]) (s := s + 1) (by simp [e1, e2]) (RetV.move (F + 3) ra (RetV.view [(ra, .row [.int .i64 0] (s1 + 1))] (by simp [e1, e2]) ?_))
  simpa [drawV] using hK (s1 + 1)

theorem law05_draws_1_ok (l : List Int) (hl : U16ok l) (n : Int) (hn : 0 < n ∧ n ≤ 1000000) (k : Nat) (hk : k ≤ 1000000) (ra s : Nat) (K : AEnd → Heap → Prop)
    (hK : ∀ r : Nat, (r : Int) < n → K (.ret (.int .i64 r)) (hpV [(ra, .row [.int .i64 (k + 1 : Nat)] s)])) : ACalls Pg fn_law05_draws_1 [.int .i64 n, .ptr ra 0 s, .pv [U16 l]] (hpV [(ra, .row [.int .i64 k] s)]) K := by
  obtain ⟨F, hF⟩ : ∃ F, ra < F := ⟨ra + 1, by omega⟩
  have e1 : ∀ k, ¬ F + k = ra := fun k => by omega
  have e2 : ∀ k, ¬ ra = F + k := fun k => by omega
  have fin : ∀ r : Int, 0 ≤ r → r < n → RetV K (hpV [(ra, .row [.int .i64 (k + 1 : Nat)] s)]) (.int .i64 r) := fun r h0 h1 => by
    obtain ⟨r', rfl⟩ := Int.eq_ofNat_of_zero_le h0
    exact RetV.refl (hK r' h1)
  refine law05_draws_1.enter F (by simp) ?_
  simp [e1, e2]
  (repeat first | refine And.intro (by omega) ?_ | refine And.intro (Fits.of (by omega) (by omega)) ?_)
  by_cases h0 : l = []
  · subst h0
    simp [e1, e2]
    (repeat first | refine And.intro (by omega) ?_ | refine And.intro (Fits.of (by omega) (by omega)) ?_)
    have h1 := Int.tmod_nonneg (a := (k : Int) + 1) n (by omega)
    have h2 := Int.tmod_lt_of_pos ((k : Int) + 1) hn.1
    rw [upd_upd]
    simpa using fin _ h1 h2
  · have hpos : 0 < l.length := List.length_pos_iff.2 h0
    have hlen := hl.len
    have h1 := Int.tmod_nonneg (a := (k : Int) + 1) (l.length : Int) (by omega)
    have h2 := Int.tmod_lt_of_pos ((k : Int) + 1) (show (0 : Int) < l.length by omega)
    obtain ⟨i, hi⟩ := Int.eq_ofNat_of_zero_le h1
    have hil : i < l.length := by omega
    have hx := hl.rng l[i] (by simp)
    simp [h0, e1, e2, hi, hil]
    have h3 := Int.tmod_nonneg (a := l[i] + 73 * ((k : Int) + 1)) n (by omega)
    have h4 := Int.tmod_lt_of_pos (l[i] + 73 * ((k : Int) + 1)) hn.1
    refine ⟨Fits.of (by omega) (by omega), Fits.of (by omega) (by omega), Fits.of (by omega) (by omega), by omega, ?_⟩
    rw [upd_upd]
    simpa using fin _ h3 h4

theorem law05_inside_ok (n : Int) (s : Int × Int) : APure Pg fn_law05_inside [.int .i64 n, SP2 s] (.bool (decide (s.1 ≤ n ∧ n ≤ s.2))) := by
  refine law05_inside.pure (by simp) ?_
  by_cases h : s.1 ≤ n <;> simp [h, SP2]
  all_goals intro s1
  all_goals exact RetV.refl (by simp)

namespace Drv
/-- Do two seams lie beside one another? -/
def Bes (d : Drv) (a b : Int) : Prop := (a, b) ∈ d.beside ∨ (b, a) ∈ d.beside
instance (d : Drv) (a b : Int) : Decidable (d.Bes a b) := inferInstanceAs (Decidable (_ ∨ _))
end Drv

theorem law05_beside_ok (d : Drv) (hd : d.Small) (a b : Int) : APure Pg fn_law05_beside [d.v, .int .i64 a, .int .i64 b] (.bool (decide (d.Bes a b))) := by
  have hp := hd.p
  refine law05_beside.pure (by simp) ?_
  simp
  intro s
  refine Lp.intro (σ := Nat) (inv := fun i => i ≤ d.beside.length ∧ ∀ (j : Nat) p, j < i → d.beside[j]? = some p → p ≠ (a, b) ∧ p ≠ (b, a)) (vw := fun i => [(1, .int .i64 a), (2, .int .i64 b), (10, LP d.beside), (11, .int .i64 d.beside.length), (12, .int .i64 i)]) (hp := fun _ => []) (ms := fun i => d.beside.length - i) 0 (by simp) (by simp) (by simp) ?_
  rintro i ⟨hi, inv⟩ J hJ
  by_cases hc : i < d.beside.length
  · have hb : ∀ x y : Int, (d.beside[i].1 == x && d.beside[i].2 == y) = decide (d.beside[i] = (x, y)) := fun x y => by
      rw [Bool.eq_iff_iff]; simp [Prod.ext_iff]
    by_cases q1 : d.beside[i] = (a, b)
    · have r1 : (d.beside[i].1 == a && d.beside[i].2 == b) = true := by rw [hb]; simp [q1]
      simp [hc, r1]
      refine ⟨by omega, fun s1 => hJ.ret ?_⟩
      simp
      refine RetV.refl ?_
      have : d.Bes a b := .inl (by rw [← q1]; simp)
      simp [this]
    · have r1 : (d.beside[i].1 == a && d.beside[i].2 == b) = false := by rw [hb]; simp [q1]
      by_cases q2 : d.beside[i] = (b, a)
      · have r2 : (d.beside[i].1 == b && d.beside[i].2 == a) = true := by rw [hb]; simp [q2]
        simp [hc, r1, r2]
        refine ⟨by omega, fun s1 => hJ.ret ?_⟩
        simp
        refine RetV.refl ?_
        have : d.Bes a b := .inr (by rw [← q2]; simp)
        simp [this]
      · have r2 : (d.beside[i].1 == b && d.beside[i].2 == a) = false := by rw [hb]; simp [q2]
        simp [hc, r1, r2]
        refine ⟨by omega, fun s1 => ?_⟩
        (repeat first | refine And.intro (by omega) ?_ | refine And.intro (Fits.of (by omega) (by omega)) ?_)
        refine hJ.next (i + 1) ⟨by omega, fun j p hj hp => ?_⟩ (by omega) (by simp) (by simp)
        by_cases hji : j = i
        · subst hji
          obtain rfl : d.beside[j] = p := by simpa [hc] using hp
          exact ⟨q1, q2⟩
        · exact inv j p (by omega) hp
  · simp [hc]
    refine hJ.exit ?_
    simp
    refine RetV.refl ?_
    have : ¬ d.Bes a b := by
      rintro (h | h) <;> obtain ⟨j, hj, he⟩ := List.getElem_of_mem h
      · exact (inv j _ (by omega) (by simp [hj])).1 he
      · exact (inv j _ (by omega) (by simp [hj])).2 he
    simp [this]

/-- A number is drawn. -/
theorem FCall.draw {F n₀ : Nat} {inr : Bool} {keep : List Nat} {fa fl : List It} {d : Option Nat} {K : KT} {Q : Post} {tm : TM} {df : DF} {h : Heap} {l : List Int} (hl : U16ok l) {n : Int} (hn : 0 < n ∧ n ≤ 1000000) {k : Nat} (hk : k ≤ 1000000) {ra s : Nat} (hr : h ra = .row [.int .i64 k] s) (f : FaOk F fa tm h)
    (next : ∀ r : Nat, (r : Int) < n → FlOk fl (putD tm d (.int .i64 r)) (upd h ra (.row [.int .i64 (k + 1 : Nat)] s)) ∧ K (putD tm d (.int .i64 r)) df (upd h ra (.row [.int .i64 (k + 1 : Nat)] s))) :
    FCall ⟨Pg, F, n₀, inr, keep⟩ (drawV ra s l) [.int .i64 n] fa fl d K Q tm df h := by
  refine FCall.cps [(ra, .row [.int .i64 k] s)] (fun r : Nat => .int .i64 r) (fun _ => [(ra, .row [.int .i64 (k + 1 : Nat)] s)]) (fun r => (r : Int) < n) (fun K' hK' => AInvoke.func ?_) (by simpa using hr) (fun _ => rfl) f (fun r hr => by simpa using next r hr)
  exact law05_draws_1_ok l hl n hn k hk ra s K' hK'

theorem law05_truth_ok (d : Drv) (hd : d.Small) (hv : d.Valid) (l : List Int) (hl : U16ok l) (k : Nat) (hk : k ≤ 100000) (ra s : Nat) (K : AEnd → Heap → Prop)
    (hK : ∀ t, t ∈ d.truths → K (.ret (L t)) (hpV [(ra, .row [.int .i64 (k + d.n : Nat)] s)])) : ACalls Pg fn_law05_truth [d.v, drawV ra s l] (hpV [(ra, .row [.int .i64 k] s)]) K := by
  obtain ⟨F, hF⟩ : ∃ F, ra < F := ⟨ra + 1, by omega⟩
  have e1 : ∀ k, ¬ F + k = ra := fun k => by omega
  have e2 : ∀ k, ¬ ra = F + k := fun k => by omega
  refine law05_truth.enter F (by simp) ?_
  simp [e1, e2]
  intro s1
  have hbl := hv.bl
  have hn6 := hv.n6
  have hn1 := hv.n1
  refine Lp.intro' (σ := Nat × List Int × Nat) (inv := fun x => x.1 ≤ d.n ∧ x.2.1.length = x.1 ∧ ∀ j, j < x.1 → d.lo j ≤ ofL x.2.1 j ∧ ofL x.2.1 j ≤ d.hi j)
    (vw := fun x => [(1, drawV ra s l), (4, gS 1 (F + 27) x.1 x.2.2), (8, LP d.blows), (9, .int .i64 d.n), (10, .int .i64 x.1)])
    (hp := fun x => [(ra, .row [.int .i64 (k + x.1 : Nat)] s), (F + 27, gO x.1 (ints x.2.1) x.2.2)])
    (ms := fun x => d.n - x.1) (0, [], 0) (by simp) (Sl.wk 4 .es (by simpa using ALe.nils_es) (Sl.refl ⟨rfl, by simp [hbl], by simp [e1, e2]⟩)) ?_
  rintro ⟨i, xs, st⟩ ⟨hi, hxl, hx⟩ J hJ
  simp at hi hxl hx
  by_cases hc : i < d.n
  · have hcb : i < d.blows.length := by omega
    have hlh := hv.lohi i
    have elo : d.blows[i].1 = d.lo i := by simp [Drv.lo, hcb]
    have ehi : d.blows[i].2 = d.hi i := by simp [Drv.hi, hcb]
    simp [hc, hcb, e1, e2, elo, ehi]
    refine ⟨by omega, fun s2 => ?_⟩
    (repeat first | refine And.intro (by omega) ?_ | refine And.intro (Fits.of (by omega) (by omega)) ?_)
    refine FCall.draw hl (by omega) (k := k + i) (by omega) (by simp [e1, e2]) (by simp [e1, e2]) fun r hr => ?_
    simp [e1, e2]
    (repeat first | refine And.intro (by omega) ?_ | refine And.intro (Fits.of (by omega) (by omega)) ?_)
    intro s3 s4
    refine xApN_gS (cells := ints xs) (by simp [e1, e2]) (by simpa using hxl) (by omega) (by omega) ?_
    simp [e1, e2]
    (repeat first | refine And.intro (by omega) ?_ | refine And.intro (Fits.of (by omega) (by omega)) ?_)
    refine hJ.next (i + 1, xs ++ [d.lo i + r], s4 + 1) ⟨by simp; omega, by simp [hxl], fun j hj => ?_⟩ (by simp; omega) (by simp [e1, e2]) ?_
    · simp only [] at hj ⊢
      rw [ofL_snoc, hxl]
      by_cases hji : j = i
      · subst hji; simp; omega
      · simp only [if_neg hji]; exact hx j (by omega)
    · simp [e1, e2]
      omega
  · obtain rfl : i = d.n := by omega
    have hne : d.n ≠ 0 := by omega
    simp
    refine hJ.exit ?_
    simp
    refine RetV.le (VLe.gS (cells := ints xs) (by simp [e1, e2]) (by simpa using hxl)) ?_
    refine RetV.view [(ra, .row [.int .i64 (k + d.n : Nat)] s)] (by simp [e1, e2]) ?_
    have := hK xs (hv.mem.2 ⟨hxl, hx⟩)
    rw [L, hxl] at this
    exact this

/-- Two places of a list change. -/
def swapL (l : List Int) (i j : Nat) : List Int := (l.set i (l.getD j 0)).set j (l.getD i 0)
@[simp] theorem swapL_length (l : List Int) (i j : Nat) : (swapL l i j).length = l.length := by simp [swapL]
theorem swapL_perm (l : List Int) {i j : Nat} (hi : i < l.length) (hj : j < l.length) : (swapL l i j).Perm l := by
  unfold swapL
  simp only [List.getD_eq_getElem?_getD, List.getElem?_eq_getElem hi, List.getElem?_eq_getElem hj, Option.getD_some]
  exact List.set_set_perm hi hj

theorem upto_succ (n : Nat) : upto (n + 1) = upto n ++ [(n : Int)] := by simp [upto, List.range_succ]

theorem law05_made_ok (d : Drv) (hd : d.Small) (hv : d.Valid) (l : List Int) (hl : U16ok l) (k : Nat) (hk : k ≤ 100000) (m : Int) (hm : 0 ≤ m ∧ m ≤ 1000) (ra s : Nat) (K : AEnd → Heap → Prop)
    (hK : ∀ b o : List Int, b.length = d.n → (∀ x ∈ b, 0 ≤ x ∧ x ≤ m) → o.Perm (upto d.n) → K (.ret (.tup [L b, L o])) (hpV [(ra, .row [.int .i64 (k + 2 * d.n : Nat)] s)])) : ACalls Pg fn_law05_made [d.v, drawV ra s l, .int .i64 m] (hpV [(ra, .row [.int .i64 k] s)]) K := by
  obtain ⟨F, hF⟩ : ∃ F, ra < F := ⟨ra + 1, by omega⟩
  have e1 : ∀ k, ¬ F + k = ra := fun k => by omega
  have e2 : ∀ k, ¬ ra = F + k := fun k => by omega
  have hn6 := hv.n6
  have hn1 := hv.n1
  have hln : d.limits.length = d.n := rfl
  refine law05_made.enter F (by simp) ?_
  simp [e1, e2]
  intro s1
  refine Lp.intro' (σ := Nat × List Int × Nat × Nat) (inv := fun x => x.1 ≤ d.n ∧ x.2.1.length = x.1 ∧ ∀ y ∈ x.2.1, 0 ≤ y ∧ y ≤ m)
    (vw := fun x => [(1, drawV ra s l), (2, .int .i64 m), (6, gS 1 (F + 23) x.1 x.2.2.1), (7, gS 1 (F + 27) x.1 x.2.2.2), (13, .int .i64 d.n), (14, .int .i64 x.1)])
    (hp := fun x => [(ra, .row [.int .i64 (k + x.1 : Nat)] s), (F + 23, gO x.1 (ints x.2.1) x.2.2.1), (F + 27, gO x.1 (ints (upto x.1)) x.2.2.2)])
    (ms := fun x => d.n - x.1) (0, [], 0, 0) (by simp) (Sl.wk 6 .es (by simpa using ALe.nils_es) (Sl.wk 7 .es (by simpa using ALe.nils_es) (Sl.refl ⟨rfl, by simp [hln], by simp [e1, e2]⟩))) ?_
  · rintro ⟨i, xs, st, st'⟩ ⟨hi, hxl, hx⟩ J hJ
    simp at hi hxl hx
    by_cases hc : i < d.n
    · simp [hc, e1, e2]
      (repeat first | refine And.intro (by omega) ?_ | refine And.intro (Fits.of (by omega) (by omega)) ?_)
      refine FCall.draw hl (by omega) (k := k + i) (by omega) (by simp [e1, e2]) (by simp [e1, e2]) fun r hr => ⟨trivial, ?_⟩
      simp [e1, e2]
      intro s3 s4
      refine xApN_gS (cells := ints xs) (by simp [e1, e2]) (by simpa using hxl) (by omega) (by omega) ?_
      simp [e1, e2]
      intro s5 s6
      refine xApN_gS (cells := ints (upto i)) (by simp [e1, e2]) (by simp) (by omega) (by omega) ?_
      simp [e1, e2]
      (repeat first | refine And.intro (by omega) ?_ | refine And.intro (Fits.of (by omega) (by omega)) ?_)
      refine hJ.next (i + 1, xs ++ [(r : Int)], s4 + 1, s6 + 1) ⟨by simp; omega, by simp [hxl], fun y hy => ?_⟩ (by simp; omega) (by simp [e1, e2]) ?_
      · simp only [List.mem_append, List.mem_singleton] at hy
        rcases hy with hy | rfl
        · exact hx y hy
        · omega
      · simp [e1, e2, upto_succ]
        omega
    · obtain rfl : i = d.n := by omega
      simp
      refine hJ.exit ?_
      simp [gS_pos hn1]
      refine Lp.intro (σ := Nat × List Int) (inv := fun x => x.1 ≤ d.n ∧ x.2.Perm (upto d.n))
        (vw := fun x => [(1, drawV ra s l), (6, .sl (F + 23) 0 st d.n (.gr 1)), (7, .sl (F + 27) 0 st' d.n (.gr 1)), (30, .int .i64 d.n), (31, .int .i64 x.1)])
        (hp := fun x => [(ra, .row [.int .i64 (k + d.n + x.1 : Nat)] s), (F + 23, .row (ints xs) st), (F + 27, .row (ints x.2) st')])
        (ms := fun x => d.n - x.1) (0, upto d.n) (by simp) (by simp) (by simp [e1, e2, gO_pos hn1]) ?_
      rintro ⟨i, o⟩ ⟨hi, ho⟩ J2 hJ2
      simp at hi ho
      have hol : o.length = d.n := by rw [ho.length_eq]; simp
      by_cases hc : i < d.n
      · simp [hc, e1, e2]
        (repeat first | refine And.intro (by omega) ?_ | refine And.intro (Fits.of (by omega) (by omega)) ?_)
        refine FCall.draw hl (by omega) (k := k + d.n + i) (by omega) (by simp [e1, e2]) (by simp [e1, e2]) fun r hr => ⟨trivial, ?_⟩
        obtain ⟨j, hj⟩ : ∃ j, j = i + r := ⟨_, rfl⟩
        have hij : (i : Int) + (r : Int) = (j : Int) := by omega
        have hjn : j < d.n := by omega
        have hjo : j < o.length := by omega
        have hio : i < o.length := by omega
        simp [e1, e2, hij, hjn, hjo, hio, hol]
        (repeat first | refine And.intro (by omega) ?_ | refine And.intro (Fits.of (by omega) (by omega)) ?_)
        simp [hc, hjn, hjo, hio, e1, e2]
        (repeat first | refine And.intro (by omega) ?_ | refine And.intro (Fits.of (by omega) (by omega)) ?_)
        refine hJ2.next (i + 1, swapL o i j) ⟨by simp; omega, (swapL_perm o hio hjo).trans ho⟩ (by simp; omega) (by simp) ?_
        simp [e1, e2, swapL, hio, hjo]
        omega
      · obtain rfl : i = d.n := by omega
        simp
        refine hJ2.exit ?_
        simp
        refine RetV.frz (F + 23) (cells := ints xs) (s := st) (by simp [e1, e2]) (RetV.frz (F + 27) (cells := ints o) (s := st') (by simp [e1, e2]) ?_)
        simp
        refine RetV.view [(ra, .row [.int .i64 (k + 2 * d.n : Nat)] s)] (by simp [e1, e2]; omega) ?_
        have := hK xs o hxl hx ho
        rw [L, L, hxl, hol] at this
        exact this
end Go.Cw
end

/- Calls that draw; which seams lie beside one another, and the order in which they open. -/
section
set_option maxRecDepth 100000
set_option linter.unusedSimpArgs false
namespace Go.Cw
open Go Go.Proofs

section
variable {F n₀ : Nat} {inr : Bool} {keep : List Nat} {fa fl : List It} {t : Option Nat} {K : KT} {Q : Post} {tm : TM} {df : DF} {h : Heap} {l : List Int}

theorem FCall.draws (ra : Nat) (hr : h ra = .dead) (f : FaOk F fa tm h)
    (next : ∀ s : Nat, FlOk fl (putD tm t (drawV ra s l)) (upd h ra (.row [.int .i64 0] s)) ∧ K (putD tm t (drawV ra s l)) df (upd h ra (.row [.int .i64 0] s))) :
    FCall ⟨Pg, F, n₀, inr, keep⟩ (.func (.func fn_law05_draws) [] []) [U16 l] fa fl t K Q tm df h := by
  refine FCall.cps [(ra, .dead)] (fun s : Nat => drawV ra s l) (fun s => [(ra, .row [.int .i64 0] s)]) (fun _ => True) (fun K' hK' => AInvoke.func ?_) (by simpa using hr) (fun _ => rfl) f (fun s _ => by simpa using next s)
  exact law05_draws_ok l ra K' fun s => hK' s trivial

theorem FCall.made {d : Drv} (hd : d.Small) (hv : d.Valid) (hl : U16ok l) {k : Nat} (hk : k ≤ 100000) {m : Int} (hm : 0 ≤ m ∧ m ≤ 1000) {ra s : Nat} (hr : h ra = .row [.int .i64 k] s) (f : FaOk F fa tm h)
    (next : ∀ b o : List Int, b.length = d.n → (∀ x ∈ b, 0 ≤ x ∧ x ≤ m) → o.Perm (upto d.n) → FlOk fl (putD tm t (.tup [L b, L o])) (upd h ra (.row [.int .i64 (k + 2 * d.n : Nat)] s)) ∧ K (putD tm t (.tup [L b, L o])) df (upd h ra (.row [.int .i64 (k + 2 * d.n : Nat)] s))) :
    FCall ⟨Pg, F, n₀, inr, keep⟩ (.func (.func fn_law05_made) [] []) [d.v, drawV ra s l, .int .i64 m] fa fl t K Q tm df h := by
  refine FCall.cps [(ra, .row [.int .i64 k] s)] (fun x : List Int × List Int => .tup [L x.1, L x.2]) (fun _ => [(ra, .row [.int .i64 (k + 2 * d.n : Nat)] s)]) (fun x => x.1.length = d.n ∧ (∀ y ∈ x.1, 0 ≤ y ∧ y ≤ m) ∧ x.2.Perm (upto d.n)) (fun K' hK' => AInvoke.func ?_) (by simpa using hr) (fun _ => rfl) f (fun x hx => by simpa using next x.1 x.2 hx.1 hx.2.1 hx.2.2)
  exact law05_made_ok d hd hv l hl k hk m hm ra s K' fun b o h1 h2 h3 => hK' (b, o) ⟨h1, h2, h3⟩

theorem FCall.truth {d : Drv} (hd : d.Small) (hv : d.Valid) (hl : U16ok l) {k : Nat} (hk : k ≤ 100000) {ra s : Nat} (hr : h ra = .row [.int .i64 k] s) (f : FaOk F fa tm h)
    (next : ∀ b : List Int, b ∈ d.truths → FlOk fl (putD tm t (L b)) (upd h ra (.row [.int .i64 (k + d.n : Nat)] s)) ∧ K (putD tm t (L b)) df (upd h ra (.row [.int .i64 (k + d.n : Nat)] s))) :
    FCall ⟨Pg, F, n₀, inr, keep⟩ (.func (.func fn_law05_truth) [] []) [d.v, drawV ra s l] fa fl t K Q tm df h := by
  refine FCall.cps [(ra, .row [.int .i64 k] s)] (fun x : List Int => L x) (fun _ => [(ra, .row [.int .i64 (k + d.n : Nat)] s)]) (fun x => x ∈ d.truths) (fun K' hK' => AInvoke.func ?_) (by simpa using hr) (fun _ => rfl) f (fun x hx => by simpa using next x hx)
  exact law05_truth_ok d hd hv l hl k hk ra s K' hK'

/-- Is there far too much of something? (With no list.) -/
theorem FCall.long0 {d : Drv} (f : FaOk F fa tm h) (fl' : FlOk fl (putD tm t (.bool (longB d []))) h) (k : K (putD tm t (.bool (longB d []))) df h) : FCall ⟨Pg, F, n₀, inr, keep⟩ (.func (.func fn_law05_long) [] []) [d.v, .nils] fa fl t K Q tm df h :=
  FCall.pure' (v := .bool (longB d [])) (fun h => AInvoke.ale (args' := [d.v, .vl 0 []]) (ALe.refl _) ⟨ALe.refl _, ALe.nils_vl, trivial⟩ (PInv.func (first := []) (cap := []) (law05_long_ok d [] (by simp)) h)) f fl' k
end

namespace Drv
theorem Valid.nodup {d : Drv} (hv : d.Valid) : d.beside.Nodup := by
  rw [List.Nodup, List.pairwise_iff_getElem]
  intro i j hi hj hij he
  exact (hv.pr j d.beside[j] (by simp [hj])).2.2.2 i hij (by simp [hi, he])

theorem Valid.bes {d : Drv} (hv : d.Valid) (a b : Nat) : d.cnt a b = if d.Bes a b then 1 else 0 := by
  have h1 := fun p => List.Nodup.count (a := p) hv.nodup
  have hlt : ∀ x y : Int, (x, y) ∈ d.beside → x < y := fun x y h => by
    obtain ⟨i, hi, he⟩ := List.getElem_of_mem h
    have := (hv.pr i d.beside[i] (by simp [hi])).2.2.1
    rw [he] at this; exact this
  have hc : d.cnt a b = if a = b then 0 else d.beside.count ((a : Int), (b : Int)) + d.beside.count ((b : Int), (a : Int)) := by
    split
    · rename_i hab; subst hab; exact cnt_self hv a
    · rename_i hab
      unfold cnt cntL List.count
      have : ∀ l : List (Int × Int), l.countP (fun p => decide (p = ((a : Int), (b : Int))) || decide (p = ((b : Int), (a : Int)))) = l.countP (· == ((a : Int), (b : Int))) + l.countP (· == ((b : Int), (a : Int))) := by
        intro l
        induction l with
        | nil => rfl
        | cons p l ih =>
          simp only [List.countP_cons, ih]
          by_cases q1 : p = ((a : Int), (b : Int))
          · subst q1
            have q3 : ¬ (b = a ∧ a = b) := fun h => hab h.2
            have q4 : ¬ (a = b ∧ b = a) := fun h => hab h.1
            simp
            rw [if_neg q4]
            omega
          · by_cases q2 : p = ((b : Int), (a : Int))
            · subst q2
              have q3 : ¬ (b = a ∧ a = b) := fun h => hab h.2
              simp
              rw [if_neg q3]
              omega
            · simp [q1, q2]
      exact this _
  rw [hc, h1, h1]
  unfold Bes
  by_cases hab : a = b
  · subst hab
    have : ¬ ((a : Int), (a : Int)) ∈ d.beside := fun h => by have := hlt _ _ h; omega
    simp [this]
  · rw [if_neg hab]
    by_cases q1 : ((a : Int), (b : Int)) ∈ d.beside
    · have q2 : ¬ ((b : Int), (a : Int)) ∈ d.beside := fun h => by have := hlt _ _ h; have := hlt _ _ q1; omega
      simp [q1, q2]
    · by_cases q2 : ((b : Int), (a : Int)) ∈ d.beside <;> simp [q1, q2]

theorem cnt_symm (d : Drv) (a b : Nat) : d.cnt a b = d.cnt b a := by
  unfold cnt cntL
  congr 1
  funext p
  rw [Bool.or_comm]

theorem firstCan_at {d : Drv} {order : List Nat} {c : Nat → Int} {i : Nat} (h : d.firstCan order c = some i) : ∃ k, ∃ hk : k < order.length, order[k] = i ∧ ∀ j (hj : j < k), ¬ d.lim order[j] ≤ c order[j] := by
  unfold firstCan at h
  obtain ⟨h1, xs, bs, h2, h3⟩ := List.find?_eq_some_iff_append.1 h
  refine ⟨xs.length, by rw [h2]; simp, by simp [h2], fun j hj => ?_⟩
  have : order[j]'(by rw [h2]; simp; omega) = xs[j] := by simp [h2, hj]
  rw [this]
  simpa using h3 xs[j] (by simp)

theorem Runs.next {d : Drv} {order : List Nat} {c c' : Nat → Int} {i : Nat} {all : List Nat} (r : d.Runs order c (i :: all) c') : d.firstCan order c = some i ∧ d.Runs order (d.fire i c) all c' := by
  cases r with
  | step h r => exact ⟨h, r⟩
theorem Runs.done {d : Drv} {order : List Nat} {c c' : Nat → Int} (r : d.Runs order c [] c') : c' = c := by
  cases r with
  | stop h => rfl
end Drv
end Go.Cw
end

/- DriveOrder. -/
section
set_option maxRecDepth 100000
set_option linter.unusedSimpArgs false
namespace Go.Cw
open Go Go.Proofs

end Go.Cw
end

/- Blows that are given one after the other; plain reckoning. -/
section
set_option maxRecDepth 100000
set_option linter.unusedSimpArgs false
namespace Go.Cw
open Go Go.Proofs

/-- Nothing from n on. -/
def Zn (n : Nat) (c : Nat → Int) : Prop := ∀ j, n ≤ j → c j = 0
theorem Zn.eq {n : Nat} {c : Nat → Int} (h : Zn n c) : ofL (tab n c) = c := by
  funext j
  by_cases hj : j < n
  · rw [← ofL_at _ (by simpa using hj)]; simp
  · rw [ofL_none _ (by simp; omega), h j (by omega)]
theorem Zn.ofL {n : Nat} {l : List Int} (h : l.length = n) : Zn n (ofL l) := fun j hj => ofL_none l (by omega)

namespace Drv
variable {d : Drv}

theorem Seq.add {c c' : Nat → Int} {l : List Nat} (s : Seq d c l c') {e : Nat → Int} (he : ∀ j, 0 ≤ e j) : Seq d (fun j => c j + e j) l (fun j => c' j + e j) := by
  induction s with
  | nil => exact .nil
  | @cons c c' i l hi hc r ih =>
    refine .cons hi (by have := he i; omega) ?_
    have : d.fire i (fun j => c j + e j) = fun j => d.fire i c j + e j := by funext j; simp only [fire]; omega
    rw [this]; exact ih

theorem left_zn (hv : d.Valid) {c : Nat → Int} {m : Int} (hc : d.In m c) (hz : Zn d.n c) : Zn d.n (d.left c) := by
  obtain ⟨l, s, _, _⟩ := hc.rest hv
  intro j hj
  rw [s.out hv hj, hz j hj]

theorem rest_add (hv : d.Valid) {A B : Nat → Int} {m : Int} (hA : d.In m A) (hB : ∀ j, 0 ≤ B j) {m' : Int} (hAB : d.In m' fun j => A j + B j) (hL : d.In m' fun j => d.left A j + B j) :
    d.left (fun j => A j + B j) = d.left (fun j => d.left A j + B j) ∧ ∀ i, d.odo (fun j => A j + B j) i = d.odo A i + d.odo (fun j => d.left A j + B j) i := by
  obtain ⟨l1, s1, _, h1⟩ := hA.rest hv
  obtain ⟨l2, s2, st2, h2⟩ := hL.rest hv
  obtain ⟨h3, h4⟩ := ((s1.add hB).append s2).rest hv hAB st2
  exact ⟨h4.symm, fun i => by rw [← h3, times_append, h1, h2]⟩

theorem odo_le (hv : d.Valid) {c : Nat → Int} {m : Int} (hc : d.In m c) (i : Nat) : d.odo c i ≤ m := by
  obtain ⟨l, s, _, h⟩ := hc.rest hv
  have h1 := s.len hv
  have h2 := times_le_len l i
  have h3 := sum_nonneg (left_in hv hc).pos
  have h4 := hc.sum
  rw [h]; omega

theorem rest_still (hv : d.Valid) {c : Nat → Int} {m : Int} (hc : d.In m c) (hs : d.Stable c) : d.left c = c ∧ ∀ i, d.odo c i = 0 := by
  obtain ⟨h1, h2⟩ := (Seq.nil (d := d) (c := c)).rest hv hc hs
  exact ⟨h2.symm, fun i => by rw [← h1]; rfl⟩
end Drv

/-- Settle, of blows that are told by a function. -/
theorem settle_tab {d : Drv} (hv : d.Valid) {c : Nat → Int} (hz : Zn d.n c) (hc : ∀ j, j < d.n → 0 ≤ c j ∧ c j ≤ 52) : d.settleV (tab d.n c) = .tup [L (tab d.n (d.left c)), L (tab d.n (d.odo c)), .int .i64 0] := by
  have hB : d.Blows (tab d.n c) := ⟨by simp, fun x hx => by
    obtain ⟨i, hi, rfl⟩ := List.getElem_of_mem hx
    simp at hi ⊢
    exact hc i hi⟩
  unfold Drv.settleV
  rw [if_pos hv, if_pos hB, hz.eq]

section
variable {F n₀ : Nat} {inr : Bool} {keep : List Nat} {fa fl : List It} {t : Option Nat} {K : KT} {Q : Post} {tm : TM} {df : DF} {h : Heap}

theorem FCall.settle {d : Drv} (hd : d.Small) (hv : d.Valid) {c : Nat → Int} (hz : Zn d.n c) (hc : ∀ j, j < d.n → 0 ≤ c j ∧ c j ≤ 52)
    (k : K (putD tm t (.tup [L (tab d.n (d.left c)), L (tab d.n (d.odo c)), .int .i64 0])) df h) : FCall ⟨Pg, F, n₀, inr, keep⟩ (.func (.func fn_drive_Settle) [] []) [d.v, L (tab d.n c)] [] [] t K Q tm df h := by
  have := PInv.func (first := []) (cap := []) (args := [d.v, L (tab d.n c)]) (drive_Settle_ok d hd (tab d.n c) (by have := hv.n6; simp; omega))
  rw [settle_tab hv hz hc] at this
  exact FCall.pure this k

theorem FCall.settleR {d : Drv} (hd : d.Small) (hv : d.Valid) {c : Nat → Int} (hz : Zn d.n c) (hc : ∀ j, j < d.n → 0 ≤ c j ∧ c j ≤ 52) {r s : Nat} {cap : Cap} (hr : h r = .row (ints (tab d.n c)) s)
    (k : K (putD tm t (.tup [L (tab d.n (d.left c)), L (tab d.n (d.odo c)), .int .i64 0])) df (upd h r .dead)) : FCall ⟨Pg, F, n₀, inr, keep⟩ (.func (.func fn_drive_Settle) [] []) [d.v, .sl r 0 s d.n cap] [] [] t K Q tm df h := by
  have := PInv.func (first := []) (cap := []) (args := [d.v, L (tab d.n c)]) (drive_Settle_ok d hd (tab d.n c) (by have := hv.n6; simp; omega))
  rw [settle_tab hv hz hc] at this
  refine FCall.frz1 r hr ?_ trivial ⟨trivial, k⟩
  simpa [L] using this

theorem FCall.intsB {n : Nat} {a b : Nat → Int} (hn : n ≤ 100000) (k : K (putD tm t (.bool (decide (tab n a = tab n b)))) df h) : FCall ⟨Pg, F, n₀, inr, keep⟩ (.func (.func fn_law05_ints) [] []) [L (tab n a), L (tab n b)] [] [] t K Q tm df h :=
  FCall.pure (PInv.func (law05_ints_ok _ _ (by simpa using hn) (by simpa using hn))) k
end

end Go.Cw
end

/- Sets as numbers: whether a seam is in one. -/
section
set_option maxRecDepth 100000
set_option linter.unusedSimpArgs false
namespace Go.Cw
open Go Go.Proofs

end Go.Cw
end

/- DriveTrue. -/
section
set_option maxRecDepth 100000
set_option linter.unusedSimpArgs false
namespace Go.Cw
open Go Go.Proofs

theorem Drv.left_span {d : Drv} (hv : d.Valid) {l : List Int} (h : l ∈ d.truths) (i : Nat) : (spanOf (d.leftL i)).1 ≤ d.left (ofL l) i ∧ d.left (ofL l) i ≤ (spanOf (d.leftL i)).2 := by
  have hne : d.leftL i ≠ [] := by unfold Drv.leftL; simpa using hv.truths_ne
  exact (spanOf_mem hne).2.2 _ (List.mem_map.2 ⟨l, h, rfl⟩)

theorem Drv.left_span_in {d : Drv} (hv : d.Valid) {i : Nat} (hi : i < d.n) : 0 ≤ (spanOf (d.leftL i)).1 ∧ (spanOf (d.leftL i)).1 ≤ (spanOf (d.leftL i)).2 ∧ (spanOf (d.leftL i)).2 < d.lim i := by
  have hne : d.leftL i ≠ [] := by unfold Drv.leftL; simpa using hv.truths_ne
  obtain ⟨h1, h2, h3⟩ := spanOf_mem hne
  obtain ⟨l1, k1, e1⟩ := List.mem_map.1 h1
  obtain ⟨l2, k2, e2⟩ := List.mem_map.1 h2
  have i1 := Drv.left_in hv (hv.truth_in k1)
  have i2 := Drv.left_stable hv (hv.truth_in k2)
  have := i1.pos i hi
  have := i2 i hi
  have := h3 _ h2
  exact ⟨by omega, this.1, by omega⟩

theorem Drv.times_in {d : Drv} (hv : d.Valid) {l : List Int} (h : l ∈ d.truths) (i : Nat) : d.odo d.lo i ≤ d.odo (ofL l) i ∧ d.odo (ofL l) i ≤ d.odo d.hi i := by
  have ht := (hv.truth h).2
  exact ⟨Drv.odo_mono hv hv.lo_in (hv.truth_in h) (fun j hj => (ht j hj).1.1) i, Drv.odo_mono hv (hv.truth_in h) hv.hi_in (fun j hj => (ht j hj).1.2) i⟩

theorem Drv.lo_zn {d : Drv} (hv : d.Valid) : Zn d.n d.lo := fun j hj => by
  have : d.blows.length ≤ j := by rw [hv.bl]; exact hj
  simp [Drv.lo, this]

theorem plus_zn {n : Nat} {c : Nat → Int} (h : Zn n c) {i : Nat} (hi : i < n) (x : Int) : Zn n (plus c i x) := fun j hj => by
  unfold plus
  rw [upd_ne _ _ (by omega), h j hj]

theorem Drv.timesV_at {d : Drv} (hv : d.Valid) {i : Nat} (hi : i < d.n) : d.timesV (i : Nat) = .tup [SP2 (d.odo d.lo i, d.odo d.hi i), .int .i64 0] := by
  unfold Drv.timesV; rw [if_pos hv, if_pos ⟨by omega, by omega⟩]; simp [Drv.times_span hv]
theorem Drv.leftV_at {d : Drv} (hv : d.Valid) {i : Nat} (hi : i < d.n) : d.leftV (i : Nat) = .tup [SP2 (spanOf (d.leftL i)), .int .i64 0] := by
  unfold Drv.leftV; rw [if_pos hv, if_pos ⟨by omega, by omega⟩]; simp

/-- What Push tells of seams. -/
theorem Drv.pushV_at {d : Drv} (hv : d.Valid) {a b : Nat} (ha : a < d.n) (hb : b < d.n) : d.pushV a b = .tup [.int .i64 0, .int .i64 4] ∨
    ∃ k : Nat, k ≤ 40 ∧ d.pushV a b = .tup [.int .i64 k, .int .i64 0] ∧ d.PushAll a b k ∧ ∀ j, j < k → ¬ d.PushAll a b j := by
  unfold Drv.pushV
  rw [if_pos hv, if_pos ⟨⟨by omega, by omega⟩, ⟨by omega, by omega⟩⟩]
  simp only [Int.toNat_natCast]
  cases h : (List.range 41).find? fun k => decide (d.PushAll a b k) with
  | none => exact .inl rfl
  | some k =>
    rw [List.find?_range_eq_some] at h
    obtain ⟨h1, h2, h3⟩ := h
    refine .inr ⟨k, by simp at h2; omega, rfl, by simpa using h1, fun j hj => by simpa using h3 j hj⟩

end Go.Cw
end
