/-
  What the laws of layer 5 draw; the laws Names, Order, Given and True.
-/
import Derived.Test.YtfdkhgegijiceaaDb
import Derived.Test.YtfdkhgegijiceaaAe
set_option linter.unusedVariables false
set_option linter.unusedSimpArgs false
set_option linter.unusedSectionVars false

/- DriveNames: the chapter's examples. -/
section
set_option maxRecDepth 100000
set_option linter.unusedSimpArgs false
namespace Go.Cw
open Go Go.Proofs

theorem law05_DriveNames_ok : APure Pg fn_law05_DriveNames [] (.bool true) := by
  refine law05_DriveNames.pure (by simp) ?_
  simp
  refine PCallK.intro (PInv.func law05_sample_ok) ?_
  simp
  intro s
  refine FCall.frz1 25 rfl (v := smp.settleV [4, 2, 1]) (by simpa [L] using PInv.func (first := []) (cap := []) (drive_Settle_ok smp smp_small [4, 2, 1] (by simp))) trivial ⟨trivial, ?_⟩
  rw [smp_settle₂]
  simp
  refine PCallK.intro (PInv.func law05_sample_ok) ?_
  simp
  intro s1
  refine FCall.frz1 32 rfl (v := smp.settleV [3, 3, 3]) (by simpa [L] using PInv.func (first := []) (cap := []) (drive_Settle_ok smp smp_small [3, 3, 3] (by simp))) trivial ⟨trivial, ?_⟩
  rw [smp_settle₃]
  simp
  refine PCallK.intro (PInv.func law05_sample_ok) ?_
  simp
  intro s2 s3
  refine FCall.frz2 39 40 rfl rfl (by simp) (v := smp.runV [3, 3, 3] [0, 1, 2]) (by simpa [L] using PInv.func (first := []) (cap := []) (drive_Run_ok smp smp_small [3, 3, 3] [0, 1, 2] (by simp) (by simp))) trivial ⟨trivial, ?_⟩
  rw [smp_run₂]
  simp
  intro s4
  refine FCall.frz1 45 rfl (v := .bool true) (by simpa [L] using PInv.func (first := []) (cap := []) (law05_ints_ok [2, 0, 2] [2, 0, 2] (by simp) (by simp))) trivial ⟨trivial, ?_⟩
  simp
  intro s5
  refine FCall.frz1 50 rfl (v := .bool true) (by simpa [L] using PInv.func (first := []) (cap := []) (law05_ints_ok [1, 1, 0] [1, 1, 0] (by simp) (by simp))) trivial ⟨trivial, ?_⟩
  simp
  intro s6
  refine FCall.frz1 60 rfl (v := .bool true) (by simpa [L] using PInv.func (first := []) (cap := []) (law05_ints_ok [1, 2, 1] [1, 2, 1] (by simp) (by simp))) trivial ⟨trivial, ?_⟩
  simp
  intro s7
  refine FCall.frz1 66 rfl (v := .bool true) (by simpa [L] using PInv.func (first := []) (cap := []) (law05_ints_ok [1, 1, 1] [1, 1, 1] (by simp) (by simp))) trivial ⟨trivial, ?_⟩
  simp
  intro s8
  refine FCall.frz1 76 rfl (v := .bool true) (by simpa [L] using PInv.func (first := []) (cap := []) (law05_ints_ok [0, 1, 2] [0, 1, 2] (by simp) (by simp))) trivial ⟨trivial, ?_⟩
  simp
  iterate 6
    refine PCallK.intro (PInv.func (law05_span_ok _ _)) ?_
    simp [SP2]
  intro s9
  refine Lp.intro (σ := Nat) (inv := fun k => k ≤ 3) (vw := fun k => [(93, .sl 93 0 (s9+1) 3 (.ex 3)), (94, .int .i64 3), (95, .int .i64 k)])
    (hp := fun _ => [(93, .row (ints [1, 1, 2, 2, 1, 1, 0, 1, 0, 1, 0, 2]) (s9+1))]) (ms := fun k => 3 - k) 0 (by simp) (by simp) (by simp) ?_
  intro k hk J hJ
  by_cases hkc : k < 3
  · have hcs : k = 0 ∨ k = 1 ∨ k = 2 := by omega
    rcases hcs with rfl | rfl | rfl
    · simp
      intro s10
      refine PCallK.intro (PInv.func law05_sample_ok) ?_
      simp
      refine PCallK.intro (v := smp.timesV (0 : Nat)) (PInv.func (drive_Times_ok smp smp_small 0)) ?_
      rw [smp_times 0 (by omega) (1, 1) (by decide)]
      simp [SP2]
      intro s11
      refine PCallK.intro (PInv.func law05_sample_ok) ?_
      simp
      refine PCallK.intro (v := smp.leftV (0 : Nat)) (PInv.func (drive_Left_ok smp smp_small 0)) ?_
      rw [smp_left 0 (by omega) (2, 2) (by decide)]
      simp [SP2]
      intro s12
      (repeat first | refine And.intro (by omega) ?_ | refine And.intro (Fits.of (by omega) (by omega)) ?_)
      exact hJ.next 1 (by omega) (by omega) (by simp) (by simp)
    · simp
      intro s10
      refine PCallK.intro (PInv.func law05_sample_ok) ?_
      simp
      refine PCallK.intro (v := smp.timesV (1 : Nat)) (PInv.func (drive_Times_ok smp smp_small 1)) ?_
      rw [smp_times 1 (by omega) (1, 1) (by decide)]
      simp [SP2]
      intro s11
      refine PCallK.intro (PInv.func law05_sample_ok) ?_
      simp
      refine PCallK.intro (v := smp.leftV (1 : Nat)) (PInv.func (drive_Left_ok smp smp_small 1)) ?_
      rw [smp_left 1 (by omega) (0, 1) (by decide)]
      simp [SP2]
      intro s12
      (repeat first | refine And.intro (by omega) ?_ | refine And.intro (Fits.of (by omega) (by omega)) ?_)
      exact hJ.next 2 (by omega) (by omega) (by simp) (by simp)
    · simp
      intro s10
      refine PCallK.intro (PInv.func law05_sample_ok) ?_
      simp
      refine PCallK.intro (v := smp.timesV (2 : Nat)) (PInv.func (drive_Times_ok smp smp_small 2)) ?_
      rw [smp_times 2 (by omega) (0, 1) (by decide)]
      simp [SP2]
      intro s11
      refine PCallK.intro (PInv.func law05_sample_ok) ?_
      simp
      refine PCallK.intro (v := smp.leftV (2 : Nat)) (PInv.func (drive_Left_ok smp smp_small 2)) ?_
      rw [smp_left 2 (by omega) (0, 2) (by decide)]
      simp [SP2]
      intro s12
      (repeat first | refine And.intro (by omega) ?_ | refine And.intro (Fits.of (by omega) (by omega)) ?_)
      exact hJ.next 3 (by omega) (by omega) (by simp) (by simp)
  obtain rfl : k = 3 := by omega
  simp
  refine hJ.exit ?_
  simp
  intro s10
  refine Lp.intro (σ := Nat) (inv := fun k => k ≤ 3) (vw := fun k => [(134, .sl 134 0 (s10+1) 3 (.ex 3)), (135, .int .i64 3), (136, .int .i64 k)])
    (hp := fun _ => [(134, .row (ints [1, 2, 3, 2, 2, 1, 0, 1, 0]) (s10+1))]) (ms := fun k => 3 - k) 0 (by simp) (by simp) (by simp) ?_
  intro k hk J2 hJ2
  by_cases hkc : k < 3
  · have hcs : k = 0 ∨ k = 1 ∨ k = 2 := by omega
    rcases hcs with rfl | rfl | rfl
    · simp
      intro s11
      refine PCallK.intro (PInv.func law05_sample_ok) ?_
      simp
      refine PCallK.intro (v := smp.pushV 1 2) (PInv.func (drive_Push_ok smp smp_small 1 2)) ?_
      rw [smp_push₂]
      simp
      (repeat first | refine And.intro (by omega) ?_ | refine And.intro (Fits.of (by omega) (by omega)) ?_)
      exact hJ2.next 1 (by omega) (by omega) (by simp) (by simp)
    · simp
      intro s11
      refine PCallK.intro (PInv.func law05_sample_ok) ?_
      simp
      refine PCallK.intro (v := smp.pushV 2 2) (PInv.func (drive_Push_ok smp smp_small 2 2)) ?_
      rw [smp_push₃]
      simp
      (repeat first | refine And.intro (by omega) ?_ | refine And.intro (Fits.of (by omega) (by omega)) ?_)
      exact hJ2.next 2 (by omega) (by omega) (by simp) (by simp)
    · simp
      intro s11
      refine PCallK.intro (PInv.func law05_sample_ok) ?_
      simp
      refine PCallK.intro (v := smp.pushV 0 1) (PInv.func (drive_Push_ok smp smp_small 0 1)) ?_
      rw [smp_push₄]
      simp
      (repeat first | refine And.intro (by omega) ?_ | refine And.intro (Fits.of (by omega) (by omega)) ?_)
      exact hJ2.next 3 (by omega) (by omega) (by simp) (by simp)
  obtain rfl : k = 3 := by omega
  simp
  refine hJ2.exit ?_
  simp
  refine PCallK.intro (PInv.func law05_sample_ok) ?_
  simp
  intro s11
  refine FCall.frz1 160 rfl (v := smp.chainV [2, 0, 2] 1) (by simpa [L] using PInv.func (first := []) (cap := []) (drive_Chain_ok smp smp_small [2, 0, 2] (by simp) 1)) trivial ⟨trivial, ?_⟩
  rw [smp_chain₂]
  simp
  refine PCallK.intro (PInv.func law05_sample_ok) ?_
  simp
  intro s12
  refine FCall.frz1 166 rfl (v := smp.chainV [3, 0, 0] 1) (by simpa [L] using PInv.func (first := []) (cap := []) (drive_Chain_ok smp smp_small [3, 0, 0] (by simp) 1)) trivial ⟨trivial, ?_⟩
  rw [smp_chain₃]
  simp
  refine PCallK.intro (PInv.func law05_alive_ok) ?_
  simp
  exact RetV.refl rfl
end Go.Cw
end

/- Numbers that are drawn, and what is made of them. -/
section
set_option maxRecDepth 100000
set_option linter.unusedSimpArgs false
namespace Go.Cw
open Go Go.Proofs

/-- Drawn numbers. -/
def U16 (l : List Int) : AVal := .vl l.length (intsK .u16 l)
structure U16ok (l : List Int) : Prop where
  len : l.length ≤ 9223372036854775807
  rng : ∀ x ∈ l, 0 ≤ x ∧ x ≤ 65535
@[simp] theorem frz_U16 (r s : Nat) (cells : List AVal) (l : List Int) : frz r s cells (U16 l) = U16 l := (rfl)
@[simp] theorem acells_U16 (l : List Int) : acells (U16 l) = some [U16 l] := (rfl)
@[simp] theorem aLen_U16 (l : List Int) : aLen (U16 l) = some (.int .i64 l.length) := (rfl)
@[simp] theorem ren_U16 (r nm : Nat) (l : List Int) : ren r nm (U16 l) = U16 l := (rfl)
@[simp] theorem satIxS_U16 (l : List Int) (k : IntKind) (n : Int) (K : AVal → Prop) : satIxS 1 (U16 l) (.int k n) K = ((0 ≤ n ∧ n < l.length) ∧ K (.pv (intsK .u16 (l.drop n.toNat)))) := by
  simp [U16]

/-- The function that draws. -/
def drawV (ra s : Nat) (l : List Int) : AVal := .func (.func fn_law05_draws_1) [] [.ptr ra 0 s, .pv [U16 l]]

theorem law05_draws_ok (l : List Int) (ra : Nat) (K : AEnd → Heap → Prop) (hK : ∀ s, K (.ret (drawV ra s l)) (hpV [(ra, .row [.int .i64 0] s)])) : ACalls Pg fn_law05_draws [U16 l] (hpV [(ra, .dead)]) K := by
  obtain ⟨F, hF⟩ : ∃ F, ra < F := ⟨ra + 1, by omega⟩
  have e1 : ∀ k, ¬ F + k = ra := fun k => by omega
  have e2 : ∀ k, ¬ ra = F + k := fun k => by omega
  refine law05_draws.enter F (by simp) ?_
  simp [e1, e2]
  intro s s1
  refine RetV.frz (F + 1) (cells := [U16 l]) (s := s + 1) (by simp [e1, e2]) (RetV.move (F + 3) ra (RetV.view [(ra, .row [.int .i64 0] (s1 + 1))] (by simp [e1, e2]) ?_))
  simpa [drawV] using hK (s1 + 1)

theorem law05_draws_1_ok (l : List Int) (hl : U16ok l) (n : Int) (hn : 0 < n ∧ n ≤ 1000000) (k : Nat) (hk : k ≤ 1000000) (ra s : Nat) (K : AEnd → Heap → Prop)
    (hK : ∀ r : Nat, (r : Int) < n → K (.ret (.int .i64 r)) (hpV [(ra, .row [.int .i64 (k + 1 : Nat)] s)])) : ACalls Pg fn_law05_draws_1 [.int .i64 n, .ptr ra 0 s, .pv [U16 l]] (hpV [(ra, .row [.int .i64 k] s)]) K := by
  obtain ⟨F, hF⟩ : ∃ F, ra < F := ⟨ra + 1, by omega⟩
  have e1 : ∀ k, ¬ F + k = ra := fun k => by omega
  have e2 : ∀ k, ¬ ra = F + k := fun k => by omega
  have fin : ∀ r : Int, 0 ≤ r → r < n → RetV K (hpV [(ra, .row [.int .i64 (k + 1 : Nat)] s)]) (.int .i64 r) := fun r h0 h1 => by
    obtain ⟨r', rfl⟩ := Int.eq_ofNat_of_zero_le h0
    exact RetV.refl (hK r' h1)
  refine law05_draws_1.enter F (by simp) ?_
  simp [e1, e2]
  (repeat first | refine And.intro (by omega) ?_ | refine And.intro (Fits.of (by omega) (by omega)) ?_)
  by_cases h0 : l = []
  · subst h0
    simp [e1, e2]
    (repeat first | refine And.intro (by omega) ?_ | refine And.intro (Fits.of (by omega) (by omega)) ?_)
    have h1 := Int.tmod_nonneg (a := (k : Int) + 1) n (by omega)
    have h2 := Int.tmod_lt_of_pos ((k : Int) + 1) hn.1
    rw [upd_upd]
    simpa using fin _ h1 h2
  · have hpos : 0 < l.length := List.length_pos_iff.2 h0
    have hlen := hl.len
    have h1 := Int.tmod_nonneg (a := (k : Int) + 1) (l.length : Int) (by omega)
    have h2 := Int.tmod_lt_of_pos ((k : Int) + 1) (show (0 : Int) < l.length by omega)
    obtain ⟨i, hi⟩ := Int.eq_ofNat_of_zero_le h1
    have hil : i < l.length := by omega
    have hx := hl.rng l[i] (by simp)
    simp [h0, e1, e2, hi, hil]
    have h3 := Int.tmod_nonneg (a := l[i] + 73 * ((k : Int) + 1)) n (by omega)
    have h4 := Int.tmod_lt_of_pos (l[i] + 73 * ((k : Int) + 1)) hn.1
    refine ⟨Fits.of (by omega) (by omega), Fits.of (by omega) (by omega), Fits.of (by omega) (by omega), by omega, ?_⟩
    rw [upd_upd]
    simpa using fin _ h3 h4

theorem law05_inside_ok (n : Int) (s : Int × Int) : APure Pg fn_law05_inside [.int .i64 n, SP2 s] (.bool (decide (s.1 ≤ n ∧ n ≤ s.2))) := by
  refine law05_inside.pure (by simp) ?_
  by_cases h : s.1 ≤ n <;> simp [h, SP2]
  all_goals intro s1
  all_goals exact RetV.refl (by simp)

namespace Drv
/-- Do two seams lie beside one another? -/
def Bes (d : Drv) (a b : Int) : Prop := (a, b) ∈ d.beside ∨ (b, a) ∈ d.beside
instance (d : Drv) (a b : Int) : Decidable (d.Bes a b) := inferInstanceAs (Decidable (_ ∨ _))
end Drv

theorem law05_beside_ok (d : Drv) (hd : d.Small) (a b : Int) : APure Pg fn_law05_beside [d.v, .int .i64 a, .int .i64 b] (.bool (decide (d.Bes a b))) := by
  have hp := hd.p
  refine law05_beside.pure (by simp) ?_
  simp
  intro s
  refine Lp.intro (σ := Nat) (inv := fun i => i ≤ d.beside.length ∧ ∀ (j : Nat) p, j < i → d.beside[j]? = some p → p ≠ (a, b) ∧ p ≠ (b, a)) (vw := fun i => [(1, .int .i64 a), (2, .int .i64 b), (10, LP d.beside), (11, .int .i64 d.beside.length), (12, .int .i64 i)]) (hp := fun _ => []) (ms := fun i => d.beside.length - i) 0 (by simp) (by simp) (by simp) ?_
  rintro i ⟨hi, inv⟩ J hJ
  by_cases hc : i < d.beside.length
  · have hb : ∀ x y : Int, (d.beside[i].1 == x && d.beside[i].2 == y) = decide (d.beside[i] = (x, y)) := fun x y => by
      rw [Bool.eq_iff_iff]; simp [Prod.ext_iff]
    by_cases q1 : d.beside[i] = (a, b)
    · have r1 : (d.beside[i].1 == a && d.beside[i].2 == b) = true := by rw [hb]; simp [q1]
      simp [hc, r1]
      refine ⟨by omega, fun s1 => hJ.ret ?_⟩
      simp
      refine RetV.refl ?_
      have : d.Bes a b := .inl (by rw [← q1]; simp)
      simp [this]
    · have r1 : (d.beside[i].1 == a && d.beside[i].2 == b) = false := by rw [hb]; simp [q1]
      by_cases q2 : d.beside[i] = (b, a)
      · have r2 : (d.beside[i].1 == b && d.beside[i].2 == a) = true := by rw [hb]; simp [q2]
        simp [hc, r1, r2]
        refine ⟨by omega, fun s1 => hJ.ret ?_⟩
        simp
        refine RetV.refl ?_
        have : d.Bes a b := .inr (by rw [← q2]; simp)
        simp [this]
      · have r2 : (d.beside[i].1 == b && d.beside[i].2 == a) = false := by rw [hb]; simp [q2]
        simp [hc, r1, r2]
        refine ⟨by omega, fun s1 => ?_⟩
        (repeat first | refine And.intro (by omega) ?_ | refine And.intro (Fits.of (by omega) (by omega)) ?_)
        refine hJ.next (i + 1) ⟨by omega, fun j p hj hp => ?_⟩ (by omega) (by simp) (by simp)
        by_cases hji : j = i
        · subst hji
          obtain rfl : d.beside[j] = p := by simpa [hc] using hp
          exact ⟨q1, q2⟩
        · exact inv j p (by omega) hp
  · simp [hc]
    refine hJ.exit ?_
    simp
    refine RetV.refl ?_
    have : ¬ d.Bes a b := by
      rintro (h | h) <;> obtain ⟨j, hj, he⟩ := List.getElem_of_mem h
      · exact (inv j _ (by omega) (by simp [hj])).1 he
      · exact (inv j _ (by omega) (by simp [hj])).2 he
    simp [this]

/-- A number is drawn. -/
theorem FCall.draw {F n₀ : Nat} {inr : Bool} {keep : List Nat} {fa fl : List It} {d : Option Nat} {K : KT} {Q : Post} {tm : TM} {df : DF} {h : Heap} {l : List Int} (hl : U16ok l) {n : Int} (hn : 0 < n ∧ n ≤ 1000000) {k : Nat} (hk : k ≤ 1000000) {ra s : Nat} (hr : h ra = .row [.int .i64 k] s) (f : FaOk F fa tm h)
    (next : ∀ r : Nat, (r : Int) < n → FlOk fl (putD tm d (.int .i64 r)) (upd h ra (.row [.int .i64 (k + 1 : Nat)] s)) ∧ K (putD tm d (.int .i64 r)) df (upd h ra (.row [.int .i64 (k + 1 : Nat)] s))) :
    FCall ⟨Pg, F, n₀, inr, keep⟩ (drawV ra s l) [.int .i64 n] fa fl d K Q tm df h := by
  refine FCall.cps [(ra, .row [.int .i64 k] s)] (fun r : Nat => .int .i64 r) (fun _ => [(ra, .row [.int .i64 (k + 1 : Nat)] s)]) (fun r => (r : Int) < n) (fun K' hK' => AInvoke.func ?_) (by simpa using hr) (fun _ => rfl) f (fun r hr => by simpa using next r hr)
  exact law05_draws_1_ok l hl n hn k hk ra s K' hK'

theorem law05_truth_ok (d : Drv) (hd : d.Small) (hv : d.Valid) (l : List Int) (hl : U16ok l) (k : Nat) (hk : k ≤ 100000) (ra s : Nat) (K : AEnd → Heap → Prop)
    (hK : ∀ t, t ∈ d.truths → K (.ret (L t)) (hpV [(ra, .row [.int .i64 (k + d.n : Nat)] s)])) : ACalls Pg fn_law05_truth [d.v, drawV ra s l] (hpV [(ra, .row [.int .i64 k] s)]) K := by
  obtain ⟨F, hF⟩ : ∃ F, ra < F := ⟨ra + 1, by omega⟩
  have e1 : ∀ k, ¬ F + k = ra := fun k => by omega
  have e2 : ∀ k, ¬ ra = F + k := fun k => by omega
  refine law05_truth.enter F (by simp) ?_
  simp [e1, e2]
  intro s1
  have hbl := hv.bl
  have hn6 := hv.n6
  have hn1 := hv.n1
  refine Lp.intro' (σ := Nat × List Int × Nat) (inv := fun x => x.1 ≤ d.n ∧ x.2.1.length = x.1 ∧ ∀ j, j < x.1 → d.lo j ≤ ofL x.2.1 j ∧ ofL x.2.1 j ≤ d.hi j)
    (vw := fun x => [(1, drawV ra s l), (4, gS 1 (F + 27) x.1 x.2.2), (8, LP d.blows), (9, .int .i64 d.n), (10, .int .i64 x.1)])
    (hp := fun x => [(ra, .row [.int .i64 (k + x.1 : Nat)] s), (F + 27, gO x.1 (ints x.2.1) x.2.2)])
    (ms := fun x => d.n - x.1) (0, [], 0) (by simp) (Sl.wk 4 .es (by simpa using ALe.nils_es) (Sl.refl ⟨rfl, by simp [hbl], by simp [e1, e2]⟩)) ?_
  rintro ⟨i, xs, st⟩ ⟨hi, hxl, hx⟩ J hJ
  simp at hi hxl hx
  by_cases hc : i < d.n
  · have hcb : i < d.blows.length := by omega
    have hlh := hv.lohi i
    have elo : d.blows[i].1 = d.lo i := by simp [Drv.lo, hcb]
    have ehi : d.blows[i].2 = d.hi i := by simp [Drv.hi, hcb]
    simp [hc, hcb, e1, e2, elo, ehi]
    refine ⟨by omega, fun s2 => ?_⟩
    (repeat first | refine And.intro (by omega) ?_ | refine And.intro (Fits.of (by omega) (by omega)) ?_)
    refine FCall.draw hl (by omega) (k := k + i) (by omega) (by simp [e1, e2]) (by simp [e1, e2]) fun r hr => ?_
    simp [e1, e2]
    (repeat first | refine And.intro (by omega) ?_ | refine And.intro (Fits.of (by omega) (by omega)) ?_)
    intro s3 s4
    refine xApN_gS (cells := ints xs) (by simp [e1, e2]) (by simpa using hxl) (by omega) (by omega) ?_
    simp [e1, e2]
    (repeat first | refine And.intro (by omega) ?_ | refine And.intro (Fits.of (by omega) (by omega)) ?_)
    refine hJ.next (i + 1, xs ++ [d.lo i + r], s4 + 1) ⟨by simp; omega, by simp [hxl], fun j hj => ?_⟩ (by simp; omega) (by simp [e1, e2]) ?_
    · simp only [] at hj ⊢
      rw [ofL_snoc, hxl]
      by_cases hji : j = i
      · subst hji; simp; omega
      · simp only [if_neg hji]; exact hx j (by omega)
    · simp [e1, e2]
      omega
  · obtain rfl : i = d.n := by omega
    have hne : d.n ≠ 0 := by omega
    simp
    refine hJ.exit ?_
    simp
    refine RetV.le (VLe.gS (cells := ints xs) (by simp [e1, e2]) (by simpa using hxl)) ?_
    refine RetV.view [(ra, .row [.int .i64 (k + d.n : Nat)] s)] (by simp [e1, e2]) ?_
    have := hK xs (hv.mem.2 ⟨hxl, hx⟩)
    rw [L, hxl] at this
    exact this

/-- Two places of a list change. -/
def swapL (l : List Int) (i j : Nat) : List Int := (l.set i (l.getD j 0)).set j (l.getD i 0)
@[simp] theorem swapL_length (l : List Int) (i j : Nat) : (swapL l i j).length = l.length := by simp [swapL]
theorem swapL_perm (l : List Int) {i j : Nat} (hi : i < l.length) (hj : j < l.length) : (swapL l i j).Perm l := by
  unfold swapL
  simp only [List.getD_eq_getElem?_getD, List.getElem?_eq_getElem hi, List.getElem?_eq_getElem hj, Option.getD_some]
  exact List.set_set_perm hi hj

theorem upto_succ (n : Nat) : upto (n + 1) = upto n ++ [(n : Int)] := by simp [upto, List.range_succ]

theorem law05_made_ok (d : Drv) (hd : d.Small) (hv : d.Valid) (l : List Int) (hl : U16ok l) (k : Nat) (hk : k ≤ 100000) (m : Int) (hm : 0 ≤ m ∧ m ≤ 1000) (ra s : Nat) (K : AEnd → Heap → Prop)
    (hK : ∀ b o : List Int, b.length = d.n → (∀ x ∈ b, 0 ≤ x ∧ x ≤ m) → o.Perm (upto d.n) → K (.ret (.tup [L b, L o])) (hpV [(ra, .row [.int .i64 (k + 2 * d.n : Nat)] s)])) : ACalls Pg fn_law05_made [d.v, drawV ra s l, .int .i64 m] (hpV [(ra, .row [.int .i64 k] s)]) K := by
  obtain ⟨F, hF⟩ : ∃ F, ra < F := ⟨ra + 1, by omega⟩
  have e1 : ∀ k, ¬ F + k = ra := fun k => by omega
  have e2 : ∀ k, ¬ ra = F + k := fun k => by omega
  have hn6 := hv.n6
  have hn1 := hv.n1
  have hln : d.limits.length = d.n := rfl
  refine law05_made.enter F (by simp) ?_
  simp [e1, e2]
  intro s1
  refine Lp.intro' (σ := Nat × List Int × Nat × Nat) (inv := fun x => x.1 ≤ d.n ∧ x.2.1.length = x.1 ∧ ∀ y ∈ x.2.1, 0 ≤ y ∧ y ≤ m)
    (vw := fun x => [(1, drawV ra s l), (2, .int .i64 m), (6, gS 1 (F + 23) x.1 x.2.2.1), (7, gS 1 (F + 27) x.1 x.2.2.2), (13, .int .i64 d.n), (14, .int .i64 x.1)])
    (hp := fun x => [(ra, .row [.int .i64 (k + x.1 : Nat)] s), (F + 23, gO x.1 (ints x.2.1) x.2.2.1), (F + 27, gO x.1 (ints (upto x.1)) x.2.2.2)])
    (ms := fun x => d.n - x.1) (0, [], 0, 0) (by simp) (Sl.wk 6 .es (by simpa using ALe.nils_es) (Sl.wk 7 .es (by simpa using ALe.nils_es) (Sl.refl ⟨rfl, by simp [hln], by simp [e1, e2]⟩))) ?_
  · rintro ⟨i, xs, st, st'⟩ ⟨hi, hxl, hx⟩ J hJ
    simp at hi hxl hx
    by_cases hc : i < d.n
    · simp [hc, e1, e2]
      (repeat first | refine And.intro (by omega) ?_ | refine And.intro (Fits.of (by omega) (by omega)) ?_)
      refine FCall.draw hl (by omega) (k := k + i) (by omega) (by simp [e1, e2]) (by simp [e1, e2]) fun r hr => ⟨trivial, ?_⟩
      simp [e1, e2]
      intro s3 s4
      refine xApN_gS (cells := ints xs) (by simp [e1, e2]) (by simpa using hxl) (by omega) (by omega) ?_
      simp [e1, e2]
      intro s5 s6
      refine xApN_gS (cells := ints (upto i)) (by simp [e1, e2]) (by simp) (by omega) (by omega) ?_
      simp [e1, e2]
      (repeat first | refine And.intro (by omega) ?_ | refine And.intro (Fits.of (by omega) (by omega)) ?_)
      refine hJ.next (i + 1, xs ++ [(r : Int)], s4 + 1, s6 + 1) ⟨by simp; omega, by simp [hxl], fun y hy => ?_⟩ (by simp; omega) (by simp [e1, e2]) ?_
      · simp only [List.mem_append, List.mem_singleton] at hy
        rcases hy with hy | rfl
        · exact hx y hy
        · omega
      · simp [e1, e2, upto_succ]
        omega
    · obtain rfl : i = d.n := by omega
      simp
      refine hJ.exit ?_
      simp [gS_pos hn1]
      refine Lp.intro (σ := Nat × List Int) (inv := fun x => x.1 ≤ d.n ∧ x.2.Perm (upto d.n))
        (vw := fun x => [(1, drawV ra s l), (6, .sl (F + 23) 0 st d.n (.gr 1)), (7, .sl (F + 27) 0 st' d.n (.gr 1)), (30, .int .i64 d.n), (31, .int .i64 x.1)])
        (hp := fun x => [(ra, .row [.int .i64 (k + d.n + x.1 : Nat)] s), (F + 23, .row (ints xs) st), (F + 27, .row (ints x.2) st')])
        (ms := fun x => d.n - x.1) (0, upto d.n) (by simp) (by simp) (by simp [e1, e2, gO_pos hn1]) ?_
      rintro ⟨i, o⟩ ⟨hi, ho⟩ J2 hJ2
      simp at hi ho
      have hol : o.length = d.n := by rw [ho.length_eq]; simp
      by_cases hc : i < d.n
      · simp [hc, e1, e2]
        (repeat first | refine And.intro (by omega) ?_ | refine And.intro (Fits.of (by omega) (by omega)) ?_)
        refine FCall.draw hl (by omega) (k := k + d.n + i) (by omega) (by simp [e1, e2]) (by simp [e1, e2]) fun r hr => ⟨trivial, ?_⟩
        obtain ⟨j, hj⟩ : ∃ j, j = i + r := ⟨_, rfl⟩
        have hij : (i : Int) + (r : Int) = (j : Int) := by omega
        have hjn : j < d.n := by omega
        have hjo : j < o.length := by omega
        have hio : i < o.length := by omega
        simp [e1, e2, hij, hjn, hjo, hio, hol]
        (repeat first | refine And.intro (by omega) ?_ | refine And.intro (Fits.of (by omega) (by omega)) ?_)
        simp [hc, hjn, hjo, hio, e1, e2]
        (repeat first | refine And.intro (by omega) ?_ | refine And.intro (Fits.of (by omega) (by omega)) ?_)
        refine hJ2.next (i + 1, swapL o i j) ⟨by simp; omega, (swapL_perm o hio hjo).trans ho⟩ (by simp; omega) (by simp) ?_
        simp [e1, e2, swapL, hio, hjo]
        omega
      · obtain rfl : i = d.n := by omega
        simp
        refine hJ2.exit ?_
        simp
        refine RetV.frz (F + 23) (cells := ints xs) (s := st) (by simp [e1, e2]) (RetV.frz (F + 27) (cells := ints o) (s := st') (by simp [e1, e2]) ?_)
        simp
        refine RetV.view [(ra, .row [.int .i64 (k + 2 * d.n : Nat)] s)] (by simp [e1, e2]; omega) ?_
        have := hK xs o hxl hx ho
        rw [L, L, hxl, hol] at this
        exact this
end Go.Cw
end

/- Calls that draw; which seams lie beside one another, and the order in which they open. -/
section
set_option maxRecDepth 100000
set_option linter.unusedSimpArgs false
namespace Go.Cw
open Go Go.Proofs

section
variable {F n₀ : Nat} {inr : Bool} {keep : List Nat} {fa fl : List It} {t : Option Nat} {K : KT} {Q : Post} {tm : TM} {df : DF} {h : Heap} {l : List Int}

theorem FCall.draws (ra : Nat) (hr : h ra = .dead) (f : FaOk F fa tm h)
    (next : ∀ s : Nat, FlOk fl (putD tm t (drawV ra s l)) (upd h ra (.row [.int .i64 0] s)) ∧ K (putD tm t (drawV ra s l)) df (upd h ra (.row [.int .i64 0] s))) :
    FCall ⟨Pg, F, n₀, inr, keep⟩ (.func (.func fn_law05_draws) [] []) [U16 l] fa fl t K Q tm df h := by
  refine FCall.cps [(ra, .dead)] (fun s : Nat => drawV ra s l) (fun s => [(ra, .row [.int .i64 0] s)]) (fun _ => True) (fun K' hK' => AInvoke.func ?_) (by simpa using hr) (fun _ => rfl) f (fun s _ => by simpa using next s)
  exact law05_draws_ok l ra K' fun s => hK' s trivial

theorem FCall.made {d : Drv} (hd : d.Small) (hv : d.Valid) (hl : U16ok l) {k : Nat} (hk : k ≤ 100000) {m : Int} (hm : 0 ≤ m ∧ m ≤ 1000) {ra s : Nat} (hr : h ra = .row [.int .i64 k] s) (f : FaOk F fa tm h)
    (next : ∀ b o : List Int, b.length = d.n → (∀ x ∈ b, 0 ≤ x ∧ x ≤ m) → o.Perm (upto d.n) → FlOk fl (putD tm t (.tup [L b, L o])) (upd h ra (.row [.int .i64 (k + 2 * d.n : Nat)] s)) ∧ K (putD tm t (.tup [L b, L o])) df (upd h ra (.row [.int .i64 (k + 2 * d.n : Nat)] s))) :
    FCall ⟨Pg, F, n₀, inr, keep⟩ (.func (.func fn_law05_made) [] []) [d.v, drawV ra s l, .int .i64 m] fa fl t K Q tm df h := by
  refine FCall.cps [(ra, .row [.int .i64 k] s)] (fun x : List Int × List Int => .tup [L x.1, L x.2]) (fun _ => [(ra, .row [.int .i64 (k + 2 * d.n : Nat)] s)]) (fun x => x.1.length = d.n ∧ (∀ y ∈ x.1, 0 ≤ y ∧ y ≤ m) ∧ x.2.Perm (upto d.n)) (fun K' hK' => AInvoke.func ?_) (by simpa using hr) (fun _ => rfl) f (fun x hx => by simpa using next x.1 x.2 hx.1 hx.2.1 hx.2.2)
  exact law05_made_ok d hd hv l hl k hk m hm ra s K' fun b o h1 h2 h3 => hK' (b, o) ⟨h1, h2, h3⟩

theorem FCall.truth {d : Drv} (hd : d.Small) (hv : d.Valid) (hl : U16ok l) {k : Nat} (hk : k ≤ 100000) {ra s : Nat} (hr : h ra = .row [.int .i64 k] s) (f : FaOk F fa tm h)
    (next : ∀ b : List Int, b ∈ d.truths → FlOk fl (putD tm t (L b)) (upd h ra (.row [.int .i64 (k + d.n : Nat)] s)) ∧ K (putD tm t (L b)) df (upd h ra (.row [.int .i64 (k + d.n : Nat)] s))) :
    FCall ⟨Pg, F, n₀, inr, keep⟩ (.func (.func fn_law05_truth) [] []) [d.v, drawV ra s l] fa fl t K Q tm df h := by
  refine FCall.cps [(ra, .row [.int .i64 k] s)] (fun x : List Int => L x) (fun _ => [(ra, .row [.int .i64 (k + d.n : Nat)] s)]) (fun x => x ∈ d.truths) (fun K' hK' => AInvoke.func ?_) (by simpa using hr) (fun _ => rfl) f (fun x hx => by simpa using next x hx)
  exact law05_truth_ok d hd hv l hl k hk ra s K' hK'

/-- Is there far too much of something? (With no list.) -/
theorem FCall.long0 {d : Drv} (f : FaOk F fa tm h) (fl' : FlOk fl (putD tm t (.bool (longB d []))) h) (k : K (putD tm t (.bool (longB d []))) df h) : FCall ⟨Pg, F, n₀, inr, keep⟩ (.func (.func fn_law05_long) [] []) [d.v, .nils] fa fl t K Q tm df h :=
  FCall.pure' (v := .bool (longB d [])) (fun h => AInvoke.ale (args' := [d.v, .vl 0 []]) (ALe.refl _) ⟨ALe.refl _, ALe.nils_vl, trivial⟩ (PInv.func (first := []) (cap := []) (law05_long_ok d [] (by simp)) h)) f fl' k
end

namespace Drv
theorem Valid.nodup {d : Drv} (hv : d.Valid) : d.beside.Nodup := by
  rw [List.Nodup, List.pairwise_iff_getElem]
  intro i j hi hj hij he
  exact (hv.pr j d.beside[j] (by simp [hj])).2.2.2 i hij (by simp [hi, he])

theorem Valid.bes {d : Drv} (hv : d.Valid) (a b : Nat) : d.cnt a b = if d.Bes a b then 1 else 0 := by
  have h1 := fun p => List.Nodup.count (a := p) hv.nodup
  have hlt : ∀ x y : Int, (x, y) ∈ d.beside → x < y := fun x y h => by
    obtain ⟨i, hi, he⟩ := List.getElem_of_mem h
    have := (hv.pr i d.beside[i] (by simp [hi])).2.2.1
    rw [he] at this; exact this
  have hc : d.cnt a b = if a = b then 0 else d.beside.count ((a : Int), (b : Int)) + d.beside.count ((b : Int), (a : Int)) := by
    split
    · rename_i hab; subst hab; exact cnt_self hv a
    · rename_i hab
      unfold cnt cntL List.count
      have : ∀ l : List (Int × Int), l.countP (fun p => decide (p = ((a : Int), (b : Int))) || decide (p = ((b : Int), (a : Int)))) = l.countP (· == ((a : Int), (b : Int))) + l.countP (· == ((b : Int), (a : Int))) := by
        intro l
        induction l with
        | nil => rfl
        | cons p l ih =>
          simp only [List.countP_cons, ih]
          by_cases q1 : p = ((a : Int), (b : Int))
          · subst q1
            have q3 : ¬ (b = a ∧ a = b) := fun h => hab h.2
            have q4 : ¬ (a = b ∧ b = a) := fun h => hab h.1
            simp
            rw [if_neg q4]
            omega
          · by_cases q2 : p = ((b : Int), (a : Int))
            · subst q2
              have q3 : ¬ (b = a ∧ a = b) := fun h => hab h.2
              simp
              rw [if_neg q3]
              omega
            · simp [q1, q2]
      exact this _
  rw [hc, h1, h1]
  unfold Bes
  by_cases hab : a = b
  · subst hab
    have : ¬ ((a : Int), (a : Int)) ∈ d.beside := fun h => by have := hlt _ _ h; omega
    simp [this]
  · rw [if_neg hab]
    by_cases q1 : ((a : Int), (b : Int)) ∈ d.beside
    · have q2 : ¬ ((b : Int), (a : Int)) ∈ d.beside := fun h => by have := hlt _ _ h; have := hlt _ _ q1; omega
      simp [q1, q2]
    · by_cases q2 : ((b : Int), (a : Int)) ∈ d.beside <;> simp [q1, q2]

theorem cnt_symm (d : Drv) (a b : Nat) : d.cnt a b = d.cnt b a := by
  unfold cnt cntL
  congr 1
  funext p
  rw [Bool.or_comm]

theorem firstCan_at {d : Drv} {order : List Nat} {c : Nat → Int} {i : Nat} (h : d.firstCan order c = some i) : ∃ k, ∃ hk : k < order.length, order[k] = i ∧ ∀ j (hj : j < k), ¬ d.lim order[j] ≤ c order[j] := by
  unfold firstCan at h
  obtain ⟨h1, xs, bs, h2, h3⟩ := List.find?_eq_some_iff_append.1 h
  refine ⟨xs.length, by rw [h2]; simp, by simp [h2], fun j hj => ?_⟩
  have : order[j]'(by rw [h2]; simp; omega) = xs[j] := by simp [h2, hj]
  rw [this]
  simpa using h3 xs[j] (by simp)

theorem Runs.next {d : Drv} {order : List Nat} {c c' : Nat → Int} {i : Nat} {all : List Nat} (r : d.Runs order c (i :: all) c') : d.firstCan order c = some i ∧ d.Runs order (d.fire i c) all c' := by
  cases r with
  | step h r => exact ⟨h, r⟩
theorem Runs.done {d : Drv} {order : List Nat} {c c' : Nat → Int} (r : d.Runs order c [] c') : c' = c := by
  cases r with
  | stop h => rfl
end Drv
end Go.Cw
end

/- DriveOrder. -/
section
set_option maxRecDepth 100000
set_option linter.unusedSimpArgs false
namespace Go.Cw
open Go Go.Proofs

theorem law05_DriveOrder_ok (d : Drv) (l : List Int) (hl : U16ok l) : APure Pg fn_law05_DriveOrder [d.v, U16 l] (.bool true) := by
  refine law05_DriveOrder.pure (by simp) ?_
  simp
  intro s
  refine FCall.long0 (by simp) trivial ?_
  cases hlg : longB d [] with
  | true =>
    simp
    refine PCallK.intro (PInv.func law05_alive_ok) ?_
    simp
    exact RetV.refl rfl
  | false =>
  obtain ⟨hd, _⟩ := longB_iff.1 hlg
  simp
  refine PCallK.intro (PInv.func (ref05_Drive_ok d hd)) ?_
  by_cases hv : d.Valid
  · simp [hv]
    refine FCall.draws 300 (by simp) (by simp) fun s1 => ⟨by simp, ?_⟩
    simp
    refine FCall.made hd hv hl (k := 0) (by omega) (by omega) (by simp) (by simp) fun b o hb1 hb2 ho => ⟨by simp, ?_⟩
    have hB : d.Blows b := ⟨hb1, hb2⟩
    have hO : d.Order o := Drv.Order.of_perm ho
    simp
    refine FCall.pure (PInv.func (drive_Settle_ok d hd b (by have := hv.n6; omega))) ?_
    simp [Drv.settleV, hv, hB]
    refine FCall.pure (PInv.func (drive_Run_ok d hd b o (by have := hv.n6; omega) (by have := hO.1; have := hv.n6; omega))) ?_
    simp [Drv.runV, hv, hB, hO]
    have hin := Drv.In.of_le hv (c := ofL b) (m := 52) hB.le (by omega)
    have hruns := hin.runs hv hO.lt
    have hq := hruns.seq hO.lt (fun i hi => by
      have h1 := hO.2 i hi
      have : (i : Int) ∈ o := by rw [← List.count_pos_iff]; omega
      exact List.mem_map.2 ⟨i, this, by simp⟩)
    obtain ⟨hrt, hrl⟩ := hq.1.rest hv hin hq.2
    have hlen := (hruns.inn hv hO.lt hin).2.1
    have hmem := (hruns.inn hv hO.lt hin).2.2
    generalize (d.runOf (toN o) (ofL b)).1 = all at *
    generalize (d.runOf (toN o) (ofL b)).2 = fin at *
    simp [hb1]
    have h400 : ¬ (400 : Int) < all.length := by omega
    have hn1 := hv.n1
    have hn6 := hv.n6
    simp [h400]
    intro s2 s3
    simp [hb1, xAp_ne (show d.n ≠ 0 by omega), show d.n ≠ 0 by omega, show ¬ d.n ≤ 0 by omega]
    refine ⟨by omega, fun _ s4 => ⟨by omega, ?_⟩⟩
    refine Lp.intro (σ := Nat × (Nat → Int)) (inv := fun x => x.1 ≤ all.length ∧ d.Runs (toN o) x.2 (all.drop x.1) fin ∧ d.In (6 * 52) x.2)
      (vw := fun x => [(2, .ptr 2 0 (s+1)), (10, L b), (11, L o), (12, L (tab d.n (d.left (ofL b)))), (13, L (tab d.n (d.odo (ofL b)))), (17, .sl 117 0 (s3+1) d.n (.gr 1)), (18, .sl 120 0 (s4+1) d.n (.ex d.n)), (121, L (nats all)), (122, .int .i64 all.length), (123, .int .i64 x.1)])
      (hp := fun x => [(2, .row d.cells (s+1)), (117, .row (ints (tab d.n x.2)) (s3+1)), (120, .row (ints (tab d.n (times (all.take x.1)))) (s4+1))])
      (ms := fun x => all.length - x.1) (0, ofL b) ⟨by simp, by simpa using hruns, hin⟩ (by simp) ?_ ?_
    · simp [hB.tab]
      rw [ints_replicate]
      simp
      apply List.ext_getElem?
      intro j
      rw [tab_get, List.getElem?_replicate]
      rfl
    · rintro ⟨k, c⟩ ⟨hk, hrk, hck⟩ J hJ
      simp at hk hrk hck
      by_cases hkc : k < all.length
      · have hd' : all.drop k = all[k] :: all.drop (k + 1) := by rw [List.drop_eq_getElem_cons hkc]
        rw [hd'] at hrk
        obtain ⟨hf, hrk'⟩ := hrk.next
        have hsn := hmem all[k] (by simp)
        obtain ⟨idx, hidx, hio, hbef⟩ := Drv.firstCan_at hf
        obtain ⟨seam, hse⟩ : ∃ seam, seam = all[k] := ⟨_, rfl⟩
        rw [← hse] at hf hrk' hsn hio
        have hcan := (Drv.firstCan_some hf).2
        have hln : seam < d.limits.length := hsn
        have hck' := fun i hi => hck.le (j := i) hi
        have hpos := hck.pos
        have hli := fun i hi => hv.lim_pos (i := i) hi
        have hol : o.length = d.n := hO.1
        have hnat := hO.nats
        simp [hkc, ← hse, hsn, hln, d.lim_at hln, hcan, show ¬ (seam : Int) < 0 by omega, show ¬ c seam < d.lim seam by omega, show ¬ d.n ≤ seam by omega]
        have hon : (toN o).length = d.n := by simp [toN, hol]
        refine Lp.intro (σ := Nat) (inv := fun j => j ≤ idx)
          (vw := fun j => [(2, .ptr 2 0 (s+1)), (10, L b), (11, L o), (12, L (tab d.n (d.left (ofL b)))), (13, L (tab d.n (d.odo (ofL b)))), (17, .sl 117 0 (s3+1) d.n (.gr 1)), (18, .sl 120 0 (s4+1) d.n (.ex d.n)), (121, L (nats all)), (122, .int .i64 all.length), (123, .int .i64 k), (20, .int .i64 seam), (147, L (nats (toN o))), (148, .int .i64 d.n), (149, .int .i64 j)])
          (hp := fun _ => [(2, .row d.cells (s+1)), (117, .row (ints (tab d.n c)) (s3+1)), (120, .row (ints (tab d.n (times (all.take k)))) (s4+1))])
          (ms := fun j => idx - j) 0 (by omega) (by simp [hnat, hol]) (by simp) ?_
        · intro j hj J2 hJ2
          have hjn : j < d.n := by omega
          have hjo : j < (toN o).length := by omega
          obtain ⟨oj, hoj⟩ : ∃ oj, oj = (toN o)[j] := ⟨_, rfl⟩
          have hojn : oj < d.n := by rw [hoj]; exact hO.lt _ (by simp)
          have hojl : oj < d.limits.length := hojn
          simp [hjn, hjo, ← hoj]
          by_cases q : oj = seam
          · simp [q]
            refine hJ2.exit ?_
            have hcs := hck' seam hsn
            have hps := hpos seam hsn
            have hls := hli seam hsn
            have htk := times_le (all.take k) seam
            have htl : ((all.take k).length : Int) ≤ 312 := by rw [List.length_take]; omega
            simp [hsn, hln, d.lim_at hln]
            (repeat first | refine And.intro (by omega) ?_ | refine And.intro (Fits.of (by omega) (by omega)) ?_)
            refine Lp.intro (σ := Nat) (inv := fun i => i ≤ d.n)
              (vw := fun i => [(2, .ptr 2 0 (s+1)), (10, L b), (11, L o), (12, L (tab d.n (d.left (ofL b)))), (13, L (tab d.n (d.odo (ofL b)))), (17, .sl 117 0 (s3+1) d.n (.gr 1)), (18, .sl 120 0 (s4+1) d.n (.ex d.n)), (121, L (nats all)), (122, .int .i64 all.length), (123, .int .i64 k), (20, .int .i64 seam), (185, .int .i64 d.n), (186, .int .i64 i)])
              (hp := fun i => [(2, .row d.cells (s+1)), (117, .row (ints (tab d.n fun j => upd c seam (c seam - d.lim seam) j + if j < i then (d.cnt seam j : Int) else 0)) (s3+1)), (120, .row (ints (tab d.n (times (all.take (k + 1))))) (s4+1))])
              (ms := fun i => d.n - i) 0 (by omega) (by simp) ?_ ?_
            · simp
              refine ⟨tab_ext fun j hj => rfl, tab_ext fun j hj => ?_⟩
              rw [times_take _ _ hkc, ← hse]
              unfold upd
              split <;> simp [*]
            · intro i hi J3 hJ3
              by_cases hic : i < d.n
              · have hbes := hv.bes seam i
                have hci := hck' i hic
                have hpi := hpos i hic
                simp [hic]
                refine PCallK.intro (PInv.func (law05_beside_ok d hd _ _)) ?_
                by_cases hbe : d.Bes seam i
                · rw [if_pos hbe] at hbes
                  have hval : ∃ y, y = upd c seam (c seam - d.lim seam) i ∧ -10 ≤ y ∧ y ≤ 1000 := by
                    refine ⟨_, rfl, ?_⟩
                    unfold upd
                    split <;> omega
                  obtain ⟨y, hy, hy1, hy2⟩ := hval
                  simp [hbe, hic, ← hy]
                  (repeat first | refine And.intro (by omega) ?_ | refine And.intro (Fits.of (by omega) (by omega)) ?_)
                  refine hJ3.next (i + 1) (by omega) (by omega) (by simp) ?_
                  simp
                  refine tab_ext fun j hj => ?_
                  by_cases hji : j = i
                  · subst hji
                    rw [upd_same, if_pos (Nat.lt_succ_self j), hbes]
                    rfl
                  · rw [upd_ne _ _ hji]
                    simp only [show (j < i + 1) = (j < i) from propext (by omega)]
                · rw [if_neg hbe] at hbes
                  simp [hbe]
                  (repeat first | refine And.intro (by omega) ?_ | refine And.intro (Fits.of (by omega) (by omega)) ?_)
                  refine hJ3.next (i + 1) (by omega) (by omega) (by simp) ?_
                  simp
                  refine tab_ext fun j hj => ?_
                  by_cases hji : j = i
                  · subst hji
                    rw [if_neg (Nat.lt_irrefl j), if_pos (Nat.lt_succ_self j), hbes]
                    rfl
                  · simp only [show (j < i + 1) = (j < i) from propext (by omega)]
              · obtain rfl : i = d.n := by omega
                simp
                refine hJ3.exit ?_
                simp
                (repeat first | refine And.intro (by omega) ?_ | refine And.intro (Fits.of (by omega) (by omega)) ?_)
                refine hJ.next (k + 1, d.fire seam c) ⟨by simp; omega, hrk', hck.fire hv hsn hcan⟩ (by simp; omega) (by simp) ?_
                simp
                refine tab_ext fun j hj => ?_
                unfold Drv.fire
                rw [if_pos hj]
                split
                · rename_i hjs; subst hjs; omega
                · omega
          · have hjx : j < idx := by
              rcases Nat.lt_or_eq_of_le hj with h | h
              · exact h
              · subst h; exact absurd (hoj.trans hio) q
            have hnc := hbef j hjx
            rw [← hoj] at hnc
            simp [q, hojn, hojl, d.lim_at hojl, hnc]
            (repeat first | refine And.intro (by omega) ?_ | refine And.intro (Fits.of (by omega) (by omega)) ?_)
            exact hJ2.next (j + 1) (by omega) (by omega) (by simp) (by simp)
      · obtain rfl : k = all.length := by omega
        rw [List.drop_length] at hrk
        obtain rfl := hrk.done
        have hst := hq.2
        have hcfg := Drv.left_cfg hv hin
        have hodo : ∀ i, 0 ≤ d.odo (ofL b) i ∧ d.odo (ofL b) i ≤ 312 := fun i => by
          rw [← hrt]
          have := times_le all i
          omega
        simp
        refine hJ.exit ?_
        simp
        refine Lp.intro (σ := Nat) (inv := fun i => i ≤ d.n)
          (vw := fun i => [(2, .ptr 2 0 (s+1)), (10, L b), (12, L (tab d.n (d.left (ofL b)))), (13, L (tab d.n (d.odo (ofL b)))), (17, .sl 117 0 (s3+1) d.n (.gr 1)), (18, .sl 120 0 (s4+1) d.n (.ex d.n)), (202, .int .i64 d.n), (203, .int .i64 i)])
          (hp := fun i => [(2, .row d.cells (s+1)), (117, .row (ints (tab d.n fin)) (s3+1)), (120, .row (ints (tab d.n (times all))) (s4+1))])
          (ms := fun i => d.n - i) 0 (by omega) (by simp) (by simp) ?_
        intro i hi J2 hJ2
        by_cases hic : i < d.n
        · have hib : i < b.length := by omega
          have hil : i < d.limits.length := hic
          have hli := hv.lim_pos hic
          have hbi := hB.le i hic
          have hoi := hodo i
          have hmul : 0 ≤ d.odo (ofL b) i * d.lim i ∧ d.odo (ofL b) i * d.lim i ≤ 312 * 6 :=
            ⟨Int.mul_nonneg hoi.1 (by omega), Int.mul_le_mul hoi.2 hli.2.1 (by omega) (by omega)⟩
          have hbe : b[i] = ofL b i := ofL_at _ hib
          simp [hic, hib, hil, d.lim_at hil, hbe]
          (repeat first | refine And.intro (by omega) ?_ | refine And.intro (Fits.of (by omega) (by omega)) ?_)
          refine Lp.intro (σ := Nat) (inv := fun k => k ≤ d.n)
            (vw := fun k => [(2, .ptr 2 0 (s+1)), (10, L b), (12, L (tab d.n (d.left (ofL b)))), (13, L (tab d.n (d.odo (ofL b)))), (17, .sl 117 0 (s3+1) d.n (.gr 1)), (18, .sl 120 0 (s4+1) d.n (.ex d.n)), (202, .int .i64 d.n), (203, .int .i64 i), (24, .int .i64 i),
              (25, .int .i64 (ofL b i - d.odo (ofL b) i * d.lim i + Drv.sum k fun o => d.odo (ofL b) o * d.cnt o i)), (222, .int .i64 d.n), (223, .int .i64 k)])
            (hp := fun _ => [(2, .row d.cells (s+1)), (117, .row (ints (tab d.n fin)) (s3+1)), (120, .row (ints (tab d.n (times all))) (s4+1))])
            (ms := fun k => d.n - k) 0 (by omega) (by simp [Drv.sum]) (by simp) ?_
          intro k hk J3 hJ3
          have hsum : ∀ k, k ≤ 6 → 0 ≤ (Drv.sum k fun o => d.odo (ofL b) o * d.cnt o i) ∧ (Drv.sum k fun o => d.odo (ofL b) o * d.cnt o i) ≤ k * 312 := by
            intro k
            induction k with
            | zero => intro _; simp [Drv.sum]
            | succ k ih =>
              intro hk
              have h1 := ih (by omega)
              have h2 := hodo k
              have h3 := hv.bes k i
              simp only [Drv.sum]
              split at h3 <;> simp only [h3] <;> simp <;> omega
          by_cases hkc : k < d.n
          · have h1 := hsum k (by omega)
            have h2 := hodo k
            have h3 := hv.bes k i
            have h4 : d.Bes i k ↔ d.Bes k i := Or.comm
            simp [hkc]
            refine PCallK.intro (PInv.func (law05_beside_ok d hd _ _)) ?_
            by_cases hbe : d.Bes i k
            · rw [if_pos (h4.1 hbe)] at h3
              simp [hbe, hkc]
              (repeat first | refine And.intro (by omega) ?_ | refine And.intro (Fits.of (by omega) (by omega)) ?_)
              exact hJ3.next (k + 1) (by omega) (by omega) (by simp [Drv.sum, h3]; omega) (by simp)
            · rw [if_neg (fun h => hbe (h4.2 h))] at h3
              simp [hbe]
              (repeat first | refine And.intro (by omega) ?_ | refine And.intro (Fits.of (by omega) (by omega)) ?_)
              exact hJ3.next (k + 1) (by omega) (by omega) (by simp [Drv.sum, h3]) (by simp)
          · obtain rfl : k = d.n := by omega
            have e1 : ofL b i - d.odo (ofL b) i * d.lim i + (Drv.sum d.n fun o => d.odo (ofL b) o * d.cnt o i) = d.left (ofL b) i := by
              rw [hcfg]; rfl
            have h1 := hst i hic
            have h2 := hck.pos i hic
            rw [hrl] at h1 h2
            have h3 := congrFun hrt i
            simp
            refine hJ3.exit ?_
            simp [hic, hil, d.lim_at hil, e1, hrl, h1, h3, hoi.1, h2, Int.not_le.2 h1, Int.not_lt.2 hoi.1, Int.not_lt.2 h2]
            (repeat first | refine And.intro (by omega) ?_ | refine And.intro (Fits.of (by omega) (by omega)) ?_)
            exact hJ2.next (i + 1) (by omega) (by omega) (by simp) (by simp [hrl])
        · obtain rfl : i = d.n := by omega
          simp
          refine hJ2.exit ?_
          simp
          refine PCallK.intro (PInv.func law05_alive_ok) ?_
          simp
          exact RetV.refl rfl
  · simp [hv]
    refine FCall.pure (v := d.settleV []) (fun h => AInvoke.ale (args' := [d.v, L []]) (ALe.refl _) ⟨ALe.refl _, ALe.nils_L, trivial⟩ (PInv.func (first := []) (cap := []) (drive_Settle_ok d hd [] (by simp)) h)) ?_
    simp [Drv.settleV, hv]
    refine FCall.pure (v := d.runV [] []) (fun h => AInvoke.ale (args' := [d.v, L [], L []]) (ALe.refl _) ⟨ALe.refl _, ALe.nils_L, ALe.nils_L, trivial⟩ (PInv.func (first := []) (cap := []) (drive_Run_ok d hd [] [] (by simp) (by simp)) h)) ?_
    simp [Drv.runV, hv]
    refine PCallK.intro (PInv.func law05_alive_ok) ?_
    simp
    exact RetV.refl rfl
end Go.Cw
end

/- Blows that are given one after the other; plain reckoning. -/
section
set_option maxRecDepth 100000
set_option linter.unusedSimpArgs false
namespace Go.Cw
open Go Go.Proofs

/-- Nothing from n on. -/
def Zn (n : Nat) (c : Nat → Int) : Prop := ∀ j, n ≤ j → c j = 0
theorem Zn.eq {n : Nat} {c : Nat → Int} (h : Zn n c) : ofL (tab n c) = c := by
  funext j
  by_cases hj : j < n
  · rw [← ofL_at _ (by simpa using hj)]; simp
  · rw [ofL_none _ (by simp; omega), h j (by omega)]
theorem Zn.ofL {n : Nat} {l : List Int} (h : l.length = n) : Zn n (ofL l) := fun j hj => ofL_none l (by omega)

namespace Drv
variable {d : Drv}

theorem Seq.add {c c' : Nat → Int} {l : List Nat} (s : Seq d c l c') {e : Nat → Int} (he : ∀ j, 0 ≤ e j) : Seq d (fun j => c j + e j) l (fun j => c' j + e j) := by
  induction s with
  | nil => exact .nil
  | @cons c c' i l hi hc r ih =>
    refine .cons hi (by have := he i; omega) ?_
    have : d.fire i (fun j => c j + e j) = fun j => d.fire i c j + e j := by funext j; simp only [fire]; omega
    rw [this]; exact ih

theorem left_zn (hv : d.Valid) {c : Nat → Int} {m : Int} (hc : d.In m c) (hz : Zn d.n c) : Zn d.n (d.left c) := by
  obtain ⟨l, s, _, _⟩ := hc.rest hv
  intro j hj
  rw [s.out hv hj, hz j hj]

theorem rest_add (hv : d.Valid) {A B : Nat → Int} {m : Int} (hA : d.In m A) (hB : ∀ j, 0 ≤ B j) {m' : Int} (hAB : d.In m' fun j => A j + B j) (hL : d.In m' fun j => d.left A j + B j) :
    d.left (fun j => A j + B j) = d.left (fun j => d.left A j + B j) ∧ ∀ i, d.odo (fun j => A j + B j) i = d.odo A i + d.odo (fun j => d.left A j + B j) i := by
  obtain ⟨l1, s1, _, h1⟩ := hA.rest hv
  obtain ⟨l2, s2, st2, h2⟩ := hL.rest hv
  obtain ⟨h3, h4⟩ := ((s1.add hB).append s2).rest hv hAB st2
  exact ⟨h4.symm, fun i => by rw [← h3, times_append, h1, h2]⟩

theorem odo_le (hv : d.Valid) {c : Nat → Int} {m : Int} (hc : d.In m c) (i : Nat) : d.odo c i ≤ m := by
  obtain ⟨l, s, _, h⟩ := hc.rest hv
  have h1 := s.len hv
  have h2 := times_le_len l i
  have h3 := sum_nonneg (left_in hv hc).pos
  have h4 := hc.sum
  rw [h]; omega

theorem rest_still (hv : d.Valid) {c : Nat → Int} {m : Int} (hc : d.In m c) (hs : d.Stable c) : d.left c = c ∧ ∀ i, d.odo c i = 0 := by
  obtain ⟨h1, h2⟩ := (Seq.nil (d := d) (c := c)).rest hv hc hs
  exact ⟨h2.symm, fun i => by rw [← h1]; rfl⟩
end Drv

/-- Settle, of blows that are told by a function. -/
theorem settle_tab {d : Drv} (hv : d.Valid) {c : Nat → Int} (hz : Zn d.n c) (hc : ∀ j, j < d.n → 0 ≤ c j ∧ c j ≤ 52) : d.settleV (tab d.n c) = .tup [L (tab d.n (d.left c)), L (tab d.n (d.odo c)), .int .i64 0] := by
  have hB : d.Blows (tab d.n c) := ⟨by simp, fun x hx => by
    obtain ⟨i, hi, rfl⟩ := List.getElem_of_mem hx
    simp at hi ⊢
    exact hc i hi⟩
  unfold Drv.settleV
  rw [if_pos hv, if_pos hB, hz.eq]

section
variable {F n₀ : Nat} {inr : Bool} {keep : List Nat} {fa fl : List It} {t : Option Nat} {K : KT} {Q : Post} {tm : TM} {df : DF} {h : Heap}

theorem FCall.settle {d : Drv} (hd : d.Small) (hv : d.Valid) {c : Nat → Int} (hz : Zn d.n c) (hc : ∀ j, j < d.n → 0 ≤ c j ∧ c j ≤ 52)
    (k : K (putD tm t (.tup [L (tab d.n (d.left c)), L (tab d.n (d.odo c)), .int .i64 0])) df h) : FCall ⟨Pg, F, n₀, inr, keep⟩ (.func (.func fn_drive_Settle) [] []) [d.v, L (tab d.n c)] [] [] t K Q tm df h := by
  have := PInv.func (first := []) (cap := []) (args := [d.v, L (tab d.n c)]) (drive_Settle_ok d hd (tab d.n c) (by have := hv.n6; simp; omega))
  rw [settle_tab hv hz hc] at this
  exact FCall.pure this k

theorem FCall.settleR {d : Drv} (hd : d.Small) (hv : d.Valid) {c : Nat → Int} (hz : Zn d.n c) (hc : ∀ j, j < d.n → 0 ≤ c j ∧ c j ≤ 52) {r s : Nat} {cap : Cap} (hr : h r = .row (ints (tab d.n c)) s)
    (k : K (putD tm t (.tup [L (tab d.n (d.left c)), L (tab d.n (d.odo c)), .int .i64 0])) df (upd h r .dead)) : FCall ⟨Pg, F, n₀, inr, keep⟩ (.func (.func fn_drive_Settle) [] []) [d.v, .sl r 0 s d.n cap] [] [] t K Q tm df h := by
  have := PInv.func (first := []) (cap := []) (args := [d.v, L (tab d.n c)]) (drive_Settle_ok d hd (tab d.n c) (by have := hv.n6; simp; omega))
  rw [settle_tab hv hz hc] at this
  refine FCall.frz1 r hr ?_ trivial ⟨trivial, k⟩
  simpa [L] using this

theorem FCall.intsB {n : Nat} {a b : Nat → Int} (hn : n ≤ 100000) (k : K (putD tm t (.bool (decide (tab n a = tab n b)))) df h) : FCall ⟨Pg, F, n₀, inr, keep⟩ (.func (.func fn_law05_ints) [] []) [L (tab n a), L (tab n b)] [] [] t K Q tm df h :=
  FCall.pure (PInv.func (law05_ints_ok _ _ (by simpa using hn) (by simpa using hn))) k
end

theorem law05_DriveGiven_ok (d : Drv) (l : List Int) (hl : U16ok l) : APure Pg fn_law05_DriveGiven [d.v, U16 l] (.bool true) := by
  refine law05_DriveGiven.pure (by simp) ?_
  simp
  intro s
  refine FCall.long0 (by simp) trivial ?_
  cases hlg : longB d [] with
  | true =>
    simp
    refine PCallK.intro (PInv.func law05_alive_ok) ?_
    simp
    exact RetV.refl rfl
  | false =>
  obtain ⟨hd, _⟩ := longB_iff.1 hlg
  simp
  refine PCallK.intro (PInv.func (ref05_Drive_ok d hd)) ?_
  by_cases hv : ¬ d.Valid
  · simp [hv]
    refine PCallK.intro (PInv.func law05_alive_ok) ?_
    simp
    exact RetV.refl rfl
  replace hv := Classical.not_not.1 hv
  have hn1 := hv.n1
  have hn6 := hv.n6
  simp [hv]
  refine FCall.draws 300 (by simp) (by simp) fun s1 => ⟨by simp, ?_⟩
  simp
  refine FCall.made hd hv hl (k := 0) (by omega) (by omega) (by simp) (by simp) fun a o ha1 ha2 _ => ⟨by simp, ?_⟩
  simp
  refine FCall.made hd hv hl (k := 2 * d.n) (by omega) (by omega) (by simp) (by simp) fun b o' hb1 hb2 _ => ⟨by simp, ?_⟩
  have hA : ∀ j, 0 ≤ ofL a j ∧ ofL a j ≤ 20 := fun j => by
    by_cases hj : j < a.length
    · have := ha2 a[j] (by simp); rw [ofL_at _ hj] at this; exact this
    · rw [ofL_none _ (by omega)]; omega
  have hB : ∀ j, 0 ≤ ofL b j ∧ ofL b j ≤ 20 := fun j => by
    by_cases hj : j < b.length
    · have := hb2 b[j] (by simp); rw [ofL_at _ hj] at this; exact this
    · rw [ofL_none _ (by omega)]; omega
  have hzA := Zn.ofL ha1
  have hzB := Zn.ofL hb1
  have hea : a = tab d.n (ofL a) := by rw [← ha1, ofL_tab]
  have heb : b = tab d.n (ofL b) := by rw [← hb1, ofL_tab]
  generalize ofL a = A at *
  generalize ofL b = B at *
  subst hea
  subst heb
  simp
  intro s2
  refine ⟨by omega, ?_⟩
  refine Lp.intro (σ := Nat) (inv := fun i => i ≤ d.n)
    (vw := fun i => [(2, .ptr 2 0 (s+1)), (6, L (tab d.n A)), (8, L (tab d.n B)), (10, .sl 51 0 (s2+1) d.n (.ex d.n)), (53, .int .i64 d.n), (54, .int .i64 i)])
    (hp := fun i => [(2, .row d.cells (s+1)), (51, .row (ints (tab d.n fun j => if j < i then A j + B j else 0)) (s2+1))]) (ms := fun i => d.n - i) 0 (by omega) (by simp) ?_ ?_
  · simp
    rw [ints_replicate]
    simp
    apply List.ext_getElem?
    intro j
    rw [tab_get, List.getElem?_replicate]
  · intro i hi J hJ
    by_cases hic : i < d.n
    · have h1 := hA i
      have h2 := hB i
      simp [hic]
      (repeat first | refine And.intro (by omega) ?_ | refine And.intro (Fits.of (by omega) (by omega)) ?_)
      refine hJ.next (i + 1) (by omega) (by omega) (by simp) ?_
      simp
      refine tab_ext fun j hj => ?_
      by_cases hji : j = i
      · subst hji
        rw [upd_same, if_pos (Nat.lt_succ_self j)]
      · rw [upd_ne _ _ hji]
        simp only [show (j < i + 1) = (j < i) from propext (by omega)]
    · obtain rfl : i = d.n := by omega
      have hAm : d.In 120 A := Drv.In.of_le hv (m := 20) (fun j _ => hA j) (by omega)
      have hlA := Drv.left_in hv hAm
      have hstA := Drv.left_stable hv hAm
      have hlz := Drv.left_zn hv hAm hzA
      have hlA' : ∀ j, j < d.n → 0 ≤ d.left A j ∧ d.left A j ≤ 5 := fun j hj => ⟨hlA.pos j hj, by have := hstA j hj; have := (hv.lim_pos hj).2.1; omega⟩
      have hAB : d.In 240 fun j => A j + B j := Drv.In.of_le hv (m := 40) (fun j _ => by have := hA j; have := hB j; omega) (by omega)
      have hLB : d.In 240 fun j => d.left A j + B j := Drv.In.of_le hv (m := 40) (fun j hj => by have := hlA' j hj; have := hB j; omega) (by omega)
      obtain ⟨hadd1, hadd2⟩ := Drv.rest_add hv hAm (fun j => (hB j).1) hAB hLB
      obtain ⟨hst1, hst2⟩ := Drv.rest_still hv hlA hstA
      have heq : (tab d.n fun j => if j < d.n then A j + B j else 0) = tab d.n fun j => A j + B j := tab_ext fun j hj => if_pos hj
      simp [heq]
      refine hJ.exit ?_
      simp
      refine FCall.settleR hd hv (c := fun j => A j + B j) (fun j hj => by show A j + B j = 0; rw [hzA j hj, hzB j hj]; rfl) (fun j _ => by have := hA j; have := hB j; omega) (by simp) ?_
      simp
      refine FCall.settle hd hv hzA (fun j _ => by have := hA j; omega) ?_
      simp
      intro s3
      refine ⟨by omega, ?_⟩
      refine Lp.intro (σ := Nat) (inv := fun i => i ≤ d.n)
        (vw := fun i => [(2, .ptr 2 0 (s+1)), (6, L (tab d.n A)), (8, L (tab d.n B)), (12, L (tab d.n (d.left fun j => A j + B j))), (13, L (tab d.n (d.odo fun j => A j + B j))), (15, L (tab d.n (d.left A))), (16, L (tab d.n (d.odo A))), (18, .sl 120 0 (s3+1) d.n (.ex d.n)), (122, .int .i64 d.n), (123, .int .i64 i)])
        (hp := fun i => [(2, .row d.cells (s+1)), (120, .row (ints (tab d.n fun j => if j < i then d.left A j + B j else 0)) (s3+1))]) (ms := fun i => d.n - i) 0 (by omega) (by simp) ?_ ?_
      · simp
        rw [ints_replicate]
        simp
        apply List.ext_getElem?
        intro j
        rw [tab_get, List.getElem?_replicate]
      · intro i hi J2 hJ2
        by_cases hic : i < d.n
        · have h1 := hlA' i hic
          have h2 := hB i
          simp [hic]
          (repeat first | refine And.intro (by omega) ?_ | refine And.intro (Fits.of (by omega) (by omega)) ?_)
          refine hJ2.next (i + 1) (by omega) (by omega) (by simp) ?_
          simp
          refine tab_ext fun j hj => ?_
          by_cases hji : j = i
          · subst hji
            rw [upd_same, if_pos (Nat.lt_succ_self j)]
          · rw [upd_ne _ _ hji]
            simp only [show (j < i + 1) = (j < i) from propext (by omega)]
        · obtain rfl : i = d.n := by omega
          have heq : (tab d.n fun j => if j < d.n then d.left A j + B j else 0) = tab d.n fun j => d.left A j + B j := tab_ext fun j hj => if_pos hj
          simp [heq]
          refine hJ2.exit ?_
          simp
          refine FCall.settleR hd hv (c := fun j => d.left A j + B j) (fun j hj => by show d.left A j + B j = 0; rw [hlz j hj, hzB j hj]; rfl) (fun j hj => by have := hlA' j hj; have := hB j; omega) (by simp) ?_
          simp
          refine FCall.settle hd hv hlz (fun j hj => by have := hlA' j hj; omega) ?_
          simp
          refine FCall.intsB (by omega) ?_
          rw [hadd1, hst1]
          simp
          refine FCall.intsB (by omega) ?_
          simp
          refine Lp.intro (σ := Nat) (inv := fun i => i ≤ d.n)
            (vw := fun i => [(13, L (tab d.n (d.odo fun j => A j + B j))), (16, L (tab d.n (d.odo A))), (21, L (tab d.n (d.odo fun j => d.left A j + B j))), (24, L (tab d.n (d.odo (d.left A)))), (186, .int .i64 d.n), (187, .int .i64 i)])
            (hp := fun i => []) (ms := fun i => d.n - i) 0 (by omega) (by simp) (by simp) ?_
          intro i hi J3 hJ3
          by_cases hic : i < d.n
          · have h1 := hadd2 i
            have h2 := hst2 i
            have h3 := Drv.odo_nonneg hv hAm i
            have h4 := Drv.odo_nonneg hv hLB i
            have h5 := Drv.odo_le hv hAm i
            have h6 := Drv.odo_le hv hLB i
            have h7 : ¬ (d.odo (fun j => A j + B j) i < d.odo A i) := by omega
            simp [hic, ← h1, h2, h7]
            (repeat first | refine And.intro (by omega) ?_ | refine And.intro (Fits.of (by omega) (by omega)) ?_)
            exact hJ3.next (i + 1) (by omega) (by omega) (by simp) (by simp)
          · obtain rfl : i = d.n := by omega
            simp
            refine hJ3.exit ?_
            simp
            refine PCallK.intro (PInv.func law05_alive_ok) ?_
            simp
            exact RetV.refl rfl
end Go.Cw
end

/- Sets as numbers: whether a seam is in one. -/
section
set_option maxRecDepth 100000
set_option linter.unusedSimpArgs false
namespace Go.Cw
open Go Go.Proofs

theorem bitI_and (a b : Nat) (ha : a < 2 ^ 62) (hb : b < 2 ^ 62) : bitI .and .i64 a b = (a &&& b : Nat) := by
  have h : a &&& b < 2 ^ 62 := Nat.lt_of_le_of_lt Nat.and_le_left ha
  unfold bitI
  simp only [BitVec.ofInt_natCast, BitVec.toNat_and, BitVec.toNat_ofNat]
  rw [show IntKind.i64.bits = 64 from rfl, Nat.mod_eq_of_lt (by omega), Nat.mod_eq_of_lt (by omega)]
  show IntKind.i64.wrap (((a &&& b : Nat)) : Int) = _
  have h2 : ((a &&& b : Nat) : Int) < 2 ^ 62 := by exact_mod_cast h
  simp [IntKind.wrap, IntKind.signed, IntKind.bits]
  omega

theorem bitI_and1 {a : Int} (h0 : 0 ≤ a) (h1 : a < 2 ^ 62) : bitI .and .i64 a 1 = a % 2 := by
  obtain ⟨n, rfl⟩ := Int.eq_ofNat_of_zero_le h0
  have hn : n < 2 ^ 62 := by exact_mod_cast h1
  have := bitI_and n 1 hn (by omega)
  rw [Nat.and_one_is_mod] at this
  rw [show (1 : Int) = ((1 : Nat) : Int) from rfl, this]
  omega

theorem bits_at (p : Nat → Bool) : ∀ (n i : Nat), i < n → bits p n / 2 ^ i % 2 = if p i then 1 else 0 := by
  intro n
  induction n with
  | zero => intro i hi; omega
  | succ n ih =>
    intro i hi
    have hb := bits_lt p n
    have hp := two_pow_pos i
    by_cases h : i = n
    · subst h
      simp only [bits]
      cases p i
      · rw [if_neg (by simp), Int.add_zero, Int.ediv_eq_zero_of_lt hb.1 hb.2]; rfl
      · rw [if_pos rfl, Int.add_ediv_of_dvd_right ⟨1, by omega⟩, Int.ediv_eq_zero_of_lt hb.1 hb.2, Int.ediv_self (by omega)]; rfl
    · have hin : i < n := by omega
      rw [← ih i hin]
      simp only [bits]
      cases p n
      · simp
      · obtain ⟨m, rfl⟩ : ∃ m, n = i + 1 + m := ⟨n - i - 1, by omega⟩
        have e : (2 : Int) ^ (i + 1 + m) = 2 ^ i * (2 * 2 ^ m) := by rw [Int.pow_add, Int.pow_succ, Int.mul_assoc]
        rw [if_pos rfl, e, Int.add_mul_ediv_left _ _ (by omega)]
        omega

theorem bits_and1 (p : Nat → Bool) {n i : Nat} (hn : n ≤ 60) (hi : i < n) : bitI .and .i64 (bits p n / 2 ^ i) 1 = if p i then 1 else 0 := by
  have hb := bits_lt p n
  have h2 := two_pow_le hn
  have hp := two_pow_pos i
  rw [bitI_and1 (Int.ediv_nonneg hb.1 (by omega)), bits_at p n i hi]
  have := Int.ediv_le_self (2 ^ i) hb.1
  have : (2 : Int) ^ 60 < 2 ^ 62 := by decide
  omega
end Go.Cw
end

/- DriveTrue. -/
section
set_option maxRecDepth 100000
set_option linter.unusedSimpArgs false
namespace Go.Cw
open Go Go.Proofs

theorem Drv.left_span {d : Drv} (hv : d.Valid) {l : List Int} (h : l ∈ d.truths) (i : Nat) : (spanOf (d.leftL i)).1 ≤ d.left (ofL l) i ∧ d.left (ofL l) i ≤ (spanOf (d.leftL i)).2 := by
  have hne : d.leftL i ≠ [] := by unfold Drv.leftL; simpa using hv.truths_ne
  exact (spanOf_mem hne).2.2 _ (List.mem_map.2 ⟨l, h, rfl⟩)

theorem Drv.left_span_in {d : Drv} (hv : d.Valid) {i : Nat} (hi : i < d.n) : 0 ≤ (spanOf (d.leftL i)).1 ∧ (spanOf (d.leftL i)).1 ≤ (spanOf (d.leftL i)).2 ∧ (spanOf (d.leftL i)).2 < d.lim i := by
  have hne : d.leftL i ≠ [] := by unfold Drv.leftL; simpa using hv.truths_ne
  obtain ⟨h1, h2, h3⟩ := spanOf_mem hne
  obtain ⟨l1, k1, e1⟩ := List.mem_map.1 h1
  obtain ⟨l2, k2, e2⟩ := List.mem_map.1 h2
  have i1 := Drv.left_in hv (hv.truth_in k1)
  have i2 := Drv.left_stable hv (hv.truth_in k2)
  have := i1.pos i hi
  have := i2 i hi
  have := h3 _ h2
  exact ⟨by omega, this.1, by omega⟩

theorem Drv.times_in {d : Drv} (hv : d.Valid) {l : List Int} (h : l ∈ d.truths) (i : Nat) : d.odo d.lo i ≤ d.odo (ofL l) i ∧ d.odo (ofL l) i ≤ d.odo d.hi i := by
  have ht := (hv.truth h).2
  exact ⟨Drv.odo_mono hv hv.lo_in (hv.truth_in h) (fun j hj => (ht j hj).1.1) i, Drv.odo_mono hv (hv.truth_in h) hv.hi_in (fun j hj => (ht j hj).1.2) i⟩

theorem Drv.lo_zn {d : Drv} (hv : d.Valid) : Zn d.n d.lo := fun j hj => by
  have : d.blows.length ≤ j := by rw [hv.bl]; exact hj
  simp [Drv.lo, this]

theorem plus_zn {n : Nat} {c : Nat → Int} (h : Zn n c) {i : Nat} (hi : i < n) (x : Int) : Zn n (plus c i x) := fun j hj => by
  unfold plus
  rw [upd_ne _ _ (by omega), h j hj]

theorem Drv.timesV_at {d : Drv} (hv : d.Valid) {i : Nat} (hi : i < d.n) : d.timesV (i : Nat) = .tup [SP2 (d.odo d.lo i, d.odo d.hi i), .int .i64 0] := by
  unfold Drv.timesV; rw [if_pos hv, if_pos ⟨by omega, by omega⟩]; simp [Drv.times_span hv]
theorem Drv.leftV_at {d : Drv} (hv : d.Valid) {i : Nat} (hi : i < d.n) : d.leftV (i : Nat) = .tup [SP2 (spanOf (d.leftL i)), .int .i64 0] := by
  unfold Drv.leftV; rw [if_pos hv, if_pos ⟨by omega, by omega⟩]; simp

/-- What Push tells of seams. -/
theorem Drv.pushV_at {d : Drv} (hv : d.Valid) {a b : Nat} (ha : a < d.n) (hb : b < d.n) : d.pushV a b = .tup [.int .i64 0, .int .i64 4] ∨
    ∃ k : Nat, k ≤ 40 ∧ d.pushV a b = .tup [.int .i64 k, .int .i64 0] ∧ d.PushAll a b k ∧ ∀ j, j < k → ¬ d.PushAll a b j := by
  unfold Drv.pushV
  rw [if_pos hv, if_pos ⟨⟨by omega, by omega⟩, ⟨by omega, by omega⟩⟩]
  simp only [Int.toNat_natCast]
  cases h : (List.range 41).find? fun k => decide (d.PushAll a b k) with
  | none => exact .inl rfl
  | some k =>
    rw [List.find?_range_eq_some] at h
    obtain ⟨h1, h2, h3⟩ := h
    refine .inr ⟨k, by simp at h2; omega, rfl, by simpa using h1, fun j hj => by simpa using h3 j hj⟩

theorem tab_succ (n : Nat) (c : Nat → Int) : tab (n + 1) c = tab n c ++ [c n] := by simp [tab, List.range_succ]

theorem plus_zero (c : Nat → Int) (i : Nat) : plus c i 0 = c := by
  funext j
  unfold plus upd
  split
  · rename_i h; subst h; omega
  · rfl

theorem law05_DriveTrue_ok (d : Drv) (l : List Int) (hl : U16ok l) : APure Pg fn_law05_DriveTrue [d.v, U16 l] (.bool true) := by
  refine law05_DriveTrue.pure (by simp) ?_
  simp
  intro s
  refine FCall.long0 (by simp) trivial ?_
  cases hlg : longB d [] with
  | true =>
    simp
    refine PCallK.intro (PInv.func law05_alive_ok) ?_
    simp
    exact RetV.refl rfl
  | false =>
  obtain ⟨hd, _⟩ := longB_iff.1 hlg
  simp
  refine PCallK.intro (PInv.func (ref05_Drive_ok d hd)) ?_
  by_cases hv : ¬ d.Valid
  · simp [hv]
    refine PCallK.intro (PInv.func law05_alive_ok) ?_
    simp
    exact RetV.refl rfl
  replace hv := Classical.not_not.1 hv
  have hn1 := hv.n1
  have hn6 := hv.n6
  simp [hv]
  refine FCall.draws 300 (by simp) (by simp) fun s1 => ⟨by simp, ?_⟩
  simp
  refine FCall.truth hd hv hl (k := 0) (by omega) (by simp) (by simp) fun g hg => ⟨by simp, ?_⟩
  obtain ⟨hgl, hgt⟩ := hv.truth hg
  have hgz := Zn.ofL hgl
  have hge : g = tab d.n (ofL g) := by rw [← hgl, ofL_tab]
  obtain ⟨C, hC⟩ : ∃ C, C = ofL g := ⟨_, rfl⟩
  rw [← hC] at hge hgz hgt
  have hin : d.In 72 C := by rw [hC]; exact hv.truth_in hg
  have hspan : ∀ i, _ := fun i => Drv.left_span hv hg i
  have htim : ∀ i, _ := fun i => Drv.times_in hv hg i
  rw [← hC] at hspan htim
  have hgg := hg
  rw [hge]
  simp
  refine FCall.settle hd hv hgz (fun j hj => by have := (hgt j hj).2; omega) ?_
  simp
  refine PCallK.intro (PInv.func (drive_Opens_ok d hd)) ?_
  simp [Drv.opensV, hv]
  refine Lp.intro (σ := Nat) (inv := fun i => i ≤ d.n)
    (vw := fun i => [(2, .ptr 2 0 (s+1)), (5, drawV 300 s1 l), (6, L (tab d.n C)), (7, L (tab d.n (d.left C))), (8, L (tab d.n (d.odo C))), (10, .int .i64 (bits d.canP d.n)), (11, .int .i64 (bits d.sureP d.n)), (79, .int .i64 d.n), (80, .int .i64 i)])
    (hp := fun i => [(2, .row d.cells (s+1)), (300, .row [.int .i64 d.n] s1)]) (ms := fun i => d.n - i) 0 (by omega) (by simp) (by simp) ?_
  intro i hi J hJ
  by_cases hic : i < d.n
  · have hil : i < d.limits.length := hic
    have h1 := hspan i
    have h2 := htim i
    have h3 := Drv.left_span_in hv hic
    have h4 := Drv.odo_nonneg hv hv.lo_in i
    have hcan := bits_and1 d.canP (show d.n ≤ 60 by omega) hic
    have hsure := bits_and1 d.sureP (show d.n ≤ 60 by omega) hic
    have hts := Drv.times_span hv i
    simp [hic]
    refine PCallK.intro (v := d.timesV (i : Nat)) (PInv.func (drive_Times_ok d hd i)) ?_
    rw [Drv.timesV_at hv hic]
    simp [SP2]
    intro s2
    refine PCallK.intro (v := d.leftV (i : Nat)) (PInv.func (drive_Left_ok d hd i)) ?_
    rw [Drv.leftV_at hv hic]
    simp [SP2]
    intro s3
    refine ⟨hic, ?_⟩
    simp [hic]
    refine PCallK.intro (PInv.func (law05_inside_ok (d.odo C i) (d.odo d.lo i, d.odo d.hi i))) ?_
    simp [h2, hic]
    refine PCallK.intro (PInv.func (law05_inside_ok (d.left C i) (spanOf (d.leftL i)))) ?_
    simp [h1, hic, hil, d.lim_at hil, Int.not_lt.2 h4, Int.not_lt.2 h3.1, Int.not_le.2 h3.2.2, hcan, hsure, Drv.canP, Drv.sureP, hts]
    (repeat first | refine And.intro (by omega) ?_ | refine And.intro (Fits.of (by omega) (by omega)) ?_)
    exact hJ.next (i + 1) (by omega) (by omega) (by simp) (by simp)
  · obtain rfl : i = d.n := by omega
    simp
    refine hJ.exit ?_
    simp
    refine FCall.draw hl (n := d.n) (by omega) (k := d.n) (by omega) (by simp) (by simp) fun a ha => ⟨trivial, ?_⟩
    simp
    refine FCall.draw hl (n := d.n) (by omega) (k := d.n + 1) (by omega) (by simp) (by simp) fun b hb => ⟨trivial, ?_⟩
    have ha' : a < d.n := by omega
    have hb' : b < d.n := by omega
    simp
    refine PCallK.intro (v := d.pushV a b) (PInv.func (drive_Push_ok d hd a b)) ?_
    rcases Drv.pushV_at hv ha' hb' with hp | ⟨k, hk, hp, hpa, hpn⟩
    · rw [hp]
      simp
      refine PCallK.intro (PInv.func law05_alive_ok) ?_
      simp
      exact RetV.refl rfl
    rw [hp]
    have hsure := bits_and1 d.sureP (show d.n ≤ 60 by omega) hb'
    have hts := Drv.times_span hv b
    have hpa' := (Drv.push_all hv a b k).1 hpa
    have hk0 : decide (k = 0) = decide (0 < d.odo d.lo b) := by
      rw [decide_eq_decide]
      constructor
      · rintro rfl
        simpa [plus_zero] using hpa'
      · intro h
        refine Classical.byContradiction fun hk => hpn 0 (by omega) ?_
        rw [Drv.push_all hv]
        simpa [plus_zero] using h
    simp [show ¬ (k : Int) < 0 by omega, show ¬ (40 : Int) < k by omega, hsure, Drv.sureP, hts, hk0]
    refine ⟨by omega, fun s2 s3 => ?_⟩
    have hCa := (hgt a ha').2
    simp [xAp_ne (show d.n ≠ 0 by omega), show d.n ≠ 0 by omega, show ¬ d.n ≤ 0 by omega, ha']
    refine ⟨by omega, fun _ => ?_⟩
    (repeat first | refine And.intro (by omega) ?_ | refine And.intro (Fits.of (by omega) (by omega)) ?_)
    have hpin := Drv.plus_in hv (c := C) (m := 12) (fun j hj => (hgt j hj).2) (by omega) a (x := k) (by omega)
    have hpos := hpa g hgg
    rw [← hC] at hpos
    refine FCall.settleR hd hv (c := plus C a k) (plus_zn hgz ha' k) (fun j hj => ?_) (by simp [plus]) ?_
    · have := (hgt j hj).2
      unfold plus upd
      split
      · omega
      · omega
    simp [hb', show ¬ d.odo (plus C a k) b < 1 by omega]
    by_cases hk1 : k = 0
    · simp [hk1]
      refine PCallK.intro (PInv.func law05_alive_ok) ?_
      simp
      exact RetV.refl rfl
    have hbl := hv.bl
    have hla := hv.lohi a
    simp [hk1]
    refine Lp.intro' (σ := Nat × Nat) (inv := fun x => x.1 ≤ d.n)
      (vw := fun x => [(2, .ptr 2 0 (s+1)), (18, .int .i64 a), (19, .int .i64 b), (20, .int .i64 k), (26, gS 1 244 x.1 x.2), (234, LP d.blows), (235, .int .i64 d.n), (236, .int .i64 x.1)])
      (hp := fun x => [(2, .row d.cells (s+1)), (244, gO x.1 (ints (tab x.1 d.lo)) x.2)]) (ms := fun x => d.n - x.1) (0, 0) (by simp) (Sl.wk 26 .es (by simpa using ALe.nils_es) (Sl.refl ⟨rfl, by simp [hbl], by simp⟩)) ?_
    rintro ⟨i, st⟩ hi J2 hJ2
    simp at hi
    by_cases hic : i < d.n
    · have hcb : i < d.blows.length := by omega
      have elo : d.blows[i].1 = d.lo i := by simp [Drv.lo, hcb]
      simp [hic, hcb, elo]
      refine ⟨by omega, fun s4 s5 s6 => ?_⟩
      refine xApN_gS (cells := ints (tab i d.lo)) (by simp) (by simp) (by omega) (by omega) ?_
      simp
      (repeat first | refine And.intro (by omega) ?_ | refine And.intro (Fits.of (by omega) (by omega)) ?_)
      exact hJ2.next (i + 1, s6 + 1) (by simp; omega) (by simp; omega) (by simp) (by simp [tab_succ])
    · obtain rfl : i = d.n := by omega
      have hnp : ¬ 0 < d.odo (plus d.lo a (k - 1 : Int)) b := by
        have := hpn (k - 1) (by omega)
        rw [Drv.push_all hv] at this
        rwa [show ((k - 1 : Nat) : Int) = (k : Int) - 1 by omega] at this
      have hlin := Drv.plus_in hv (c := d.lo) (m := 12) (fun j _ => by have := hv.lohi j; omega) (by omega) a (x := (k : Int) - 1) (by omega)
      have hnn := Drv.odo_nonneg hv hlin b
      simp [gS_pos hn1, gO_pos hn1]
      refine hJ2.exit ?_
      simp [ha', gS_pos hn1, gO_pos hn1]
      (repeat first | refine And.intro (by omega) ?_ | refine And.intro (Fits.of (by omega) (by omega)) ?_)
      refine FCall.settleR hd hv (c := plus d.lo a (k - 1 : Int)) (plus_zn (Drv.lo_zn hv) ha' _) (fun j hj => ?_) (by simp [plus]) ?_
      · have := hv.lohi j
        unfold plus upd
        split
        · omega
        · omega
      simp [hb', show d.odo (plus d.lo a (k - 1 : Int)) b = 0 by omega]
      refine PCallK.intro (PInv.func law05_alive_ok) ?_
      simp
      exact RetV.refl rfl
end Go.Cw
end
