/-
  The laws Ends and More; how their arguments are read.
-/
import Derived.Test.YtfdkhgegijiceaaDc
import Derived.Test.YtfdkhgegijiceaaDb
set_option linter.unusedVariables false
set_option linter.unusedSimpArgs false
set_option linter.unusedSectionVars false

/- DriveEnds. -/
section
set_option maxRecDepth 100000
set_option linter.unusedSimpArgs false
namespace Go.Cw
open Go Go.Proofs

namespace Drv
/-- The same seams: what opens is the same. -/
theorem Runs.same {d e : Drv} (hl : e.limits = d.limits) (hb : e.beside = d.beside) {order : List Nat} {c c' : Nat → Int} {all : List Nat} (r : d.Runs order c all c') : e.Runs order c all c' := by
  have el : ∀ i, e.lim i = d.lim i := fun i => by unfold lim; rw [hl]
  have ec : ∀ i j, e.cnt i j = d.cnt i j := fun i j => by unfold cnt; rw [hb]
  have ef : ∀ i c, e.fire i c = d.fire i c := fun i c => by funext j; unfold fire; rw [el, ec]
  have eo : ∀ c, e.firstCan order c = d.firstCan order c := fun c => by unfold firstCan; simp only [el]
  induction r with
  | stop h => exact .stop (by rw [eo]; exact h)
  | step h r ih => exact .step (by rw [eo]; exact h) (by rw [ef]; exact ih)

theorem rest_same {d e : Drv} (hv : d.Valid) (hl : e.limits = d.limits) (hb : e.beside = d.beside) {c : Nat → Int} {m : Int} (hc : d.In m c) : e.left c = d.left c ∧ e.odo c = d.odo c := by
  have hn : e.n = d.n := by unfold n; rw [hl]
  have r := hc.runs hv (order := List.range d.n) (by simp)
  have r' := Runs.eq (Runs.same hl hb r)
  unfold left odo
  rw [hn, r']
  exact ⟨rfl, rfl⟩

/-- All blows as many as there can be. -/
def top (d : Drv) : Drv := ⟨d.limits, d.beside, d.blows.map fun s => (s.2, s.2)⟩

theorem top_valid {d : Drv} (hv : d.Valid) : d.top.Valid := by
  refine ⟨hv.n1, hv.n6, by have := hv.bl; simp only [top, List.length_map]; exact this, hv.pr, fun i l s hl hs => ?_⟩
  simp only [top, List.getElem?_map, Option.map_eq_some_iff] at hs
  obtain ⟨s', hs', rfl⟩ := hs
  obtain ⟨h1, h2, h3, h4, h5, h6, h7⟩ := hv.sm i l s' hl hs'
  exact ⟨h1, h2, h3, by simp; omega, by simp, h6, by simp⟩

theorem top_small {d : Drv} (hd : d.Small) : d.top.Small := ⟨hd.l, hd.p, by simpa [top] using hd.b⟩

theorem top_hi (d : Drv) : d.top.hi = d.hi ∧ d.top.lo = d.hi := by
  constructor <;> funext i <;> simp only [Drv.hi, Drv.lo, top, List.getD_eq_getElem?_getD, List.getElem?_map] <;> cases d.blows[i]? <;> rfl

theorem top_left {d : Drv} (hv : d.Valid) (i : Nat) : spanOf (d.top.leftL i) = (d.left d.hi i, d.left d.hi i) := by
  have ht := top_valid hv
  have e1 : ∀ l ∈ d.top.truths, ofL l = d.hi := fun l hl => by
    obtain ⟨h1, h2⟩ := ht.truth hl
    funext j
    by_cases hj : j < d.n
    · have := (h2 j hj).1
      rw [(top_hi d).1, (top_hi d).2] at this
      omega
    · rw [ofL_none l (by rw [h1]; exact Nat.le_of_not_lt hj)]
      have : d.blows.length ≤ j := by rw [hv.bl]; omega
      simp [Drv.hi, this]
  have hr := (rest_same (e := d.top) hv rfl rfl hv.hi_in).1
  have hm : ∀ x ∈ d.top.leftL i, x = d.left d.hi i := fun x hx => by
    obtain ⟨l, hl, rfl⟩ := List.mem_map.1 hx
    rw [e1 l hl, hr]
  have hne : d.top.leftL i ≠ [] := by unfold Drv.leftL; simpa using ht.truths_ne
  obtain ⟨h1, h2, _⟩ := spanOf_mem hne
  exact Prod.ext (hm _ h1) (hm _ h2)

/-- What is found of truths. -/
noncomputable def fnd (d : Drv) (i k : Nat) : List Bool :=
  [(d.truths.take k).any fun l => decide (d.odo (ofL l) i = d.odo d.lo i), (d.truths.take k).any fun l => decide (d.odo (ofL l) i = d.odo d.hi i),
   (d.truths.take k).any fun l => decide (d.left (ofL l) i = (spanOf (d.leftL i)).1), (d.truths.take k).any fun l => decide (d.left (ofL l) i = (spanOf (d.leftL i)).2)]

theorem fnd_all {d : Drv} (hv : d.Valid) (i : Nat) : d.fnd i d.truths.length = [true, true, true, true] := by
  have hne : d.leftL i ≠ [] := by unfold Drv.leftL; simpa using hv.truths_ne
  obtain ⟨h1, h2, _⟩ := spanOf_mem hne
  obtain ⟨l1, k1, e1⟩ := List.mem_map.1 h1
  obtain ⟨l2, k2, e2⟩ := List.mem_map.1 h2
  have a1 : (d.truths.any fun l => decide (d.odo (ofL l) i = d.odo d.lo i)) = true := List.any_eq_true.2 ⟨_, lo_mem hv, by rw [ofL_lo hv]; simp⟩
  have a2 : (d.truths.any fun l => decide (d.odo (ofL l) i = d.odo d.hi i)) = true := List.any_eq_true.2 ⟨_, hi_mem hv, by rw [ofL_hi hv]; simp⟩
  have a3 : (d.truths.any fun l => decide (d.left (ofL l) i = (spanOf (d.leftL i)).1)) = true := List.any_eq_true.2 ⟨l1, k1, by simpa using e1⟩
  have a4 : (d.truths.any fun l => decide (d.left (ofL l) i = (spanOf (d.leftL i)).2)) = true := List.any_eq_true.2 ⟨l2, k2, by simpa using e2⟩
  unfold fnd
  rw [List.take_length, a1, a2, a3, a4]
end Drv

theorem law05_DriveEnds_ok (d : Drv) (w : Int) (hw : 0 ≤ w ∧ w ≤ 255) : APure Pg fn_law05_DriveEnds [d.v, .int .u8 w] (.bool true) := by
  refine law05_DriveEnds.pure (by simp) ?_
  simp
  intro s
  refine FCall.long0 (by simp) trivial ?_
  cases hlg : longB d [] with
  | true =>
    simp
    refine PCallK.intro (PInv.func law05_alive_ok) ?_
    simp
    exact RetV.refl rfl
  | false =>
  obtain ⟨hd, _⟩ := longB_iff.1 hlg
  simp
  refine PCallK.intro (PInv.func (ref05_Drive_ok d hd)) ?_
  by_cases hv : ¬ d.Valid
  · simp [hv]
    refine PCallK.intro (PInv.func law05_alive_ok) ?_
    simp
    exact RetV.refl rfl
  replace hv := Classical.not_not.1 hv
  have hn1 := hv.n1
  have hn6 := hv.n6
  have hln : d.limits.length = d.n := rfl
  have h1 := Int.tmod_nonneg (a := w) (d.n : Int) hw.1
  have h2 := Int.tmod_lt_of_pos w (show (0 : Int) < d.n by omega)
  obtain ⟨i, hi⟩ := Int.eq_ofNat_of_zero_le h1
  have hic : i < d.n := by omega
  simp [hv]
  (repeat first | refine And.intro (by omega) ?_ | refine And.intro (Fits.of (by omega) (by omega)) ?_)
  have hlne : ¬ d.limits = [] := fun h => by rw [h] at hln; simp at hln; omega
  simp [hln, hi, show d.n ≠ 0 by omega, hlne]
  refine PCallK.intro (v := d.timesV (i : Nat)) (PInv.func (drive_Times_ok d hd i)) ?_
  rw [Drv.timesV_at hv hic]
  simp [SP2]
  intro s2
  refine PCallK.intro (v := d.leftV (i : Nat)) (PInv.func (drive_Left_ok d hd i)) ?_
  rw [Drv.leftV_at hv hic]
  simp [SP2]
  intro s3 s4
  refine PCallK.intro (PInv.func (ref05_Truths_ok d hd hv)) ?_
  have htl := hv.truths_len
  have hfn : d.fnd i 0 = [false, false, false, false] := rfl
  simp
  refine Lp.intro (σ := Nat) (inv := fun k => k ≤ d.truths.length)
    (vw := fun k => [(2, .ptr 2 0 (s+1)), (5, .int .i64 i), (6, .ptr 6 0 (s2+1)), (8, .ptr 8 0 (s3+1)), (10, .ptr 10 0 (s4+1)), (58, LLv d.truths), (59, .int .i64 d.truths.length), (60, .int .i64 k)])
    (hp := fun k => [(2, .row d.cells (s+1)), (6, .row (ints [d.odo d.lo i, d.odo d.hi i]) (s2+1)), (8, .row (ints [(spanOf (d.leftL i)).1, (spanOf (d.leftL i)).2]) (s3+1)), (10, .row ((d.fnd i k).map .bool) (s4+1))])
    (ms := fun k => d.truths.length - k) 0 (by omega) (by simp) (by simp [hfn]) ?_
  intro k hk J hJ
  by_cases hkc : k < d.truths.length
  · have hg : d.truths[k] ∈ d.truths := List.getElem_mem hkc
    obtain ⟨hgl, hgt⟩ := hv.truth hg
    have hgz := Zn.ofL hgl
    have hge : d.truths[k] = tab d.n (ofL d.truths[k]) := by rw [← hgl, ofL_tab]
    have hL := Drv.left_span hv hg i
    have hT := Drv.times_in hv hg i
    have hstep : ∃ p0 p1 p2 p3 : Bool, d.fnd i k = [p0, p1, p2, p3] ∧ d.fnd i (k + 1) = [p0 || decide (d.odo (ofL d.truths[k]) i = d.odo d.lo i), p1 || decide (d.odo (ofL d.truths[k]) i = d.odo d.hi i),
        p2 || decide (d.left (ofL d.truths[k]) i = (spanOf (d.leftL i)).1), p3 || decide (d.left (ofL d.truths[k]) i = (spanOf (d.leftL i)).2)] := by
      refine ⟨_, _, _, _, rfl, ?_⟩
      unfold Drv.fnd
      rw [← List.take_append_getElem hkc]
      simp only [List.any_append, List.any_cons, List.any_nil, Bool.or_false]
    obtain ⟨p0, p1, p2, p3, hp, hp'⟩ := hstep
    simp [hkc, hp]
    rw [hge]
    generalize ofL d.truths[k] = C at *
    refine FCall.settle hd hv hgz (fun j hj => by have := (hgt j hj).2; omega) ?_
    simp [hic]
    refine PCallK.intro (PInv.func (law05_inside_ok (d.odo C i) (d.odo d.lo i, d.odo d.hi i))) ?_
    simp [hT, hic]
    refine PCallK.intro (PInv.func (law05_inside_ok (d.left C i) (spanOf (d.leftL i)))) ?_
    simp [hL, hic]
    intro s5
    generalize decide (d.odo C i = d.odo d.lo i) = q0 at *
    generalize decide (d.odo C i = d.odo d.hi i) = q1 at *
    generalize decide (d.left C i = (spanOf (d.leftL i)).1) = q2 at *
    generalize decide (d.left C i = (spanOf (d.leftL i)).2) = q3 at *
    refine Lp.intro (σ := Nat) (inv := fun j => j ≤ 4)
      (vw := fun j => [(2, .ptr 2 0 (s+1)), (5, .int .i64 i), (6, .ptr 6 0 (s2+1)), (8, .ptr 8 0 (s3+1)), (10, .ptr 10 0 (s4+1)), (58, LLv d.truths), (59, .int .i64 d.truths.length), (60, .int .i64 k), (133, .sl 133 0 (s5+1) 4 (.ex 4)), (134, .int .i64 4), (135, .int .i64 j)])
      (hp := fun j => [(2, .row d.cells (s+1)), (6, .row (ints [d.odo d.lo i, d.odo d.hi i]) (s2+1)), (8, .row (ints [(spanOf (d.leftL i)).1, (spanOf (d.leftL i)).2]) (s3+1)),
        (10, .row [.bool (if 0 < j then p0 || q0 else p0), .bool (if 1 < j then p1 || q1 else p1), .bool (if 2 < j then p2 || q2 else p2), .bool (if 3 < j then p3 || q3 else p3)] (s4+1)), (133, .row [.bool q0, .bool q1, .bool q2, .bool q3] (s5+1))])
      (ms := fun j => 4 - j) 0 (by omega) (by simp) (by simp) ?_
    intro j hj J2 hJ2
    by_cases hjc : j < 4
    · have hcs : j = 0 ∨ j = 1 ∨ j = 2 ∨ j = 3 := by omega
      rcases hcs with rfl | rfl | rfl | rfl
      · cases p0 <;> simp
        all_goals (repeat first | refine And.intro (by omega) ?_ | refine And.intro (Fits.of (by omega) (by omega)) ?_)
        all_goals exact hJ2.next 1 (by omega) (by omega) (by simp) (by simp)
      · cases p1 <;> simp
        all_goals (repeat first | refine And.intro (by omega) ?_ | refine And.intro (Fits.of (by omega) (by omega)) ?_)
        all_goals exact hJ2.next 2 (by omega) (by omega) (by simp) (by simp)
      · cases p2 <;> simp
        all_goals (repeat first | refine And.intro (by omega) ?_ | refine And.intro (Fits.of (by omega) (by omega)) ?_)
        all_goals exact hJ2.next 3 (by omega) (by omega) (by simp) (by simp)
      · cases p3 <;> simp
        all_goals (repeat first | refine And.intro (by omega) ?_ | refine And.intro (Fits.of (by omega) (by omega)) ?_)
        all_goals exact hJ2.next 4 (by omega) (by omega) (by simp) (by simp)
    · obtain rfl : j = 4 := by omega
      simp
      refine hJ2.exit ?_
      simp
      (repeat first | refine And.intro (by omega) ?_ | refine And.intro (Fits.of (by omega) (by omega)) ?_)
      exact hJ.next (k + 1) (by omega) (by omega) (by simp) (by simp [hp'])
  · obtain rfl : k = d.truths.length := by omega
    simp
    refine hJ.exit ?_
    simp [Drv.fnd_all hv]
    intro s5
    have hbl := hv.bl
    have htb : d.top.blows.length = d.n := (Drv.top_valid hv).bl
    refine Lp.intro' (σ := Nat × Nat) (inv := fun x => x.1 ≤ d.n)
      (vw := fun x => [(5, .int .i64 i), (6, .ptr 6 0 (s2+1)), (8, .ptr 8 0 (s3+1)), (10, .ptr 10 0 (s4+1)), (18, .ptr 18 0 (s5+1)), (153, LP d.blows), (154, .int .i64 d.n), (155, .int .i64 x.1)])
      (hp := fun x => [(6, .row (ints [d.odo d.lo i, d.odo d.hi i]) (s2+1)), (8, .row (ints [(spanOf (d.leftL i)).1, (spanOf (d.leftL i)).2]) (s3+1)), (10, .row [.bool true, .bool true, .bool true, .bool true] (s4+1)),
        (18, .row [L d.limits, LP d.beside, gS 2 167 x.1 x.2] (s5+1)), (167, gO x.1 (prs (d.top.blows.take x.1)) x.2)])
      (ms := fun x => d.n - x.1) (0, 0) (by simp) (Sl.rowLe 18 [L d.limits, LP d.beside, .es] rfl ⟨ALe.refl _, ALe.refl _, ALe.nils_es, trivial⟩ (Sl.refl ⟨rfl, by simp [hbl], by simp⟩)) ?_
    rintro ⟨k, st⟩ hk J2 hJ2
    simp at hk
    by_cases hkc : k < d.n
    · have hcb : k < d.blows.length := by omega
      have htk : d.top.blows.take (k + 1) = d.top.blows.take k ++ [(d.hi k, d.hi k)] := by
        have : k < d.top.blows.length := by omega
        rw [← List.take_append_getElem this]
        simp [Drv.top, Drv.hi, hcb]
      have ehi : d.blows[k].2 = d.hi k := by simp [Drv.hi, hcb]
      simp [hkc, hcb, ehi]
      refine ⟨by omega, fun s6 => PCallK.intro (PInv.func (law05_span_ok _ _)) ?_⟩
      simp [SP2]
      intro s7 s8
      refine xApN_gS (cells := prs (d.top.blows.take k)) (by simp) (by simp; omega) (by omega) (by omega) ?_
      simp
      (repeat first | refine And.intro (by omega) ?_ | refine And.intro (Fits.of (by omega) (by omega)) ?_)
      exact hJ2.next (k + 1, s8 + 1) (by simp; omega) (by simp; omega) (by simp) (by simp [htk, prs])
    · obtain rfl : k = d.n := by omega
      have htk : d.top.blows.take d.n = d.top.blows := List.take_of_length_le (by omega)
      have ht := Drv.top_valid hv
      have hts := Drv.top_small hd
      have hti : i < d.top.n := hic
      have hT := Drv.timesV_at ht hti
      have hLt := Drv.leftV_at ht hti
      obtain ⟨hr1, hr2⟩ := Drv.rest_same (e := d.top) hv rfl rfl hv.hi_in
      rw [(Drv.top_hi d).1, (Drv.top_hi d).2, hr2] at hT
      rw [Drv.top_left hv] at hLt
      simp [htk]
      refine hJ2.exitS (Sl.vle 18 (.pv d.top.cells) (h' := hpV [(6, .row (ints [d.odo d.lo i, d.odo d.hi i]) (s2+1)), (8, .row (ints [(spanOf (d.leftL i)).1, (spanOf (d.leftL i)).2]) (s3+1)), (10, .row [.bool true, .bool true, .bool true, .bool true] (s4+1))]) ?_ (Sl.refl ?_))
      · have e : AVal.pv d.top.cells = .pv [L d.limits, LP d.beside, .vl d.n (prs d.top.blows)] := by rw [← htb]; rfl
        rw [e]
        have h18 : (tmV [(5, .int .i64 i), (6, .ptr 6 0 (s2+1)), (8, .ptr 8 0 (s3+1)), (10, .ptr 10 0 (s4+1)), (18, .ptr 18 0 (s5+1)), (153, LP d.blows), (154, .int .i64 d.n), (155, .int .i64 d.n)]) 18 = .ptr 18 0 (s5+1) := by simp
        simp only [upd_ne _ _ (show ¬ (18 : Nat) = 156 by omega)]
        refine VLe.trans (v₂ := .pv ([L d.limits, LP d.beside, gS 2 167 d.n st].drop 0)) (by simpa using VLe.ptr (r := 18) (off := 0) (s := s5 + 1) (cells := [L d.limits, LP d.beside, gS 2 167 d.n st]) (by simp)) ?_
        refine VLe.trans (VLe.pv (LLe.cons (VLe.refl _ _) (LLe.cons (VLe.refl _ _) (LLe.cons (VLe.gS (cells := prs d.top.blows) (by simp) (by simp [htb]; omega)) (LLe.nil _)))) rfl) ?_
        exact VLe.wk (HLe.view (by simp))
      simp
      refine PCallK.intro (v := d.top.timesV (i : Nat)) (PInv.func (args := [d.top.v, .int .i64 i]) (drive_Times_ok d.top hts i)) ?_
      rw [hT]
      simp [SP2]
      intro s6
      refine PCallK.intro (v := d.top.leftV (i : Nat)) (PInv.func (args := [d.top.v, .int .i64 i]) (drive_Left_ok d.top hts i)) ?_
      rw [hLt]
      simp [SP2]
      intro s7
      refine PCallK.intro (PInv.func (law05_span_ok _ _)) ?_
      simp [SP2]
      refine PCallK.intro (PInv.func law05_alive_ok) ?_
      simp
      exact RetV.refl rfl
end Go.Cw
end

/- DriveMore. -/
section
set_option maxRecDepth 100000
set_option linter.unusedSimpArgs false
namespace Go.Cw
open Go Go.Proofs

theorem blows_tab {d : Drv} {c : Nat → Int} (hc : ∀ j, j < d.n → 0 ≤ c j ∧ c j ≤ 52) : d.Blows (tab d.n c) := ⟨by simp, fun x hx => by
    obtain ⟨i, hi, rfl⟩ := List.getElem_of_mem hx
    simp at hi ⊢
    exact hc i hi⟩

theorem chain_tab {d : Drv} (hv : d.Valid) {c : Nat → Int} (hz : Zn d.n c) (hc : ∀ j, j < d.n → 0 ≤ c j ∧ c j ≤ 52) (hs : d.Stable c) {i : Nat} (hi : i < d.n) :
    d.chainV (tab d.n c) i = .tup [.int .i64 (bits (fun j => decide (0 < d.odo (plus c i 1) j)) d.n), .int .i64 0] := by
  unfold Drv.chainV
  rw [if_pos hv, if_pos ⟨blows_tab hc, by omega, by omega⟩, hz.eq, if_neg]
  · simp
  · rintro ⟨j, hj, h⟩; have := hs j hj; omega
theorem chain_full {d : Drv} (hv : d.Valid) {c : Nat → Int} (hz : Zn d.n c) (hc : ∀ j, j < d.n → 0 ≤ c j ∧ c j ≤ 52) {k : Nat} (hk : k < d.n) (hs : d.lim k ≤ c k) {i : Nat} (hi : i < d.n) :
    d.chainV (tab d.n c) i = .tup [.int .i64 0, .int .i64 6] := by
  unfold Drv.chainV
  rw [if_pos hv, if_pos ⟨blows_tab hc, by omega, by omega⟩, hz.eq, if_pos ⟨k, hk, hs⟩]

theorem bits_zero {p : Nat → Bool} : ∀ {n : Nat}, bits p n = 0 ↔ ∀ i, i < n → p i = false
  | 0 => by simp [bits]
  | n + 1 => by
    have h1 := bits_lt p n
    have h2 := two_pow_pos n
    have ih := bits_zero (p := p) (n := n)
    simp only [bits]
    constructor
    · intro h i hi
      have hp : p n = false := by
        cases hp : p n with
        | false => rfl
        | true => rw [hp] at h; simp at h; omega
      by_cases hin : i = n
      · subst hin; exact hp
      · rw [hp] at h; exact ih.1 (by simpa using h) i (by omega)
    · intro h
      rw [h n (by omega), ih.2 fun i hi => h i (by omega)]; rfl

namespace Drv
theorem sum_times (n : Nat) : ∀ l : List Nat, (∀ i ∈ l, i < n) → sum n (times l) = l.length := by
  intro l
  induction l with
  | nil => intro _; exact sum_zero n
  | cons i l ih =>
    intro h
    have : (fun j => times (i :: l) j) = fun j => times l j + if j = i then 1 else 0 := by funext j; exact times_cons i l j
    show sum n (fun j => times (i :: l) j) = _
    rw [this, sum_add, sum_ite, if_pos (h i (by simp)), ih fun j hj => h j (by simp [hj])]
    simp

theorem odo_sum {d : Drv} (hv : d.Valid) {c : Nat → Int} {m : Int} (hc : d.In m c) : sum d.n (d.odo c) ≤ sum d.n c := by
  obtain ⟨l, s, _, h⟩ := hc.rest hv
  have h1 := s.len hv
  have h2 := sum_nonneg (left_in hv hc).pos
  rw [h, sum_times _ _ s.mem]
  omega

/-- One blow more on what is at rest opens none just if there is room. -/
theorem chain_none {d : Drv} (hv : d.Valid) {c : Nat → Int} {m : Int} (hs : d.Stable c) {i : Nat} (hi : i < d.n) (hc : d.In m (plus c i 1)) :
    (bits (fun j => decide (0 < d.odo (plus c i 1) j)) d.n = 0) ↔ c i + 1 < d.lim i := by
  rw [bits_zero]
  constructor
  · intro h
    have h0 : ∀ j, d.odo (plus c i 1) j = 0 := fun j => by
      by_cases hj : j < d.n
      · have h1 := h j hj
        have h2 := odo_nonneg hv hc j
        simp at h1; omega
      · exact odo_none hv hc (by omega)
    have h1 := left_stable hv hc i hi
    rw [left_cfg hv hc] at h1
    unfold cfg at h1
    simp only [h0] at h1
    have h2 : (sum d.n fun j => 0 * (d.cnt j i : Int)) = 0 := by simp [sum_zero]
    rw [h2] at h1
    simp [plus, upd_same] at h1
    exact h1
  · intro h j hj
    have hst : d.Stable (plus c i 1) := fun k hk => by
      unfold plus upd
      split
      · rename_i hki; subst hki; exact h
      · exact hs k hk
    rw [(rest_still hv hc hst).2 j]; rfl

/-- One seam's blows are known better. -/
def nar (d : Drv) (p : Nat) : Drv := ⟨d.limits, d.beside, d.blows.set p (min (d.hi p) (d.lo p + 1), d.hi p)⟩

theorem nar_lo {d : Drv} (hv : d.Valid) {p : Nat} (hp : p < d.n) : (∀ j, d.lo j ≤ (d.nar p).lo j ∧ (d.nar p).lo j ≤ (d.nar p).hi j) ∧ (d.nar p).hi = d.hi := by
  have hb : p < d.blows.length := by rw [hv.bl]; exact hp
  have h1 := fun j => hv.lohi j
  have e : ∀ q j, (d.blows.set p q).getD j (0, 0) = if j = p then q else d.blows.getD j (0, 0) := fun q j => by
    simp only [List.getD_eq_getElem?_getD, List.getElem?_set]
    by_cases h : p = j
    · subst h; simp [hb]
    · simp [h, Ne.symm h]
  refine ⟨fun j => ?_, ?_⟩
  · have h2 := h1 j
    have h3 := h1 p
    simp only [Drv.lo, Drv.hi, nar, e] at h2 h3 ⊢
    split
    · rename_i h; subst h; simp only; omega
    · omega
  · funext j
    simp only [Drv.hi, nar, e]
    split
    · rename_i h; subst h; rfl
    · rfl

theorem nar_valid {d : Drv} (hv : d.Valid) {p : Nat} (hp : p < d.n) : (d.nar p).Valid := by
  have hb : p < d.blows.length := by rw [hv.bl]; exact hp
  refine ⟨hv.n1, hv.n6, by have := hv.bl; simp only [nar, List.length_set]; exact this, hv.pr, fun i l s hl hs => ?_⟩
  simp only [nar, List.getElem?_set] at hs
  split at hs
  · rename_i h
    subst h
    simp [hb] at hs
    subst hs
    obtain ⟨h1, h2, h3, h4, h5, h6, h7⟩ := hv.sm p l d.blows[p] hl (by simp [hb])
    have elo : d.lo p = d.blows[p].1 := by simp [Drv.lo, hb]
    have ehi : d.hi p = d.blows[p].2 := by simp [Drv.hi, hb]
    exact ⟨h1, h2, h3, by simp only; omega, by simp only; omega, by simp only; omega, by simp only; omega⟩
  · exact hv.sm i l s hl hs

theorem nar_small {d : Drv} (hd : d.Small) (p : Nat) : (d.nar p).Small := ⟨hd.l, hd.p, by simpa [nar] using hd.b⟩

theorem nar_truths {d : Drv} (hv : d.Valid) {p : Nat} (hp : p < d.n) {l : List Int} (h : l ∈ (d.nar p).truths) : l ∈ d.truths := by
  obtain ⟨h1, h2⟩ := (nar_valid hv hp).mem.1 h
  obtain ⟨h3, h4⟩ := nar_lo hv hp
  refine hv.mem.2 ⟨h1, fun j hj => ?_⟩
  have := h2 j hj
  have := h3 j
  rw [h4] at this
  rename_i h5
  rw [h4] at h5
  omega

theorem nar_left {d : Drv} (hv : d.Valid) {p : Nat} (hp : p < d.n) (i : Nat) : (spanOf (d.leftL i)).1 ≤ (spanOf ((d.nar p).leftL i)).1 ∧ (spanOf ((d.nar p).leftL i)).2 ≤ (spanOf (d.leftL i)).2 := by
  have hw := nar_valid hv hp
  have hne : (d.nar p).leftL i ≠ [] := by unfold Drv.leftL; simpa using hw.truths_ne
  obtain ⟨h1, h2, _⟩ := spanOf_mem hne
  have key : ∀ x ∈ (d.nar p).leftL i, (spanOf (d.leftL i)).1 ≤ x ∧ x ≤ (spanOf (d.leftL i)).2 := fun x hx => by
    obtain ⟨l, hl, rfl⟩ := List.mem_map.1 hx
    have hl' := nar_truths hv hp hl
    rw [(rest_same (e := d.nar p) hv rfl rfl (hv.truth_in hl')).1]
    exact left_span hv hl' i
  exact ⟨(key _ h1).1, (key _ h2).2⟩

theorem nar_times {d : Drv} (hv : d.Valid) {p : Nat} (hp : p < d.n) (i : Nat) : d.odo d.lo i ≤ (d.nar p).odo (d.nar p).lo i ∧ (d.nar p).odo (d.nar p).hi i = d.odo d.hi i := by
  have hw := nar_valid hv hp
  obtain ⟨h3, h4⟩ := nar_lo hv hp
  have hin : d.In 72 (d.nar p).lo := ⟨hw.lo_in.pos, hw.lo_in.sum⟩
  refine ⟨?_, ?_⟩
  · rw [(rest_same (e := d.nar p) hv rfl rfl hin).2]
    exact odo_mono hv hv.lo_in hin (fun j _ => (h3 j).1) i
  · rw [h4, (rest_same (e := d.nar p) hv rfl rfl hv.hi_in).2]
end Drv
end Go.Cw
end

/- DriveMore: the walk. -/
section
set_option maxRecDepth 100000
set_option linter.unusedSimpArgs false
namespace Go.Cw
open Go Go.Proofs

section
variable {F n₀ : Nat} {inr : Bool} {keep : List Nat} {t : Option Nat} {K : KT} {Q : Post} {tm : TM} {df : DF} {h : Heap}

theorem FCall.chain {d : Drv} (hd : d.Small) (hv : d.Valid) {c : Nat → Int} {v : AVal} (i : Nat) (hc : d.chainV (tab d.n c) i = v)
    (k : K (putD tm t v) df h) : FCall ⟨Pg, F, n₀, inr, keep⟩ (.func (.func fn_drive_Chain) [] []) [d.v, L (tab d.n c), .int .i64 i] [] [] t K Q tm df h := by
  have := PInv.func (first := []) (cap := []) (args := [d.v, L (tab d.n c), .int .i64 i]) (drive_Chain_ok d hd (tab d.n c) (by have := hv.n6; simp; omega) i)
  rw [hc] at this
  exact FCall.pure this k

theorem FCall.chainR {d : Drv} (hd : d.Small) (hv : d.Valid) {c : Nat → Int} {v : AVal} (i : Nat) (hc : d.chainV (tab d.n c) i = v) {r s : Nat} {cap : Cap} (hr : h r = .row (ints (tab d.n c)) s)
    (k : K (putD tm t v) df (upd h r .dead)) : FCall ⟨Pg, F, n₀, inr, keep⟩ (.func (.func fn_drive_Chain) [] []) [d.v, .sl r 0 s d.n cap, .int .i64 i] [] [] t K Q tm df h := by
  have := PInv.func (first := []) (cap := []) (args := [d.v, L (tab d.n c), .int .i64 i]) (drive_Chain_ok d hd (tab d.n c) (by have := hv.n6; simp; omega) i)
  rw [hc] at this
  refine FCall.frz1 r hr ?_ trivial ⟨trivial, k⟩
  simpa [L] using this
end

theorem prs_at0 (l : List (Int × Int)) (k : Nat) : (prs l)[k * 2]? = l[k]?.map fun p => .int .i64 p.1 := by
  induction l generalizing k with
  | nil => simp
  | cons a l ih =>
    cases k with
    | zero => simp
    | succ k => rw [show (k + 1) * 2 = k * 2 + 1 + 1 by omega]; simpa using ih k
theorem prs_at1 (l : List (Int × Int)) (k : Nat) : (prs l)[k * 2 + 1]? = l[k]?.map fun p => .int .i64 p.2 := by
  induction l generalizing k with
  | nil => simp
  | cons a l ih =>
    cases k with
    | zero => simp
    | succ k => rw [show (k + 1) * 2 + 1 = k * 2 + 1 + 1 + 1 by omega]; simpa using ih k
theorem prs_set0 (l : List (Int × Int)) (k : Nat) (hk : k < l.length) (x : Int) : setRange (prs l) (k * 2) [.int .i64 x] = prs (l.set k (x, l[k].2)) := by
  induction l generalizing k with
  | nil => simp at hk
  | cons a l ih =>
    cases k with
    | zero => simp
    | succ k =>
      rw [show (k + 1) * 2 = k * 2 + 1 + 1 by omega]
      simp only [List.length_cons] at hk
      simpa using ih k (by omega)

theorem rem_u8 {w : Int} (hw : 0 ≤ w ∧ w ≤ 255) {n : Nat} (hn : 1 ≤ n) : ∃ i : Nat, w.tmod n = i ∧ i < n := by
  have h1 := Int.tmod_nonneg (a := w) (n : Int) hw.1
  have h2 := Int.tmod_lt_of_pos w (show (0 : Int) < n by omega)
  obtain ⟨i, hi⟩ := Int.eq_ofNat_of_zero_le h1
  exact ⟨i, hi, by omega⟩

theorem law05_DriveMore_ok (d : Drv) (l : List Int) (hl : U16ok l) (w v : Int) (hw : 0 ≤ w ∧ w ≤ 255) (hw' : 0 ≤ v ∧ v ≤ 255) : APure Pg fn_law05_DriveMore [d.v, U16 l, .int .u8 w, .int .u8 v] (.bool true) := by
  refine law05_DriveMore.pure (by simp) ?_
  simp
  intro s
  refine FCall.long0 (by simp) trivial ?_
  cases hlg : longB d [] with
  | true =>
    simp
    refine PCallK.intro (PInv.func law05_alive_ok) ?_
    simp
    exact RetV.refl rfl
  | false =>
  obtain ⟨hd, _⟩ := longB_iff.1 hlg
  simp
  refine PCallK.intro (PInv.func (ref05_Drive_ok d hd)) ?_
  by_cases hv : ¬ d.Valid
  · simp [hv]
    refine PCallK.intro (PInv.func law05_alive_ok) ?_
    simp
    exact RetV.refl rfl
  replace hv := Classical.not_not.1 hv
  have hn1 := hv.n1
  have hn6 := hv.n6
  have hln : d.limits.length = d.n := rfl
  obtain ⟨i, hi, hic⟩ := rem_u8 hw hn1
  obtain ⟨p, hp, hpc⟩ := rem_u8 hw' hn1
  have hil : i < d.limits.length := hic
  have hpl : p < d.limits.length := hpc
  simp [hv]
  refine FCall.draws 300 (by simp) (by simp) fun s1 => ⟨by simp, ?_⟩
  simp
  refine FCall.made hd hv hl (k := 0) (by omega) (by omega) (by simp) (by simp) fun b o hb1 hb2 _ => ⟨by simp, ?_⟩
  have hB : ∀ j, 0 ≤ ofL b j ∧ ofL b j ≤ 20 := fun j => by
    by_cases hj : j < b.length
    · have := hb2 b[j] (by simp); rw [ofL_at _ hj] at this; exact this
    · rw [ofL_none _ (by omega)]; omega
  have hzB := Zn.ofL hb1
  have heb : b = tab d.n (ofL b) := by rw [← hb1, ofL_tab]
  generalize ofL b = B at *
  subst heb
  have hBm : d.In 120 B := Drv.In.of_le hv (m := 20) (fun j _ => hB j) (by omega)
  have hlB := Drv.left_in hv hBm
  have hstB := Drv.left_stable hv hBm
  have hlz := Drv.left_zn hv hBm hzB
  have hlB' : ∀ j, j < d.n → 0 ≤ d.left B j ∧ d.left B j ≤ 5 := fun j hj => ⟨hlB.pos j hj, by have := hstB j hj; have := (hv.lim_pos hj).2.1; omega⟩
  simp
  have hdn : ¬ d.n = 0 := by omega
  (repeat first | refine And.intro (by omega) ?_ | refine And.intro (Fits.of (by omega) (by omega)) ?_)
  simp [hdn, hi]
  refine FCall.settle hd hv hzB (fun j _ => by have := hB j; omega) ?_
  simp
  intro s2 s3
  simp [xAp_ne hdn, hdn, show ¬ d.n ≤ 0 by omega, hic]
  have hBi := hB i
  refine ⟨by omega, fun _ => ?_⟩
  refine FCall.draw hl (by omega) (k := 2 * d.n) (by omega) (by simp) (by simp) fun r hr => ?_
  simp [hic]
  (repeat first | refine And.intro (by omega) ?_ | refine And.intro (Fits.of (by omega) (by omega)) ?_)
  have hp1 := Drv.plus_in hv (c := B) (m := 20) (fun j _ => hB j) (by omega) i (x := 1 + r) (by omega)
  refine FCall.settleR hd hv (c := plus B i (1 + r)) (plus_zn hzB hic _) (fun j hj => ?_) (by simp [plus]) ?_
  · have := hB j
    unfold plus upd
    split
    · omega
    · omega
  simp
  refine Lp.intro (σ := Nat) (inv := fun k => k ≤ d.n)
    (vw := fun k => [(3, .int .u8 v), (4, .ptr 4 0 (s+1)), (10, L (tab d.n B)), (12, .int .i64 i), (13, L (tab d.n (d.left B))), (14, L (tab d.n (d.odo B))), (18, L (tab d.n (d.odo (plus B i (1 + r))))), (113, .int .i64 d.n), (114, .int .i64 k)])
    (hp := fun _ => [(4, .row d.cells (s+1))]) (ms := fun k => d.n - k) 0 (by omega) (by simp) (by simp) ?_
  intro k hk J hJ
  by_cases hkc : k < d.n
  · have hm := Drv.odo_mono hv hBm hp1 (fun j _ => by unfold plus upd; split <;> (try subst j) <;> omega) k
    simp [hkc, Int.not_lt.2 hm]
    (repeat first | refine And.intro (by omega) ?_ | refine And.intro (Fits.of (by omega) (by omega)) ?_)
    exact hJ.next (k + 1) (by omega) (by omega) (by simp) (by simp)
  obtain rfl : k = d.n := by omega
  simp
  refine hJ.exit ?_
  have hone := Drv.plus_in hv (c := d.left B) (m := 5) hlB' (by omega) i (x := 1) (by omega)
  have honez := plus_zn hlz hic 1
  have hone' : ∀ j, j < d.n → 0 ≤ plus (d.left B) i 1 j ∧ plus (d.left B) i 1 j ≤ 6 := fun j hj => by
    have := hlB' j hj
    unfold plus upd
    split
    · rename_i h; subst h; omega
    · omega
  have hnone := Drv.chain_none hv hstB hic hone
  simp
  refine FCall.chain hd hv i (chain_tab hv hlz (fun j hj => by have := hlB' j hj; omega) hstB hic) ?_
  have hLi := hlB' i hic
  simp
  intro s4 s5
  simp [xAp_ne hdn, hdn, show ¬ d.n ≤ 0 by omega, hic]
  refine ⟨by omega, fun _ => ?_⟩
  (repeat first | refine And.intro (by omega) ?_ | refine And.intro (Fits.of (by omega) (by omega)) ?_)
  refine Sl.frz 136 (cells := ints (tab d.n (plus (d.left B) i 1))) (s := s5 + 1) (by simp [plus]) (Sl.refl ?_)
  simp
  have eL : AVal.vl d.n (ints (tab d.n (plus (d.left B) i 1))) = L (tab d.n (plus (d.left B) i 1)) := by simp [L]
  rw [eL]
  refine FCall.settle hd hv honez (fun j hj => by have := hone' j hj; omega) ?_
  have ho1 : plus (d.left B) i 1 i = d.left B i + 1 := by simp [plus, upd_same]
  have hbits := bits_lt (fun j => decide (0 < d.odo (plus (d.left B) i 1) j)) d.n
  have hch : decide (bits (fun j => decide (0 < d.odo (plus (d.left B) i 1) j)) d.n = 0) = decide (d.left B i + 1 < d.lim i) := by
    rw [decide_eq_decide]; exact hnone
  simp [hic, hil, d.lim_at hil, ho1, hch]
  have hsumle := Drv.odo_sum hv hone
  have hsum2 := hone.sum
  have hod : ∀ j, 0 ≤ d.odo (plus (d.left B) i 1) j := fun j => Drv.odo_nonneg hv hone j
  obtain ⟨O, hO⟩ : ∃ O, O = plus (d.left B) i 1 := ⟨_, rfl⟩
  rw [← hO] at hone hone' honez hbits hnone hsumle hsum2 hod hch
  rw [← hO]
  have hpart : ∀ k, k ≤ d.n → 0 ≤ Drv.sum k (d.odo O) ∧ Drv.sum k (d.odo O) ≤ Drv.sum d.n (d.odo O) ∧ 0 ≤ Drv.sum k O ∧ Drv.sum k O ≤ Drv.sum d.n O := by
    have mono : ∀ (f : Nat → Int), (∀ j, j < d.n → 0 ≤ f j) → ∀ k, k ≤ d.n → Drv.sum k f ≤ Drv.sum d.n f := by
      intro f hf k hk
      obtain ⟨m, hm⟩ : ∃ m, d.n = k + m := ⟨d.n - k, by omega⟩
      · rw [hm]
        have : ∀ m, k + m ≤ d.n → Drv.sum k f ≤ Drv.sum (k + m) f := by
          intro m
          induction m with
          | zero => intro _; exact Int.le_refl _
          | succ m ih =>
            intro h
            have h1 := ih (by omega)
            have h2 := hf (k + m) (by omega)
            show Drv.sum k f ≤ Drv.sum (k + m) f + f (k + m)
            omega
        exact this m (by omega)
    intro k hk
    exact ⟨Drv.sum_nonneg fun j _ => hod j, mono _ (fun j _ => hod j) k hk, Drv.sum_nonneg fun j hj => hone.pos j (by omega), mono _ hone.pos k hk⟩
  refine Lp.intro (σ := Nat) (inv := fun k => k ≤ d.n)
    (vw := fun k => [(3, .int .u8 v), (4, .ptr 4 0 (s+1)), (10, L (tab d.n B)), (12, .int .i64 i), (13, L (tab d.n (d.left B))), (21, .int .i64 (bits (fun j => decide (0 < d.odo O j)) d.n)), (23, L (tab d.n O)), (27, .int .i64 (Drv.sum k (d.odo O))), (28, .int .i64 (Drv.sum k O)), (178, L (tab d.n (d.odo O))), (179, .int .i64 d.n), (180, .int .i64 k)])
    (hp := fun _ => [(4, .row d.cells (s+1))]) (ms := fun k => d.n - k) 0 (by omega) (by simp [Drv.sum, L]) (by simp) ?_
  intro k hk J hJ
  by_cases hkc : k < d.n
  · have h1 := hpart k (by omega)
    have h2 := hpart (k + 1) (by omega)
    have h3 : Drv.sum (k + 1) (d.odo O) = Drv.sum k (d.odo O) + d.odo O k := rfl
    have h4 : Drv.sum (k + 1) O = Drv.sum k O + O k := rfl
    have hba := bits_and1 (fun j => decide (0 < d.odo O j)) (show d.n ≤ 60 by omega) hkc
    simp [hkc]
    (repeat first | refine And.intro (by omega) ?_ | refine And.intro (Fits.of (by omega) (by omega)) ?_)
    simp [hkc, hba]
    (repeat first | refine And.intro (by omega) ?_ | refine And.intro (Fits.of (by omega) (by omega)) ?_)
    exact hJ.next (k + 1) (by omega) (by omega) (by simp [h3, h4, L]) (by simp)
  obtain rfl : k = d.n := by omega
  have hb0 : bits (fun j => decide (0 < d.odo O j)) d.n / 2 ^ d.n = 0 := Int.ediv_eq_zero_of_lt hbits.1 hbits.2
  simp
  refine hJ.exit ?_
  simp [Int.not_lt.2 hsumle, Int.not_lt.2 hbits.1, hb0]
  refine ⟨by omega, fun s6 s7 => ?_⟩
  have hlp := hv.lim_pos hpc
  simp [xAp_ne hdn, hdn, show ¬ d.n ≤ 0 by omega]
  refine ⟨by omega, fun _ => ?_⟩
  (repeat first | refine And.intro (by omega) ?_ | refine And.intro (Fits.of (by omega) (by omega)) ?_)
  simp [hp, hpc, hpl, d.lim_at hpl, hdn]
  (repeat first | refine And.intro (by omega) ?_ | refine And.intro (Fits.of (by omega) (by omega)) ?_)
  refine FCall.chainR hd hv (c := upd (d.left B) p (d.lim p)) i (chain_full hv (fun j hj => ?_) (fun j hj => ?_) hpc (by simp [upd_same]) hic) (by simp) ?_
  · rw [upd_ne _ _ (by omega)]; exact hlz j hj
  · have := hlB' j hj
    unfold upd
    split
    · omega
    · omega
  have hbl := hv.bl
  have hbn : ¬ d.blows.length = 0 := by omega
  simp
  intro s8 s9 s10
  simp [hbl, hdn, xAp_ne hdn, show ¬ d.n ≤ 0 by omega, hp]
  refine ⟨by omega, fun _ => ?_⟩
  have hpb : p < d.blows.length := by omega
  have hlh := hv.lohi p
  have elo : d.blows[p].1 = d.lo p := by simp [Drv.lo, hpb]
  have ehi : d.blows[p].2 = d.hi p := by simp [Drv.hi, hpb]
  (repeat first | refine And.intro (by omega) ?_ | refine And.intro (Fits.of (by omega) (by omega)) ?_)
  simp [prs_at0, prs_at1, hpb, elo, ehi, prs_set0]
  (repeat first | refine And.intro (by omega) ?_ | refine And.intro (Fits.of (by omega) (by omega)) ?_)
  have hx := Drv.nar_valid hv hpc
  have hxs := Drv.nar_small hd p
  refine Lp.intro' (σ := Nat) (inv := fun k => k ≤ d.n)
    (vw := fun k => [(4, .ptr 4 0 (s+1)), (34, .pv (d.nar p).cells), (274, .int .i64 d.n), (275, .int .i64 k)])
    (hp := fun _ => [(4, .row d.cells (s+1))]) (ms := fun k => d.n - k) 0 (by omega)
    (Sl.vle 34 (.pv (d.nar p).cells) (h' := hpV [(4, .row d.cells (s+1))]) ?_ (Sl.refl ⟨rfl, by simp, by simp⟩)) ?_
  · have e : AVal.pv (d.nar p).cells = .pv [L d.limits, LP d.beside, .vl d.n (prs (d.nar p).blows)] := by
      have h1 : (d.nar p).blows.length = d.n := hx.bl
      rw [← h1]; rfl
    rw [e]
    simp
    refine VLe.trans (v₂ := .pv ([L d.limits, LP d.beside, .sl 249 0 (s10 + 1) d.n (.gr 2)].drop 0)) (VLe.ptr (r := 34) (off := 0) (s := s8 + 1) (cells := [L d.limits, LP d.beside, .sl 249 0 (s10 + 1) d.n (.gr 2)]) (by simp)) ?_
    refine VLe.trans (VLe.pv (LLe.cons (VLe.refl _ _) (LLe.cons (VLe.refl _ _) (LLe.cons (VLe.sl (cells := prs (d.nar p).blows) (by simp [Drv.nar])) (LLe.nil _)))) rfl) ?_
    exact VLe.wk (HLe.view (k := [(4, .row d.cells (s+1))]) (by simp))
  intro k hk J hJ
  by_cases hkc : k < d.n
  · have hT := Drv.timesV_at hx (i := k) hkc
    have hL := Drv.leftV_at hx (i := k) hkc
    have h1 := Drv.nar_times hv hpc k
    have h2 := Drv.nar_left hv hpc k
    simp [hkc]
    refine PCallK.intro (v := d.timesV (k : Nat)) (PInv.func (drive_Times_ok d hd k)) ?_
    rw [Drv.timesV_at hv hkc]
    simp [SP2]
    intro s11
    refine PCallK.intro (v := (d.nar p).timesV (k : Nat)) (PInv.func (args := [(d.nar p).v, .int .i64 k]) (drive_Times_ok (d.nar p) hxs k)) ?_
    rw [hT]
    simp [SP2]
    intro s12
    refine PCallK.intro (v := d.leftV (k : Nat)) (PInv.func (drive_Left_ok d hd k)) ?_
    rw [Drv.leftV_at hv hkc]
    simp [SP2]
    intro s13
    refine PCallK.intro (v := (d.nar p).leftV (k : Nat)) (PInv.func (args := [(d.nar p).v, .int .i64 k]) (drive_Left_ok (d.nar p) hxs k)) ?_
    rw [hL]
    simp [SP2]
    intro s14
    simp [Int.not_lt.2 h1.1, h1.2, Int.not_lt.2 h2.1, Int.not_lt.2 h2.2]
    (repeat first | refine And.intro (by omega) ?_ | refine And.intro (Fits.of (by omega) (by omega)) ?_)
    exact hJ.next (k + 1) (by omega) (by omega) (by simp) (by simp)
  obtain rfl : k = d.n := by omega
  simp
  refine hJ.exit ?_
  simp
  refine PCallK.intro (PInv.func law05_alive_ok) ?_
  simp
  exact RetV.refl rfl
end Go.Cw
end

/- How drawn numbers and bytes are read as arguments. -/
section
set_option maxRecDepth 100000
namespace Go.Cw
open Go Go.Proofs

section
variable {w : World} {μ : Mu}

theorem opens_u16 : Opens Pg w μ 53 fun av => ∃ l : List Int, U16ok l ∧ av = [U16 l] :=
  (Opens.intsK (k := .u16) Try.underlying53 (by kernel_rfl) Try.underlying117 (by kernel_rfl)).mono fun av ⟨l, h1, h2, h3⟩ =>
    ⟨l, ⟨Nat.le_trans h1 (by decide +kernel), fun x hx => bounds_u16 (h2 x hx)⟩, h3⟩
theorem opens_u8 : Opens Pg w μ 5 fun av => ∃ n : Int, (0 ≤ n ∧ n ≤ 255) ∧ av = [.int .u8 n] :=
  (Opens.int Try.underlying5 (by kernel_rfl)).mono fun av ⟨n, h1, h2⟩ => ⟨n, bounds_u8 h1, h2⟩
end
end Go.Cw
end
