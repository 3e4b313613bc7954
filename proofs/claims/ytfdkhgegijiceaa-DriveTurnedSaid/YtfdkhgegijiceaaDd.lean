/-
  The laws Ends and More; how their arguments are read.
-/
import Derived.Test.YtfdkhgegijiceaaDc
import Derived.Test.YtfdkhgegijiceaaDb
set_option linter.unusedVariables false
set_option linter.unusedSimpArgs false
set_option linter.unusedSectionVars false

/- DriveEnds. -/
section
set_option maxRecDepth 100000
set_option linter.unusedSimpArgs false
namespace Go.Cw
open Go Go.Proofs

namespace Drv
/-- The same seams: what opens is the same. -/
theorem Runs.same {d e : Drv} (hl : e.limits = d.limits) (hb : e.beside = d.beside) {order : List Nat} {c c' : Nat → Int} {all : List Nat} (r : d.Runs order c all c') : e.Runs order c all c' := by
  have el : ∀ i, e.lim i = d.lim i := fun i => by unfold lim; rw [hl]
  have ec : ∀ i j, e.cnt i j = d.cnt i j := fun i j => by unfold cnt; rw [hb]
  have ef : ∀ i c, e.fire i c = d.fire i c := fun i c => by funext j; unfold fire; rw [el, ec]
  have eo : ∀ c, e.firstCan order c = d.firstCan order c := fun c => by unfold firstCan; simp only [el]
  induction r with
  | stop h => exact .stop (by rw [eo]; exact h)
  | step h r ih => exact .step (by rw [eo]; exact h) (by rw [ef]; exact ih)

theorem rest_same {d e : Drv} (hv : d.Valid) (hl : e.limits = d.limits) (hb : e.beside = d.beside) {c : Nat → Int} {m : Int} (hc : d.In m c) : e.left c = d.left c ∧ e.odo c = d.odo c := by
  have hn : e.n = d.n := by unfold n; rw [hl]
  have r := hc.runs hv (order := List.range d.n) (by simp)
  have r' := Runs.eq (Runs.same hl hb r)
  unfold left odo
  rw [hn, r']
  exact ⟨rfl, rfl⟩

/-- All blows as many as there can be. -/
def top (d : Drv) : Drv := ⟨d.limits, d.beside, d.blows.map fun s => (s.2, s.2)⟩

theorem top_valid {d : Drv} (hv : d.Valid) : d.top.Valid := by
  refine ⟨hv.n1, hv.n6, by have := hv.bl; simp only [top, List.length_map]; exact this, hv.pr, fun i l s hl hs => ?_⟩
  simp only [top, List.getElem?_map, Option.map_eq_some_iff] at hs
  obtain ⟨s', hs', rfl⟩ := hs
  obtain ⟨h1, h2, h3, h4, h5, h6, h7⟩ := hv.sm i l s' hl hs'
  exact ⟨h1, h2, h3, by simp; omega, by simp, h6, by simp⟩

theorem top_small {d : Drv} (hd : d.Small) : d.top.Small := ⟨hd.l, hd.p, by simpa [top] using hd.b⟩

theorem top_hi (d : Drv) : d.top.hi = d.hi ∧ d.top.lo = d.hi := by
  constructor <;> funext i <;> simp only [Drv.hi, Drv.lo, top, List.getD_eq_getElem?_getD, List.getElem?_map] <;> cases d.blows[i]? <;> rfl

theorem top_left {d : Drv} (hv : d.Valid) (i : Nat) : spanOf (d.top.leftL i) = (d.left d.hi i, d.left d.hi i) := by
  have ht := top_valid hv
  have e1 : ∀ l ∈ d.top.truths, ofL l = d.hi := fun l hl => by
    obtain ⟨h1, h2⟩ := ht.truth hl
    funext j
    by_cases hj : j < d.n
    · have := (h2 j hj).1
      rw [(top_hi d).1, (top_hi d).2] at this
      omega
    · rw [ofL_none l (by rw [h1]; exact Nat.le_of_not_lt hj)]
      have : d.blows.length ≤ j := by rw [hv.bl]; omega
      simp [Drv.hi, this]
  have hr := (rest_same (e := d.top) hv rfl rfl hv.hi_in).1
  have hm : ∀ x ∈ d.top.leftL i, x = d.left d.hi i := fun x hx => by
    obtain ⟨l, hl, rfl⟩ := List.mem_map.1 hx
    rw [e1 l hl, hr]
  have hne : d.top.leftL i ≠ [] := by unfold Drv.leftL; simpa using ht.truths_ne
  obtain ⟨h1, h2, _⟩ := spanOf_mem hne
  exact Prod.ext (hm _ h1) (hm _ h2)

/-- What is found of truths. -/
noncomputable def fnd (d : Drv) (i k : Nat) : List Bool :=
  [(d.truths.take k).any fun l => decide (d.odo (ofL l) i = d.odo d.lo i), (d.truths.take k).any fun l => decide (d.odo (ofL l) i = d.odo d.hi i),
   (d.truths.take k).any fun l => decide (d.left (ofL l) i = (spanOf (d.leftL i)).1), (d.truths.take k).any fun l => decide (d.left (ofL l) i = (spanOf (d.leftL i)).2)]

theorem fnd_all {d : Drv} (hv : d.Valid) (i : Nat) : d.fnd i d.truths.length = [true, true, true, true] := by
  have hne : d.leftL i ≠ [] := by unfold Drv.leftL; simpa using hv.truths_ne
  obtain ⟨h1, h2, _⟩ := spanOf_mem hne
  obtain ⟨l1, k1, e1⟩ := List.mem_map.1 h1
  obtain ⟨l2, k2, e2⟩ := List.mem_map.1 h2
  have a1 : (d.truths.any fun l => decide (d.odo (ofL l) i = d.odo d.lo i)) = true := List.any_eq_true.2 ⟨_, lo_mem hv, by rw [ofL_lo hv]; simp⟩
  have a2 : (d.truths.any fun l => decide (d.odo (ofL l) i = d.odo d.hi i)) = true := List.any_eq_true.2 ⟨_, hi_mem hv, by rw [ofL_hi hv]; simp⟩
  have a3 : (d.truths.any fun l => decide (d.left (ofL l) i = (spanOf (d.leftL i)).1)) = true := List.any_eq_true.2 ⟨l1, k1, by simpa using e1⟩
  have a4 : (d.truths.any fun l => decide (d.left (ofL l) i = (spanOf (d.leftL i)).2)) = true := List.any_eq_true.2 ⟨l2, k2, by simpa using e2⟩
  unfold fnd
  rw [List.take_length, a1, a2, a3, a4]
end Drv

end Go.Cw
end

/- DriveMore. -/
section
set_option maxRecDepth 100000
set_option linter.unusedSimpArgs false
namespace Go.Cw
open Go Go.Proofs

theorem blows_tab {d : Drv} {c : Nat → Int} (hc : ∀ j, j < d.n → 0 ≤ c j ∧ c j ≤ 52) : d.Blows (tab d.n c) := ⟨by simp, fun x hx => by
    obtain ⟨i, hi, rfl⟩ := List.getElem_of_mem hx
    simp at hi ⊢
    exact hc i hi⟩

theorem chain_tab {d : Drv} (hv : d.Valid) {c : Nat → Int} (hz : Zn d.n c) (hc : ∀ j, j < d.n → 0 ≤ c j ∧ c j ≤ 52) (hs : d.Stable c) {i : Nat} (hi : i < d.n) :
    d.chainV (tab d.n c) i = .tup [.int .i64 (bits (fun j => decide (0 < d.odo (plus c i 1) j)) d.n), .int .i64 0] := by
  unfold Drv.chainV
  rw [if_pos hv, if_pos ⟨blows_tab hc, by omega, by omega⟩, hz.eq, if_neg]
  · simp
  · rintro ⟨j, hj, h⟩; have := hs j hj; omega
theorem chain_full {d : Drv} (hv : d.Valid) {c : Nat → Int} (hz : Zn d.n c) (hc : ∀ j, j < d.n → 0 ≤ c j ∧ c j ≤ 52) {k : Nat} (hk : k < d.n) (hs : d.lim k ≤ c k) {i : Nat} (hi : i < d.n) :
    d.chainV (tab d.n c) i = .tup [.int .i64 0, .int .i64 6] := by
  unfold Drv.chainV
  rw [if_pos hv, if_pos ⟨blows_tab hc, by omega, by omega⟩, hz.eq, if_pos ⟨k, hk, hs⟩]

namespace Drv
theorem sum_times (n : Nat) : ∀ l : List Nat, (∀ i ∈ l, i < n) → sum n (times l) = l.length := by
  intro l
  induction l with
  | nil => intro _; exact sum_zero n
  | cons i l ih =>
    intro h
    have : (fun j => times (i :: l) j) = fun j => times l j + if j = i then 1 else 0 := by funext j; exact times_cons i l j
    show sum n (fun j => times (i :: l) j) = _
    rw [this, sum_add, sum_ite, if_pos (h i (by simp)), ih fun j hj => h j (by simp [hj])]
    simp

theorem odo_sum {d : Drv} (hv : d.Valid) {c : Nat → Int} {m : Int} (hc : d.In m c) : sum d.n (d.odo c) ≤ sum d.n c := by
  obtain ⟨l, s, _, h⟩ := hc.rest hv
  have h1 := s.len hv
  have h2 := sum_nonneg (left_in hv hc).pos
  rw [h, sum_times _ _ s.mem]
  omega

/-- One blow more on what is at rest opens none just if there is room. -/
theorem chain_none {d : Drv} (hv : d.Valid) {c : Nat → Int} {m : Int} (hs : d.Stable c) {i : Nat} (hi : i < d.n) (hc : d.In m (plus c i 1)) :
    (bits (fun j => decide (0 < d.odo (plus c i 1) j)) d.n = 0) ↔ c i + 1 < d.lim i := by
  rw [bits_zero]
  constructor
  · intro h
    have h0 : ∀ j, d.odo (plus c i 1) j = 0 := fun j => by
      by_cases hj : j < d.n
      · have h1 := h j hj
        have h2 := odo_nonneg hv hc j
        simp at h1; omega
      · exact odo_none hv hc (by omega)
    have h1 := left_stable hv hc i hi
    rw [left_cfg hv hc] at h1
    unfold cfg at h1
    simp only [h0] at h1
    have h2 : (sum d.n fun j => 0 * (d.cnt j i : Int)) = 0 := by simp [sum_zero]
    rw [h2] at h1
    simp [plus, upd_same] at h1
    exact h1
  · intro h j hj
    have hst : d.Stable (plus c i 1) := fun k hk => by
      unfold plus upd
      split
      · rename_i hki; subst hki; exact h
      · exact hs k hk
    rw [(rest_still hv hc hst).2 j]; rfl

/-- One seam's blows are known better. -/
def nar (d : Drv) (p : Nat) : Drv := ⟨d.limits, d.beside, d.blows.set p (min (d.hi p) (d.lo p + 1), d.hi p)⟩

theorem nar_lo {d : Drv} (hv : d.Valid) {p : Nat} (hp : p < d.n) : (∀ j, d.lo j ≤ (d.nar p).lo j ∧ (d.nar p).lo j ≤ (d.nar p).hi j) ∧ (d.nar p).hi = d.hi := by
  have hb : p < d.blows.length := by rw [hv.bl]; exact hp
  have h1 := fun j => hv.lohi j
  have e : ∀ q j, (d.blows.set p q).getD j (0, 0) = if j = p then q else d.blows.getD j (0, 0) := fun q j => by
    simp only [List.getD_eq_getElem?_getD, List.getElem?_set]
    by_cases h : p = j
    · subst h; simp [hb]
    · simp [h, Ne.symm h]
  refine ⟨fun j => ?_, ?_⟩
  · have h2 := h1 j
    have h3 := h1 p
    simp only [Drv.lo, Drv.hi, nar, e] at h2 h3 ⊢
    split
    · rename_i h; subst h; simp only; omega
    · omega
  · funext j
    simp only [Drv.hi, nar, e]
    split
    · rename_i h; subst h; rfl
    · rfl

theorem nar_valid {d : Drv} (hv : d.Valid) {p : Nat} (hp : p < d.n) : (d.nar p).Valid := by
  have hb : p < d.blows.length := by rw [hv.bl]; exact hp
  refine ⟨hv.n1, hv.n6, by have := hv.bl; simp only [nar, List.length_set]; exact this, hv.pr, fun i l s hl hs => ?_⟩
  simp only [nar, List.getElem?_set] at hs
  split at hs
  · rename_i h
    subst h
    simp [hb] at hs
    subst hs
    obtain ⟨h1, h2, h3, h4, h5, h6, h7⟩ := hv.sm p l d.blows[p] hl (by simp [hb])
    have elo : d.lo p = d.blows[p].1 := by simp [Drv.lo, hb]
    have ehi : d.hi p = d.blows[p].2 := by simp [Drv.hi, hb]
    exact ⟨h1, h2, h3, by simp only; omega, by simp only; omega, by simp only; omega, by simp only; omega⟩
  · exact hv.sm i l s hl hs

theorem nar_small {d : Drv} (hd : d.Small) (p : Nat) : (d.nar p).Small := ⟨hd.l, hd.p, by simpa [nar] using hd.b⟩

theorem nar_truths {d : Drv} (hv : d.Valid) {p : Nat} (hp : p < d.n) {l : List Int} (h : l ∈ (d.nar p).truths) : l ∈ d.truths := by
  obtain ⟨h1, h2⟩ := (nar_valid hv hp).mem.1 h
  obtain ⟨h3, h4⟩ := nar_lo hv hp
  refine hv.mem.2 ⟨h1, fun j hj => ?_⟩
  have := h2 j hj
  have := h3 j
  rw [h4] at this
  rename_i h5
  rw [h4] at h5
  omega

theorem nar_left {d : Drv} (hv : d.Valid) {p : Nat} (hp : p < d.n) (i : Nat) : (spanOf (d.leftL i)).1 ≤ (spanOf ((d.nar p).leftL i)).1 ∧ (spanOf ((d.nar p).leftL i)).2 ≤ (spanOf (d.leftL i)).2 := by
  have hw := nar_valid hv hp
  have hne : (d.nar p).leftL i ≠ [] := by unfold Drv.leftL; simpa using hw.truths_ne
  obtain ⟨h1, h2, _⟩ := spanOf_mem hne
  have key : ∀ x ∈ (d.nar p).leftL i, (spanOf (d.leftL i)).1 ≤ x ∧ x ≤ (spanOf (d.leftL i)).2 := fun x hx => by
    obtain ⟨l, hl, rfl⟩ := List.mem_map.1 hx
    have hl' := nar_truths hv hp hl
    rw [(rest_same (e := d.nar p) hv rfl rfl (hv.truth_in hl')).1]
    exact left_span hv hl' i
  exact ⟨(key _ h1).1, (key _ h2).2⟩

theorem nar_times {d : Drv} (hv : d.Valid) {p : Nat} (hp : p < d.n) (i : Nat) : d.odo d.lo i ≤ (d.nar p).odo (d.nar p).lo i ∧ (d.nar p).odo (d.nar p).hi i = d.odo d.hi i := by
  have hw := nar_valid hv hp
  obtain ⟨h3, h4⟩ := nar_lo hv hp
  have hin : d.In 72 (d.nar p).lo := ⟨hw.lo_in.pos, hw.lo_in.sum⟩
  refine ⟨?_, ?_⟩
  · rw [(rest_same (e := d.nar p) hv rfl rfl hin).2]
    exact odo_mono hv hv.lo_in hin (fun j _ => (h3 j).1) i
  · rw [h4, (rest_same (e := d.nar p) hv rfl rfl hv.hi_in).2]
end Drv
end Go.Cw
end

/- DriveMore: the walk. -/
section
set_option maxRecDepth 100000
set_option linter.unusedSimpArgs false
namespace Go.Cw
open Go Go.Proofs

section
variable {F n₀ : Nat} {inr : Bool} {keep : List Nat} {t : Option Nat} {K : KT} {Q : Post} {tm : TM} {df : DF} {h : Heap}

theorem FCall.chain {d : Drv} (hd : d.Small) (hv : d.Valid) {c : Nat → Int} {v : AVal} (i : Nat) (hc : d.chainV (tab d.n c) i = v)
    (k : K (putD tm t v) df h) : FCall ⟨Pg, F, n₀, inr, keep⟩ (.func (.func fn_drive_Chain) [] []) [d.v, L (tab d.n c), .int .i64 i] [] [] t K Q tm df h := by
  have := PInv.func (first := []) (cap := []) (args := [d.v, L (tab d.n c), .int .i64 i]) (drive_Chain_ok d hd (tab d.n c) (by have := hv.n6; simp; omega) i)
  rw [hc] at this
  exact FCall.pure this k

theorem FCall.chainR {d : Drv} (hd : d.Small) (hv : d.Valid) {c : Nat → Int} {v : AVal} (i : Nat) (hc : d.chainV (tab d.n c) i = v) {r s : Nat} {cap : Cap} (hr : h r = .row (ints (tab d.n c)) s)
    (k : K (putD tm t v) df (upd h r .dead)) : FCall ⟨Pg, F, n₀, inr, keep⟩ (.func (.func fn_drive_Chain) [] []) [d.v, .sl r 0 s d.n cap, .int .i64 i] [] [] t K Q tm df h := by
  have := PInv.func (first := []) (cap := []) (args := [d.v, L (tab d.n c), .int .i64 i]) (drive_Chain_ok d hd (tab d.n c) (by have := hv.n6; simp; omega) i)
  rw [hc] at this
  refine FCall.frz1 r hr ?_ trivial ⟨trivial, k⟩
  simpa [L] using this
end

end Go.Cw
end

/- How drawn numbers and bytes are read as arguments. -/
section
set_option maxRecDepth 100000
namespace Go.Cw
open Go Go.Proofs

section
variable {w : World} {μ : Mu}

theorem opens_u16 : Opens Pg w μ 53 fun av => ∃ l : List Int, U16ok l ∧ av = [U16 l] :=
  (Opens.intsK (k := .u16) Try.underlying53 (by kernel_rfl) Try.underlying117 (by kernel_rfl)).mono fun av ⟨l, h1, h2, h3⟩ =>
    ⟨l, ⟨Nat.le_trans h1 (by decide +kernel), fun x hx => bounds_u16 (h2 x hx)⟩, h3⟩
theorem opens_u8 : Opens Pg w μ 5 fun av => ∃ n : Int, (0 ≤ n ∧ n ≤ 255) ∧ av = [.int .u8 n] :=
  (Opens.int Try.underlying5 (by kernel_rfl)).mono fun av ⟨n, h1, h2⟩ => ⟨n, bounds_u8 h1, h2⟩
end
end Go.Cw
end
