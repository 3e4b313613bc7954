/-
  Laws of layer 1; how a hull is read as an argument.
-/
import Derived.Test.YtmfpfgdjnhcllaaLb
import Derived.Test.YtmfpfgdjnhcllaaAe
import Derived.Test.YtmfpfgdjnhcllaaAf
import Derived.Test.YtmfpfgdjnhcllaaRows
set_option linter.unusedVariables false
set_option linter.unusedSimpArgs false
set_option linter.unusedSectionVars false

/- The laws Clashes and Names. -/
section
set_option maxRecDepth 100000
set_option linter.unusedSimpArgs false
namespace Go.Cw
open Go Go.Proofs

end Go.Cw
end

/- How a hull is read as an argument. -/
section
set_option maxRecDepth 100000
namespace Go.Cw
open Go Go.Proofs

section
variable {w : World} {μ : Mu}

theorem opens_int : Opens Pg w μ 3 fun av => ∃ n, (Lit.int .i64 n).wf = true ∧ av = [.int .i64 n] := Opens.int Try.underlying3 (by kernel_rfl)
theorem opens_span : Opens Pg w μ 37 fun av => ∃ p : Int × Int, av = [.int .i64 p.1, .int .i64 p.2] := by
  refine (Opens.struct (Vs := [_, _]) Try.underlying37 (by kernel_rfl) ⟨rfl, opens_int, by kernel_rfl, opens_int, trivial⟩).mono ?_
  rintro av ⟨ass, h, rfl⟩
  obtain ⟨a, b, rfl, ⟨n, _, rfl⟩, ⟨m, _, rfl⟩⟩ := h.two
  exact ⟨(n, m), rfl⟩
theorem opens_seam : Opens Pg w μ 59 fun av => ∃ a : Sm, av = a.c := by
  refine (Opens.struct (Vs := [_, _, _]) Try.underlying59 (by kernel_rfl) ⟨rfl, opens_int, by kernel_rfl, opens_int, by kernel_rfl, opens_int, trivial⟩).mono ?_
  rintro av ⟨ass, h, rfl⟩
  obtain ⟨a, b, c, rfl, ⟨n, _, rfl⟩, ⟨m, _, rfl⟩, ⟨k, _, rfl⟩⟩ := h.three
  exact ⟨⟨n, m, k⟩, rfl⟩
theorem opens_sounding : Opens Pg w μ 63 fun av => ∃ a : Sd, av = a.c := by
  refine (Opens.struct (Vs := [_, _, _]) Try.underlying63 (by kernel_rfl) ⟨rfl, opens_int, by kernel_rfl, opens_int, by kernel_rfl, opens_span, trivial⟩).mono ?_
  rintro av ⟨ass, h, rfl⟩
  obtain ⟨a, b, c, rfl, ⟨n, _, rfl⟩, ⟨m, _, rfl⟩, ⟨p, rfl⟩⟩ := h.three
  exact ⟨⟨n, m, p.1, p.2⟩, rfl⟩
theorem c59 : 0 < Pg.cellsOf 59 := by rw [show Pg.cellsOf 59 = 3 by kernel_rfl]; omega
theorem c63 : 0 < Pg.cellsOf 63 := by rw [show Pg.cellsOf 63 = 4 by kernel_rfl]; omega
theorem opens_hull : Opens Pg w μ 25 fun av => ∃ h : Hul, av = h.cells := by
  refine (Opens.struct (Vs := [_, _]) Try.underlying25 (by kernel_rfl) ⟨rfl, Opens.fl Try.underlying22 (by kernel_rfl) c59 opens_seam, by kernel_rfl, Opens.fl Try.underlying23 (by kernel_rfl) c63 opens_sounding, trivial⟩).mono ?_
  rintro av ⟨ass, h, rfl⟩
  obtain ⟨a, b, rfl, ⟨n, rfl⟩, ⟨m, rfl⟩⟩ := h.two
  exact ⟨⟨n, m⟩, rfl⟩
theorem opens_u16 : Opens Pg w μ 43 fun av => ∃ l : List Int, U16ok l ∧ av = [U16 l] :=
  (Opens.intsK (k := .u16) Try.underlying43 (by kernel_rfl) Try.underlying94 (by kernel_rfl)).mono fun av ⟨l, h1, h2, h3⟩ =>
    ⟨l, ⟨Nat.le_trans h1 (by decide +kernel), fun x hx => bounds_u16 (h2 x hx)⟩, h3⟩
theorem opens_u8 : Opens Pg w μ 5 fun av => ∃ n : Int, (0 ≤ n ∧ n ≤ 255) ∧ av = [.int .u8 n] :=
  (Opens.int Try.underlying5 (by kernel_rfl)).mono fun av ⟨n, h1, h2⟩ => ⟨n, bounds_u8 h1, h2⟩
end

theorem kids : Kids Pg (· < Pg.types.size) := kids_rows (by kernel_rfl) (by kernel_rfl)
theorem slices_full : ∀ t e, t < Pg.types.size → Pg.underlying t = some (.slice e) → 0 < Pg.cellsOf e := slices_full_of Pg (by kernel_rfl)
theorem ownKnobNone : ownKnob Pg.godebug = none := by kernel_rfl

end Go.Cw
end

/- Numbers that are drawn; what comes in; a hull that is made, with a truth. -/
section
set_option maxRecDepth 100000
set_option linter.unusedSimpArgs false
namespace Go.Cw
open Go Go.Proofs

/-- The function that draws. -/
def drawV (ra s : Nat) (l : List Int) : AVal := .func (.func fn_law01_draws_1) [] [.ptr ra 0 s, .pv [U16 l]]
@[simp] theorem frz_drawV (r s : Nat) (cells : List AVal) (ra s' : Nat) (l : List Int) (h : ¬ ra = r) : frz r s cells (drawV ra s' l) = drawV ra s' l := by simp [drawV, h]

theorem law01_draws_ok (l : List Int) (ra : Nat) (K : AEnd → Heap → Prop) (hK : ∀ s, K (.ret (drawV ra s l)) (hpV [(ra, .row [.int .i64 0] s)])) : ACalls Pg fn_law01_draws [U16 l] (hpV [(ra, .dead)]) K := by
  obtain ⟨F, hF⟩ : ∃ F, ra < F := ⟨ra + 1, by omega⟩
  have e1 : ∀ k, ¬ F + k = ra := fun k => by omega
  have e2 : ∀ k, ¬ ra = F + k := fun k => by omega
  refine law01_draws.enter F (by simp) ?_
  simp [e1, e2]
  intro s s1
  refine RetV.frz (F + 1) (cells := [U16 l]) (s := s + 1) (by simp [e1, e2]) (RetV.move (F + 3) ra (RetV.view [(ra, .row [.int .i64 0] (s1 + 1))] (by simp [e1, e2]) ?_))
  simpa [drawV] using hK (s1 + 1)

theorem law01_draws_1_ok (l : List Int) (hl : U16ok l) (n : Int) (hn : 0 < n ∧ n ≤ 1000000) (k : Nat) (hk : k ≤ 1000000) (ra s : Nat) (K : AEnd → Heap → Prop)
    (hK : ∀ r : Nat, (r : Int) < n → K (.ret (.int .i64 r)) (hpV [(ra, .row [.int .i64 (k + 1 : Nat)] s)])) : ACalls Pg fn_law01_draws_1 [.int .i64 n, .ptr ra 0 s, .pv [U16 l]] (hpV [(ra, .row [.int .i64 k] s)]) K := by
  obtain ⟨F, hF⟩ : ∃ F, ra < F := ⟨ra + 1, by omega⟩
  have e1 : ∀ k, ¬ F + k = ra := fun k => by omega
  have e2 : ∀ k, ¬ ra = F + k := fun k => by omega
  have fin : ∀ r : Int, 0 ≤ r → r < n → RetV K (hpV [(ra, .row [.int .i64 (k + 1 : Nat)] s)]) (.int .i64 r) := fun r h0 h1 => by
    obtain ⟨r', rfl⟩ := Int.eq_ofNat_of_zero_le h0
    exact RetV.refl (hK r' h1)
  refine law01_draws_1.enter F (by simp) ?_
  simp [e1, e2]
  (repeat first | refine And.intro (by omega) ?_ | refine And.intro (Fits.of (by omega) (by omega)) ?_)
  by_cases h0 : l = []
  · subst h0
    simp [e1, e2]
    (repeat first | refine And.intro (by omega) ?_ | refine And.intro (Fits.of (by omega) (by omega)) ?_)
    have h1 := Int.tmod_nonneg (a := (k : Int) + 1) n (by omega)
    have h2 := Int.tmod_lt_of_pos ((k : Int) + 1) hn.1
    rw [upd_upd]
    simpa using fin _ h1 h2
  · have hpos : 0 < l.length := List.length_pos_iff.2 h0
    have hlen := hl.len
    have h1 := Int.tmod_nonneg (a := (k : Int) + 1) (l.length : Int) (by omega)
    have h2 := Int.tmod_lt_of_pos ((k : Int) + 1) (show (0 : Int) < l.length by omega)
    obtain ⟨i, hi⟩ := Int.eq_ofNat_of_zero_le h1
    have hil : i < l.length := by omega
    have hx := hl.rng l[i] (by simp)
    simp [h0, e1, e2, hi, hil]
    have h3 := Int.tmod_nonneg (a := l[i] + 71 * ((k : Int) + 1)) n (by omega)
    have h4 := Int.tmod_lt_of_pos (l[i] + 71 * ((k : Int) + 1)) hn.1
    refine ⟨Fits.of (by omega) (by omega), Fits.of (by omega) (by omega), Fits.of (by omega) (by omega), by omega, ?_⟩
    rw [upd_upd]
    simpa using fin _ h3 h4

/-- A number is drawn. -/
theorem FCall.draw {F n₀ : Nat} {inr : Bool} {keep : List Nat} {fa fl : List It} {d : Option Nat} {K : KT} {Q : Post} {tm : TM} {df : DF} {h : Heap} {l : List Int} (hl : U16ok l) {n : Int} (hn : 0 < n ∧ n ≤ 1000000) {k : Nat} (hk : k ≤ 1000000) {ra s : Nat} (hr : h ra = .row [.int .i64 k] s) (f : FaOk F fa tm h)
    (next : ∀ r : Nat, (r : Int) < n → FlOk fl (putD tm d (.int .i64 r)) (upd h ra (.row [.int .i64 (k + 1 : Nat)] s)) ∧ K (putD tm d (.int .i64 r)) df (upd h ra (.row [.int .i64 (k + 1 : Nat)] s))) :
    FCall ⟨Pg, F, n₀, inr, keep⟩ (drawV ra s l) [.int .i64 n] fa fl d K Q tm df h := by
  refine FCall.cps [(ra, .row [.int .i64 k] s)] (fun r : Nat => .int .i64 r) (fun _ => [(ra, .row [.int .i64 (k + 1 : Nat)] s)]) (fun r => (r : Int) < n) (fun K' hK' => AInvoke.func ?_) (by simpa using hr) (fun _ => rfl) f (fun r hr => by simpa using next r hr)
  exact law01_draws_1_ok l hl n hn k hk ra s K' hK'

theorem law01_inside_ok (n : Int) (s : Int × Int) : APure Pg fn_law01_inside [.int .i64 n, SP2 s] (.bool (decide (s.1 ≤ n ∧ n ≤ s.2))) := by
  refine law01_inside.pure (by simp) ?_
  by_cases h : s.1 ≤ n <;> simp [h, SP2]
  all_goals intro s1
  all_goals exact RetV.refl (by simp)

theorem law01_wet_ok (a : Sm) (ha : Hul.OkS a) (d l : Int) (hd : Hul.At d l) : APure Pg fn_law01_wet [.agg a.c, .int .i64 d, .int .i64 l] (.bool (decide (a.h ≤ d + a.s * l))) := by
  unfold Hul.OkS at ha
  unfold Hul.At at hd
  have hmul : -3 ≤ a.s * l ∧ a.s * l ≤ 3 := by
    have : a.s = -1 ∨ a.s = 0 ∨ a.s = 1 := by omega
    rcases this with e | e | e <;> rw [e] <;> omega
  refine law01_wet.pure (by simp) ?_
  simp [Sm.c]
  intro s
  (repeat first | refine And.intro (by omega) ?_ | refine And.intro (Fits.of (by omega) (by omega)) ?_)
  exact RetV.refl rfl

theorem sumT_wet {h : Hul} {t : List Int} (ht : t.length = h.n) (d l : Int) : Hul.sumT t (h.wet d l) = sumN h.n fun i => if h.wetP d l i then ofL t i else 0 := by
  unfold Hul.sumT
  rw [ht]
  refine sumN_congr fun j hj => ?_
  unfold Hul.wet
  rw [inS_bits _ hj]

theorem law01_flow_ok (h : Hul) (hn : h.n ≤ 6) (hs : ∀ a ∈ h.seams, Hul.OkS a) (t : List Int) (ht : t.length = h.n) (hb : ∀ i, 0 ≤ ofL t i ∧ ofL t i ≤ 100) (X : AVal) (d l : Int) (hd : Hul.At d l) :
    APure Pg fn_law01_flow [.agg [LS h.seams, X], L t, .int .i64 d, .int .i64 l] (.int .i64 (Hul.sumT t (h.wet d l))) := by
  have hl : h.seams.length = h.n := rfl
  rw [sumT_wet ht]
  refine law01_flow.pure (by simp) ?_
  simp
  intro s4
  refine Lp.intro (σ := Nat) (inv := fun k => k ≤ h.n) (vw := fun k => [(1, L t), (2, .int .i64 d), (3, .int .i64 l), (8, .int .i64 (sumN k fun i => if h.wetP d l i then ofL t i else 0)), (12, LS h.seams), (13, .int .i64 h.n), (14, .int .i64 k)])
    (hp := fun _ => []) (ms := fun k => h.n - k) 0 (by simp) (by simp [sumN, hl]) (by simp) ?_
  intro k hk J hJ
  by_cases hkc : k < h.n
  · have hkl : k < h.seams.length := hkc
    have hkt : k < t.length := by omega
    obtain ⟨a, hak⟩ : ∃ a, h.seams[k] = a := ⟨_, rfl⟩
    have hok := hs a (by rw [← hak]; simp)
    have hp : h.wetP d l k = decide (a.h ≤ d + a.s * l) := by simp [Hul.wetP, hkl, hak]
    have hw := law01_wet_ok a hok d l hd
    have hbk := hb k
    rw [← ofL_at t hkt] at hbk
    have hsum : ∀ k, k ≤ 6 → 0 ≤ (sumN k fun i => if h.wetP d l i then ofL t i else 0) ∧ (sumN k fun i => if h.wetP d l i then ofL t i else 0) ≤ 600 := by
      intro k hk6
      have h1 : ∀ j, j < k → 0 ≤ (if h.wetP d l j then ofL t j else 0) ∧ (if h.wetP d l j then ofL t j else 0) ≤ 100 := fun j _ => by have := hb j; split <;> omega
      have h2 := sumN_nonneg fun j hj => (h1 j hj).1
      have h3 := sumN_le fun j hj => (h1 j hj).2
      constructor
      · exact h2
      · omega
    have hsk := hsum k (by omega)
    simp [hkc, hkl, hak]
    refine ⟨by omega, fun s10 => ?_⟩
    refine PCallK.intro (PInv.func hw) ?_
    by_cases hwk : a.h ≤ d + a.s * l
    · simp [hwk, hkt]
      (repeat first | refine And.intro (by omega) ?_ | refine And.intro (Fits.of (by omega) (by omega)) ?_)
      exact hJ.next (k + 1) (by omega) (by omega) (by simp [sumN, hp, hwk, ofL_at t hkt]) (by simp)
    · simp [hwk, hkt]
      (repeat first | refine And.intro (by omega) ?_ | refine And.intro (Fits.of (by omega) (by omega)) ?_)
      exact hJ.next (k + 1) (by omega) (by omega) (by simp [sumN, hp, hwk, ofL_at t hkt]) (by simp)
  obtain rfl : k = h.n := by omega
  simp
  refine hJ.exit ?_
  simp
  exact RetV.refl rfl
end Go.Cw
end

/- A hull that is made, with a truth. -/
section
set_option maxRecDepth 100000
set_option linter.unusedSimpArgs false
namespace Go.Cw
open Go Go.Proofs

theorem allT_push {ms t : List Int} {m n : Int} (ht : t ∈ allT ms) (hn : 0 ≤ n ∧ n ≤ m) : t ++ [n] ∈ allT (ms ++ [m]) := by
  rw [mem_allT] at ht ⊢
  refine ⟨by simp [ht.1], fun i hi => ?_⟩
  rw [List.length_append] at hi
  by_cases h : i < ms.length
  · have := ht.2 i h
    rw [ofL_push, ofL_push, upd_ne _ _ (by omega), upd_ne _ _ (by omega)]
    exact this
  · obtain rfl : i = ms.length := by simp at hi; omega
    rw [ofL_push, ofL_push, upd_same, ← ht.1, upd_same]
    exact hn

theorem sms_push (S : List Sm) (a : Sm) : sms S ++ a.c = sms (S ++ [a]) := fl_one S a
theorem sds_push (D : List Sd) (a : Sd) : sds D ++ a.c = sds (D ++ [a]) := fl_one D a

theorem law01_made_ok (l : List Int) (hl : U16ok l) (k : Nat) (hk : k ≤ 1000) (ra s : Nat) (K : AEnd → Heap → Prop)
    (hK : ∀ (h : Hul) (t : List Int) (k' : Nat), h.Valid → t ∈ h.truths h.every → k' ≤ k + 1000 → K (.ret (.tup [h.v, L t])) (hpV [(ra, .row [.int .i64 k'] s)])) :
    ACalls Pg fn_law01_made [drawV ra s l] (hpV [(ra, .row [.int .i64 k] s)]) K := by
  obtain ⟨F, hF⟩ : ∃ F, ra < F := ⟨ra + 1, by omega⟩
  have e1 : ∀ k, ¬ F + k = ra := fun k => by omega
  have e2 : ∀ k, ¬ ra = F + k := fun k => by omega
  refine law01_made.enter F (by simp) ?_
  simp [e1, e2]
  intro s2
  refine FCall.draw hl (by omega) (k := k) (by omega) (by simp [e1, e2]) (by simp [e1, e2]) fun r0 hr0 => ?_
  simp [e1, e2]
  (repeat first | refine And.intro (by omega) ?_ | refine And.intro (Fits.of (by omega) (by omega)) ?_)
  refine Lp.intro' (σ := List Sm × List Int × Nat × Nat × Nat) (inv := fun x => x.1.length ≤ r0 + 1 ∧ (∀ a ∈ x.1, Hul.OkS a) ∧ x.2.1 ∈ allT (x.1.map (·.m)) ∧ x.2.2.2.2 ≤ k + 1 + 5 * x.1.length)
    (vw := fun x => [(0, drawV ra s l), (2, .ptr (F+2) 0 (s2+1)), (3, gS 1 (F+38) x.1.length x.2.2.2.1), (11, .int .i64 (1 + r0)), (12, .int .i64 x.1.length)])
    (hp := fun x => [(ra, .row [.int .i64 x.2.2.2.2] s), (F+2, .row [gS 3 (F+34) x.1.length x.2.2.1, .nils] (s2+1)), (F+34, gO x.1.length (sms x.1) x.2.2.1), (F+38, gO x.1.length (ints x.2.1) x.2.2.2.1)])
    (ms := fun x => r0 + 1 - x.1.length) ([], [], 0, 0, k + 1) (by simp [allT])
    (Sl.wk 3 .es (by simpa using ALe.nils_es) (Sl.rowLe (cells := [.nils, .nils]) (s := s2 + 1) (F+2) [.es, .nils] (by simp [e1, e2]) ⟨ALe.nils_es, ALe.refl _, trivial⟩ (Sl.refl ⟨rfl, by simp, by simp [e1, e2]⟩))) ?_
  rintro ⟨S, t, st1, st2, k1⟩ ⟨hS, hok, ht, hk1⟩ J hJ
  simp only at hS hok ht hk1
  have htl : t.length = S.length := by have := (mem_allT.1 ht).1; simpa using this
  by_cases hc : S.length < r0 + 1
  · have hci : (S.length : Int) < 1 + r0 := by omega
    simp [hci, e1, e2]
    refine FCall.draw hl (by omega) (k := k1) (by omega) (by simp [e1, e2]) (by simp [e1, e2]) fun r1 hr1 => ?_
    simp [e1, e2]
    refine FCall.draw hl (by omega) (k := k1 + 1) (by omega) (by simp [e1, e2]) (by simp [e1, e2]) fun r2 hr2 => ?_
    simp [e1, e2]
    (repeat first | refine And.intro (by omega) ?_ | refine And.intro (Fits.of (by omega) (by omega)) ?_)
    refine FCall.draw hl (by omega) (k := k1 + 1 + 1) (by omega) (by simp [e1, e2]) (by simp [e1, e2]) fun r3 hr3 => ?_
    simp [e1, e2]
    intro s4
    have hsp : sms S ++ [AVal.int .i64 r1, .int .i64 ((r2 : Int) - 1), .int .i64 r3] = sms (S ++ [⟨r1, (r2 : Int) - 1, r3⟩]) := sms_push S ⟨r1, (r2 : Int) - 1, r3⟩
    have hoka : Hul.OkS ⟨r1, (r2 : Int) - 1, r3⟩ := by unfold Hul.OkS; simp only []; omega
    refine FCall.draw hl (by omega) (k := k1 + 1 + 1 + 1) (by omega) (by simp [e1, e2]) (by simp [e1, e2]) fun r4 hr4 => ?_
    by_cases h4 : r4 = 0
    · subst h4
      simp [e1, e2]
      (repeat first | refine And.intro (by omega) ?_ | refine And.intro (Fits.of (by omega) (by omega)) ?_)
      refine FCall.draw hl (by omega) (k := k1 + 1 + 1 + 1 + 1) (by omega) (by simp [e1, e2]) (by simp [e1, e2]) fun r5 hr5 => ?_
      simp [e1, e2]
      intro s33 s34
      refine xApN_gS (cells := sms S) (by simp [e1, e2]) (by simp) (by omega) (by omega) ?_
      rw [hsp]
      simp [e1, e2]
      intro s37 s38
      refine xApN_gS (cells := ints t) (by simp [e1, e2]) (by simp [htl]) (by omega) (by omega) ?_
      simp [e1, e2]
      (repeat first | refine And.intro (by omega) ?_ | refine And.intro (Fits.of (by omega) (by omega)) ?_)
      refine hJ.next (S ++ [⟨r1, (r2 : Int) - 1, r3⟩], t ++ [(r5 : Int)], s34 + 1, s38 + 1, k1 + 1 + 1 + 1 + 1 + 1) ⟨by simp; omega, ?_, ?_, by simp; omega⟩ (by simp; omega) (by simp [e1, e2]) (by simp [e1, e2])
      · intro b hb
        rcases List.mem_append.1 hb with hb | hb
        · exact hok b hb
        · obtain rfl : b = ⟨r1, (r2 : Int) - 1, r3⟩ := by simpa using hb
          exact hoka
      · rw [List.map_append]
        exact allT_push ht ⟨by omega, by simp only []; omega⟩
    · simp [h4, e1, e2]
      intro s33 s34
      refine xApN_gS (cells := sms S) (by simp [e1, e2]) (by simp) (by omega) (by omega) ?_
      rw [hsp]
      simp [e1, e2]
      intro s37 s38
      refine xApN_gS (cells := ints t) (by simp [e1, e2]) (by simp [htl]) (by omega) (by omega) ?_
      simp [e1, e2]
      (repeat first | refine And.intro (by omega) ?_ | refine And.intro (Fits.of (by omega) (by omega)) ?_)
      refine hJ.next (S ++ [⟨r1, (r2 : Int) - 1, r3⟩], t ++ [0], s34 + 1, s38 + 1, k1 + 1 + 1 + 1 + 1) ⟨by simp; omega, ?_, ?_, by simp; omega⟩ (by simp; omega) (by simp [e1, e2]) (by simp [e1, e2])
      · intro b hb
        rcases List.mem_append.1 hb with hb | hb
        · exact hok b hb
        · obtain rfl : b = ⟨r1, (r2 : Int) - 1, r3⟩ := by simpa using hb
          exact hoka
      · rw [List.map_append]
        exact allT_push ht ⟨by omega, by simp only []; omega⟩
  have hSl : S.length = r0 + 1 := by omega
  have hci : ¬ (S.length : Int) < 1 + r0 := by omega
  have hS0 : 0 < S.length := by omega
  have htb : ∀ i, 0 ≤ ofL t i ∧ ofL t i ≤ 4 := by
    intro i
    by_cases hi : i < S.length
    · have h1 := (mem_allT.1 ht).2 i (by simpa using hi)
      have h2 := hok S[i] (by simp)
      unfold Hul.OkS at h2
      have : ofL (S.map (·.m)) i = S[i].m := by rw [← ofL_at _ (by simpa using hi)]; simp
      omega
    · rw [ofL_none _ (by omega)]; omega
  have hsb : ∀ w : Int, 0 ≤ Hul.sumT t w ∧ Hul.sumT t w ≤ 24 := by
    intro w
    unfold Hul.sumT
    have h1 : ∀ j, j < t.length → 0 ≤ (if inS w j then ofL t j else 0) ∧ (if inS w j then ofL t j else 0) ≤ 4 := fun j _ => by have := htb j; split <;> omega
    have h2 := sumN_nonneg fun j hj => (h1 j hj).1
    have h3 := sumN_le fun j hj => (h1 j hj).2
    constructor
    · exact h2
    · omega
  simp [hci]
  refine hJ.exitS (Sl.gSH (F+34) (m := S.length) (cells := sms S) (s := st1) hS0 (by simp [e1, e2]) (Sl.gSH (F+38) (m := S.length) (cells := ints t) (s := st2) hS0 (by simp [e1, e2]) (Sl.refl ?_)))
  simp [e1, e2, gS_pos hS0]
  refine FCall.draw hl (by omega) (k := k1) (by omega) (by simp [e1, e2]) (by simp [e1, e2]) fun r9 hr9 => ?_
  simp [e1, e2]
  refine Lp.intro' (σ := List Sd × Nat × Nat) (inv := fun x => x.1.length ≤ r9 ∧ (∀ a ∈ x.1, Hul.OkD a ∧ a.lo ≤ Hul.sumT t ((⟨S, []⟩ : Hul).wet a.d a.l) ∧ Hul.sumT t ((⟨S, []⟩ : Hul).wet a.d a.l) ≤ a.hi) ∧ x.2.2 ≤ k1 + 1 + 4 * x.1.length)
    (vw := fun x => [(0, drawV ra s l), (2, .ptr (F+2) 0 (s2+1)), (3, L t), (42, .int .i64 r9), (43, .int .i64 x.1.length)])
    (hp := fun x => [(ra, .row [.int .i64 x.2.2] s), (F+2, .row [LS S, gS 4 (F+72) x.1.length x.2.1] (s2+1)), (F+72, gO x.1.length (sds x.1) x.2.1)])
    (ms := fun x => r9 - x.1.length) ([], 0, k1 + 1) (by simp)
    (Sl.rowLe (cells := [LS S, .nils]) (s := s2 + 1) (F+2) [LS S, .es] (by simp [e1, e2, LS]) ⟨ALe.refl _, ALe.nils_es, trivial⟩ (Sl.refl ⟨rfl, by simp [L, htl, e1, e2], by simp [e1, e2]⟩)) ?_
  rintro ⟨D, st3, k2⟩ ⟨hD, hokD, hk2⟩ J2 hJ2
  simp only at hD hokD hk2
  by_cases hc9 : D.length < r9
  · simp [hc9, e1, e2]
    refine FCall.draw hl (by omega) (k := k2) (by omega) (by simp [e1, e2]) (by simp [e1, e2]) fun r1 hr1 => ?_
    simp [e1, e2]
    refine FCall.draw hl (by omega) (k := k2 + 1) (by omega) (by simp [e1, e2]) (by simp [e1, e2]) fun r2 hr2 => ?_
    simp [e1, e2]
    (repeat first | refine And.intro (by omega) ?_ | refine And.intro (Fits.of (by omega) (by omega)) ?_)
    have hat : Hul.At r1 ((r2 : Int) - 3) := by unfold Hul.At; omega
    refine PCallK.intro (PInv.func (law01_flow_ok ⟨S, []⟩ (by show S.length ≤ 6; omega) hok t htl (fun i => by have := htb i; omega) _ r1 ((r2 : Int) - 3) hat)) ?_
    obtain ⟨n, hn⟩ : ∃ n, n = Hul.sumT t ((⟨S, []⟩ : Hul).wet r1 ((r2 : Int) - 3)) := ⟨_, rfl⟩
    have hnb := hsb ((⟨S, []⟩ : Hul).wet r1 ((r2 : Int) - 3))
    rw [← hn] at hnb ⊢
    simp [e1, e2]
    refine FCall.draw hl (by omega) (k := k2 + 1 + 1) (by omega) (by simp [e1, e2]) (by simp [e1, e2]) fun r3 hr3 => ?_
    simp [e1, e2]
    (repeat first | refine And.intro (by omega) ?_ | refine And.intro (Fits.of (by omega) (by omega)) ?_)
    refine FCall.draw hl (by omega) (k := k2 + 1 + 1 + 1) (by omega) (by simp [e1, e2]) (by simp [e1, e2]) fun r4 hr4 => ?_
    simp [e1, e2]
    (repeat first | refine And.intro (by omega) ?_ | refine And.intro (Fits.of (by omega) (by omega)) ?_)
    refine PCallK.intro (PInv.func (law01_span_ok _ _)) ?_
    simp [SP2]
    refine ⟨by simp [e1, e2], fun s71 s72 => ?_⟩
    refine xApN_gS (cells := sds D) (by simp [e1, e2]) (by simp) (by omega) (by omega) ?_
    have hdp : sds D ++ [AVal.int .i64 r1, .int .i64 ((r2 : Int) - 3), .int .i64 (max 0 (n - r3)), .int .i64 (min 24 (n + r4))] = sds (D ++ [⟨r1, (r2 : Int) - 3, max 0 (n - r3), min 24 (n + r4)⟩]) := sds_push D ⟨r1, (r2 : Int) - 3, max 0 (n - r3), min 24 (n + r4)⟩
    rw [hdp]
    simp [e1, e2]
    (repeat first | refine And.intro (by omega) ?_ | refine And.intro (Fits.of (by omega) (by omega)) ?_)
    refine hJ2.next (D ++ [⟨r1, (r2 : Int) - 3, max 0 (n - r3), min 24 (n + r4)⟩], s72 + 1, k2 + 1 + 1 + 1 + 1) ⟨by simp; omega, ?_, by simp; omega⟩ (by simp; omega) (by simp [e1, e2]) (by simp [e1, e2])
    intro b hb
    rcases List.mem_append.1 hb with hb | hb
    · exact hokD b hb
    · obtain rfl : b = ⟨r1, (r2 : Int) - 3, max 0 (n - r3), min 24 (n + r4)⟩ := by simpa using hb
      simp only [← hn]
      unfold Hul.OkD
      simp only []
      refine ⟨⟨hat, ?_⟩, ?_⟩ <;> omega
  simp [hc9]
  refine hJ2.exit ?_
  simp [e1, e2]
  refine RetV.le (VLe.tup (LLe.cons (VLe.agg (LLe.cons (VLe.refl _ _) (LLe.cons (VLe.gS (cells := sds D) (by simp [e1, e2]) (by simp)) (LLe.nil _))) rfl) (LLe.cons (VLe.refl _ _) (LLe.nil _))) rfl) ?_
  refine RetV.view [(ra, .row [.int .i64 k2] s)] (by simp [e1, e2]) ?_
  have hva : (⟨S, D⟩ : Hul).Valid := ⟨hS0, by show S.length ≤ 6; omega, by show D.length ≤ 8; omega, hok, fun a ha => (hokD a ha).1⟩
  refine hK ⟨S, D⟩ t k2 hva ?_ (by omega)
  unfold Hul.truths
  rw [List.mem_filter]
  refine ⟨ht, Hul.right_at.2 fun j a hj _ => ?_⟩
  exact (hokD a (List.mem_of_getElem? hj)).2
end Go.Cw
end

/- Plain reckoning on sets and truths. -/
section
set_option maxRecDepth 100000
set_option linter.unusedSimpArgs false
namespace Go.Cw
open Go Go.Proofs

theorem bitsI_andNot (p q : Nat → Bool) {n : Nat} (hn : n ≤ 60) : bitI .andNot .i64 (bits p n) (bits q n) = bits (fun i => p i && !q i) n := by
  have ha := natB_lt62 p hn
  have hb := natB_lt62 q hn
  have hc := natB_lt62 (fun i => p i && !q i) hn
  rw [bits_natB, bits_natB, bits_natB]
  have key : (BitVec.ofNat 64 (natB p n) &&& ~~~(BitVec.ofNat 64 (natB q n))).toNat = natB (fun i => p i && !q i) n := by
    apply Nat.eq_of_testBit_eq
    intro i
    rw [← BitVec.getLsbD, BitVec.getLsbD_and, BitVec.getLsbD_not, BitVec.getLsbD_ofNat, BitVec.getLsbD_ofNat, natB_bit, natB_bit, natB_bit]
    by_cases hi : i < n
    · have : i < 64 := by omega
      simp [hi, this]
    · simp [hi]
  show IntKind.i64.wrap (Int.ofNat (BitVec.ofInt 64 (natB p n : Nat) &&& ~~~(BitVec.ofInt 64 (natB q n : Nat))).toNat) = _
  rw [BitVec.ofInt_natCast, BitVec.ofInt_natCast, key]
  have hh : ((natB (fun i => p i && !q i) n : Nat) : Int) < 2 ^ 62 := by exact_mod_cast hc
  refine wrap_fits ?_
  unfold Fits
  simp only [Int.ofNat_eq_natCast]
  omega

theorem andNot_zero {p q : Nat → Bool} {n : Nat} (hn : n ≤ 60) (h : ∀ i, i < n → p i = true → q i = true) : bitI .andNot .i64 (bits p n) (bits q n) = 0 := by
  rw [bitsI_andNot p q hn, bits_zero]
  intro i hi
  cases hp : p i
  · simp
  · simp [h i hi hp]

theorem bits_pow {i n : Nat} (hi : i < n) : bits (fun j => decide (j = i)) n = 2 ^ i := by
  induction n with
  | zero => omega
  | succ n ih =>
    simp only [bits]
    by_cases h : i = n
    · subst h
      have : bits (fun j => decide (j = i)) i = 0 := bits_zero.2 fun j hj => by simp; omega
      rw [this]; simp
    · rw [ih (by omega)]
      have : ¬ n = i := fun e => h e.symm
      simp [this]
theorem inS_pow {i j n : Nat} (hi : i < n) (hj : j < n) : inS (2 ^ i) j = decide (j = i) := by
  rw [← bits_pow hi, inS_bits _ hj]

theorem sumN_one {n i : Nat} {c : Nat → Int} (hi : i < n) : (sumN n fun j => if j = i then c j else 0) = c i := by
  induction n with
  | zero => omega
  | succ n ih =>
    simp only [sumN]
    by_cases h : i = n
    · subst h
      have : (sumN i fun j => if j = i then c j else 0) = 0 := by
        rw [sumN_congr (c' := fun _ => 0) fun j hj => by rw [if_neg (by omega)]]
        clear ih
        induction i with
        | zero => rfl
        | succ i ih => simp only [sumN]; rw [ih (by omega)]; rfl
      rw [this]; simp
    · rw [ih (by omega), if_neg (fun e => h e.symm)]; simp

theorem sumT_pow {t : List Int} {i : Nat} (hi : i < t.length) : Hul.sumT t (2 ^ i) = ofL t i := by
  unfold Hul.sumT
  rw [← sumN_one (c := ofL t) hi]
  refine sumN_congr fun j hj => ?_
  rw [inS_pow hi hj]
  simp

theorem span_in {l : List Int} {x : Int} (hx : x ∈ l) : (spanOf l).1 ≤ x ∧ x ≤ (spanOf l).2 := by
  have hne : l ≠ [] := by rintro rfl; cases hx
  exact (spanOf_mem hne).2.2 x hx

theorem bestI_spec (g : Int → Int) {l : List Int} (hl : l ≠ []) : (bestI g l).1 ∈ l ∧ (bestI g l).2 = g (bestI g l).1 ∧ ∀ x ∈ l, (bestI g l).2 ≤ g x := by
  induction l using list_push_ind with
  | h0 => exact absurd rfl hl
  | h1 l y ih =>
    by_cases h : l = []
    · subst h; simp [bestI]
    · have := ih h
      rw [bestI_push g l y h]
      split
      · rename_i hlt
        refine ⟨by simp, rfl, fun x hx => ?_⟩
        rcases List.mem_append.1 hx with hx | hx
        · have := this.2.2 x hx; simp only []; omega
        · obtain rfl : x = y := by simpa using hx
          exact Int.le_refl _
      · rename_i hlt
        refine ⟨List.mem_append_left _ this.1, this.2.1, fun x hx => ?_⟩
        rcases List.mem_append.1 hx with hx | hx
        · exact this.2.2 x hx
        · obtain rfl : x = y := by simpa using hx
          omega

namespace Hul
variable {h : Hul}
theorem setsL_mem {s : Int} : s ∈ h.setsL ↔ ∃ t ∈ h.truths h.every, leaksT t = s := by
  unfold setsL
  rw [(sortI_perm _).mem_iff]
  have := seenK_mem (h.truths h.every) (h.truths h.every).length s
  rwa [List.take_length] at this
theorem setsL_lt {i j : Nat} (hj : j < h.setsL.length) (hij : i < j) : h.setsL[i] < h.setsL[j] := by
  have hi : i < h.setsL.length := by omega
  have h1 := List.pairwise_iff_getElem.1 (sortI_sorted (seenK (h.truths h.every))) i j hi hj hij
  have hnd : h.setsL.Nodup := by
    unfold setsL
    rw [(sortI_perm _).nodup_iff]
    have := seenK_nodup (h.truths h.every) (h.truths h.every).length
    rwa [List.take_length] at this
  have h2 := List.pairwise_iff_getElem.1 hnd i j (by omega) hj hij
  have h3 : h.setsL[i] ≤ h.setsL[j] := h1
  omega
theorem setsL_ne (ht : h.truths h.every ≠ []) : h.setsL ≠ [] := by
  obtain ⟨t, l, hl⟩ := List.exists_cons_of_ne_nil ht
  have : leaksT t ∈ h.setsL := setsL_mem.2 ⟨t, by rw [hl]; simp, rfl⟩
  intro e; rw [e] at this; cases this
theorem leaks_can (hv : h.Valid) {t : List Int} (ht : t ∈ h.truths h.every) : bitI .andNot .i64 (leaksT t) (bits (canL (h.truths h.every)) 6) = 0 := by
  rw [← leaks6 hv ht]
  refine andNot_zero (by omega) fun i _ hi => ?_
  unfold canL
  rw [List.any_eq_true]
  exact ⟨t, ht, hi⟩
theorem sure_leaks (hv : h.Valid) {t : List Int} (ht : t ∈ h.truths h.every) : bitI .andNot .i64 (bits (sureL (h.truths h.every)) 6) (leaksT t) = 0 := by
  rw [← leaks6 hv ht]
  refine andNot_zero (by omega) fun i _ hi => ?_
  unfold sureL at hi
  rw [List.all_eq_true] at hi
  exact hi t ht
theorem sets_can (hv : h.Valid) {s : Int} (hs : s ∈ h.setsL) : bitI .andNot .i64 s (bits (canL (h.truths h.every)) 6) = 0 := by
  obtain ⟨t, ht, rfl⟩ := setsL_mem.1 hs
  exact leaks_can hv ht
theorem sure_sets (hv : h.Valid) {s : Int} (hs : s ∈ h.setsL) : bitI .andNot .i64 (bits (sureL (h.truths h.every)) 6) s = 0 := by
  obtain ⟨t, ht, rfl⟩ := setsL_mem.1 hs
  exact sure_leaks hv ht
end Hul
end Go.Cw
end

/- The law True. -/
section
set_option maxRecDepth 100000
set_option linter.unusedSimpArgs false
namespace Go.Cw
open Go Go.Proofs

end Go.Cw
end

/- A hull with a sounding more. -/
section
set_option maxRecDepth 100000
set_option linter.unusedSimpArgs false
namespace Go.Cw
open Go Go.Proofs

namespace Hul
/-- Is a sounding right? -/
def okT (h : Hul) (t : List Int) (a : Sd) : Bool := decide (a.lo ≤ sumT t (h.wet a.d a.l) ∧ sumT t (h.wet a.d a.l) ≤ a.hi)
theorem inS_every {h : Hul} {j : Nat} (hj : j < h.k) : inS h.every j = true := by
  have : h.every = bits (fun _ => true) h.k := by
    unfold every
    generalize h.k = n
    induction n with
    | zero => rfl
    | succ n ih => simp only [bits, if_true]; rw [← ih, Int.pow_succ]; omega
  rw [this, inS_bits _ hj]
theorem right_every {h : Hul} {t : List Int} : h.right h.every t = h.snds.all (h.okT t) := by
  rw [Bool.eq_iff_iff, right_at, List.all_eq_true]
  constructor
  · intro H a ha
    obtain ⟨j, hj, rfl⟩ := List.getElem_of_mem ha
    have := H j h.snds[j] (List.getElem?_eq_getElem hj) (inS_every hj)
    simp [okT, this]
  · intro H j a hj _
    have := H a (List.mem_of_getElem? hj)
    simpa [okT] using this
theorem mem_truths {h : Hul} {t : List Int} : t ∈ h.truths h.every ↔ t ∈ allT h.mosts ∧ ∀ a ∈ h.snds, a.lo ≤ sumT t (h.wet a.d a.l) ∧ sumT t (h.wet a.d a.l) ≤ a.hi := by
  unfold truths
  rw [List.mem_filter, right_every, List.all_eq_true]
  simp [okT]

/-- With a sounding more. -/
def more (h : Hul) (a : Sd) : Hul := ⟨h.seams, h.snds ++ [a]⟩
theorem truths_more (h : Hul) (a : Sd) : (h.more a).truths (h.more a).every = (h.truths h.every).filter fun t => decide (a.lo ≤ sumT t (h.wet a.d a.l) ∧ sumT t (h.wet a.d a.l) ≤ a.hi) := by
  unfold truths
  rw [List.filter_filter]
  refine List.filter_congr fun t _ => ?_
  rw [right_every, right_every]
  show (h.snds ++ [a]).all ((h.more a).okT t) = _
  rw [List.all_append]
  have : (h.more a).okT t = h.okT t := rfl
  rw [this, Bool.and_comm]
  simp [okT]
theorem Valid.more {h : Hul} (hv : h.Valid) (hk : h.k < 8) {a : Sd} (ha : OkD a) : (h.more a).Valid :=
  ⟨hv.n1, hv.n6, by show (h.snds ++ [a]).length ≤ 8; rw [List.length_append]; unfold k at hk; simp; omega, hv.sm, fun b hb => by
    rcases List.mem_append.1 hb with hb | hb
    · exact hv.sd b hb
    · obtain rfl : b = a := by simpa using hb
      exact ha⟩
theorem Valid.small {h : Hul} (hv : h.Valid) : h.Small := ⟨by have := hv.n6; unfold n at this; omega, by have := hv.k8; unfold k at this; omega⟩
end Hul

theorem law01_with_ok (h : Hul) (hk : h.snds.length ≤ 1000) (a : Sd) : APure Pg fn_law01_with [h.v, .agg a.c] (h.more a).v := by
  refine law01_with.pure (by simp) ?_
  simp [Sd.c]
  intro s1 s2 s3
  intro s5 s10 s8
  refine xAp_cp (by simp) (by simp) (by omega) ?_
  simp
  intro s11
  refine xApN_cp (n := h.snds.length) (cs := sds h.snds) (by simp) (by simp) (by simp) (by omega) (by omega) ?_
  have hp : sds h.snds ++ [AVal.int .i64 a.d, .int .i64 a.l, .int .i64 a.lo, .int .i64 a.hi] = sds (h.snds ++ [a]) := fl_one h.snds a
  rw [hp]
  simp
  refine RetV.frz 11 rfl (RetV.refl ?_)
  simp [Hul.more, LD]
end Go.Cw
end

/- The law Ends. -/
section
set_option maxRecDepth 100000
set_option linter.unusedSimpArgs false
namespace Go.Cw
open Go Go.Proofs

namespace Hul
/-- The span of what is told of each truth. -/
def spanT (h : Hul) (q : Int) : Int × Int := spanOf ((h.truths h.every).map (sumT · q))
variable {h : Hul}
theorem spanT_lo (hne : h.truths h.every ≠ []) (q : Int) : ∃ t ∈ h.truths h.every, sumT t q = (h.spanT q).1 := List.mem_map.1 (spanOf_mem (by simpa using hne)).1
theorem spanT_hi (hne : h.truths h.every ≠ []) (q : Int) : ∃ t ∈ h.truths h.every, sumT t q = (h.spanT q).2 := List.mem_map.1 (spanOf_mem (by simpa using hne)).2.1
theorem spanT_in {t : List Int} (ht : t ∈ h.truths h.every) (q : Int) : (h.spanT q).1 ≤ sumT t q ∧ sumT t q ≤ (h.spanT q).2 := span_in (List.mem_map.2 ⟨t, ht, rfl⟩)
theorem sumT_in (hv : h.Valid) {t : List Int} (ht : t ∈ h.truths h.every) (q : Int) : 0 ≤ sumT t q ∧ sumT t q ≤ 24 := by
  have hin := truths_in hv ht
  have hn6 := hv.n6
  unfold sumT
  have h1 : ∀ j, j < t.length → 0 ≤ (if inS q j then ofL t j else 0) ∧ (if inS q j then ofL t j else 0) ≤ 4 := fun j _ => by have := hin.2 j; split <;> omega
  have h2 := sumN_nonneg fun j hj => (h1 j hj).1
  have h3 := sumN_le fun j hj => (h1 j hj).2
  constructor
  · exact h2
  · have := hin.1; omega
theorem one_in (hv : h.Valid) {t : List Int} (ht : t ∈ h.truths h.every) {i : Nat} (hi : i < h.seams.length) : sumT t (2 ^ i) = ofL t i ∧ 0 ≤ ofL t i ∧ ofL t i ≤ h.seams[i].m := by
  have hin := truths_in hv ht
  refine ⟨sumT_pow (by rw [hin.1]; exact hi), (hin.2 i).1, ?_⟩
  have h1 := (mem_allT.1 (mem_truths.1 ht).1).2 i (by rw [mosts_length]; exact hi)
  have : ofL h.mosts i = h.seams[i].m := by rw [← ofL_at _ (by rw [mosts_length]; exact hi)]; simp [mosts]
  omega
theorem sumV_none (hv : h.Valid) {ok : Prop} [Decidable ok] (hok : ok) (hne : h.truths h.every = []) (q : Int) : h.sumV ok q = .tup [SP2 (0, 0), .int .i64 10] := by
  simp [sumV, hv, hok, hne]
theorem sumV_some (hv : h.Valid) {ok : Prop} [Decidable ok] (hok : ok) (hne : h.truths h.every ≠ []) (q : Int) : h.sumV ok q = .tup [SP2 (h.spanT q), .int .i64 0] := by
  simp [sumV, hv, hok, hne, spanT]

/-- What comes in with a sounding of just so much. -/
theorem flow_more (hv : h.Valid) (hk : h.k < 8) {d l : Int} (hat : At d l) {n : Int} (hn : 0 ≤ n ∧ n ≤ 24) :
    (h.more ⟨d, l, n, n⟩).sumV (At d l) ((h.more ⟨d, l, n, n⟩).wet d l) = if ∃ t ∈ h.truths h.every, sumT t (h.wet d l) = n then .tup [SP2 (n, n), .int .i64 0] else .tup [SP2 (0, 0), .int .i64 10] := by
  have hv' : (h.more ⟨d, l, n, n⟩).Valid := hv.more hk ⟨hat, by simp only []; omega⟩
  have hmem : ∀ t, t ∈ (h.more ⟨d, l, n, n⟩).truths (h.more ⟨d, l, n, n⟩).every ↔ t ∈ h.truths h.every ∧ sumT t (h.wet d l) = n := by
    intro t
    rw [truths_more, List.mem_filter]
    simp only [decide_eq_true_eq]
    constructor <;> rintro ⟨a, b⟩ <;> exact ⟨a, by omega⟩
  by_cases hne : (h.more ⟨d, l, n, n⟩).truths (h.more ⟨d, l, n, n⟩).every = []
  · rw [sumV_none hv' hat hne, if_neg]
    rintro ⟨t, h1, h2⟩
    have := (hmem t).2 ⟨h1, h2⟩
    rw [hne] at this
    cases this
  · rw [sumV_some hv' hat hne]
    obtain ⟨t, h1, h2⟩ := spanT_lo hne ((h.more ⟨d, l, n, n⟩).wet d l)
    obtain ⟨u, h3, h4⟩ := spanT_hi hne ((h.more ⟨d, l, n, n⟩).wet d l)
    have a := (hmem t).1 h1
    have b := (hmem u).1 h3
    have e : (h.more ⟨d, l, n, n⟩).wet d l = h.wet d l := rfl
    rw [e] at h2 h4 ⊢
    rw [if_pos ⟨t, a⟩]
    have : (h.more ⟨d, l, n, n⟩).spanT (h.wet d l) = (n, n) := Prod.ext (by rw [← h2]; exact a.2) (by rw [← h4]; exact b.2)
    rw [this]
end Hul

end Go.Cw
end

/- Sets of a hull of which some seams let in nothing. -/
section
set_option maxRecDepth 100000
set_option linter.unusedSimpArgs false
namespace Go.Cw
open Go Go.Proofs

namespace Hul
/-- Of the first k seams only some can let in. -/
def onlyL (p : Nat → Bool) (k : Nat) (l : List Sm) : List Sm := l.mapIdx fun i a => if decide (i < k) && !p i then { a with m := 0 } else a
@[simp] theorem onlyL_length (p : Nat → Bool) (k : Nat) (l : List Sm) : (onlyL p k l).length = l.length := by simp [onlyL]
theorem onlyL_zero (p : Nat → Bool) (l : List Sm) : onlyL p 0 l = l := by
  apply List.ext_getElem (by simp)
  intro i h1 h2
  simp [onlyL]
theorem onlyL_get (p : Nat → Bool) (k : Nat) (l : List Sm) {i : Nat} (hi : i < l.length) : (onlyL p k l)[i]'(by simpa using hi) = if decide (i < k) && !p i then { l[i] with m := 0 } else l[i] := by simp [onlyL]
theorem onlyL_keep {p : Nat → Bool} {k : Nat} (hp : p k = true) (l : List Sm) : onlyL p (k + 1) l = onlyL p k l := by
  apply List.ext_getElem (by simp)
  intro i h1 h2
  rw [onlyL_get _ _ _ (by simpa using h1), onlyL_get _ _ _ (by simpa using h1)]
  by_cases h : i = k
  · subst h; simp [hp]
  · have : decide (i < k + 1) = decide (i < k) := by rw [decide_eq_decide]; omega
    rw [this]
theorem onlyL_step {p : Nat → Bool} {k : Nat} (hp : p k = false) (l : List Sm) (hk : k < l.length) : (onlyL p k l).set k { l[k] with m := 0 } = onlyL p (k + 1) l := by
  apply List.ext_getElem (by simp)
  intro i h1 h2
  have hi : i < l.length := by simpa using h2
  rw [onlyL_get _ _ _ hi, List.getElem_set]
  by_cases h : k = i
  · subst h; simp [hp]
  · rw [if_neg h, onlyL_get _ _ _ hi]
    have : decide (i < k + 1) = decide (i < k) := by rw [decide_eq_decide]; omega
    rw [this]

def only (h : Hul) (p : Nat → Bool) : Hul := ⟨onlyL p h.n h.seams, h.snds⟩
variable {h : Hul} {p : Nat → Bool}
theorem only_n : (h.only p).n = h.n := by simp [only, n]
theorem only_wet (d l : Int) : (h.only p).wet d l = h.wet d l := by
  unfold wet
  rw [only_n]
  refine bits_congr fun i hi => ?_
  have hi' : i < h.seams.length := hi
  have h1 : h.seams[i]? = some h.seams[i] := List.getElem?_eq_getElem hi'
  have h2 : (h.only p).seams[i]? = some (if decide (i < h.n) && !p i then { h.seams[i] with m := 0 } else h.seams[i]) := by
    show (onlyL p h.n h.seams)[i]? = _
    rw [List.getElem?_eq_getElem (by simpa using hi'), onlyL_get _ _ _ hi']
  unfold wetP
  rw [h1, h2]
  simp only []
  split <;> rfl
theorem only_valid (hv : h.Valid) : (h.only p).Valid := by
  refine ⟨by rw [only_n]; exact hv.n1, by rw [only_n]; exact hv.n6, hv.k8, fun a ha => ?_, hv.sd⟩
  obtain ⟨i, hi, rfl⟩ := List.getElem_of_mem ha
  have hi' : i < h.seams.length := by have := hi; simp only [only, onlyL_length] at this; exact this
  have e : (h.only p).seams[i] = if decide (i < h.n) && !p i then { h.seams[i] with m := 0 } else h.seams[i] := onlyL_get _ _ _ hi'
  rw [e]
  have ho := hv.sm h.seams[i] (by simp)
  split
  · unfold OkS at ho ⊢
    simp only []
    omega
  · exact ho
theorem only_most {i : Nat} (hi : i < h.n) : ofL (h.only p).mosts i = if p i then ofL h.mosts i else 0 := by
  have hi' : i < h.seams.length := hi
  rw [← ofL_at _ (show i < (h.only p).mosts.length by rw [mosts_length, only_n]; exact hi), ← ofL_at _ (show i < h.mosts.length by rw [mosts_length]; exact hi)]
  have e : (h.only p).mosts[i]'(by rw [mosts_length, only_n]; exact hi) = ((onlyL p h.n h.seams)[i]'(by simpa using hi')).m := by simp [mosts, only]
  rw [e, onlyL_get _ _ _ hi']
  cases hp : p i
  · simp [hi]
  · simp [mosts]
theorem only_truths (hv : h.Valid) {t : List Int} : t ∈ (h.only p).truths (h.only p).every ↔ t ∈ h.truths h.every ∧ ∀ i, i < h.n → p i = false → ofL t i = 0 := by
  rw [mem_truths, mem_truths, mem_allT, mem_allT, mosts_length, mosts_length, only_n]
  simp only [only_wet]
  show (_ ∧ ∀ a ∈ h.snds, _) ↔ _
  constructor
  · rintro ⟨⟨h1, h2⟩, h3⟩
    refine ⟨⟨⟨h1, fun i hi => ?_⟩, h3⟩, fun i hi hp => ?_⟩
    · have := h2 i hi
      rw [only_most hi] at this
      have hm := hv.most (List.getElem?_eq_getElem (show i < h.mosts.length by rw [mosts_length]; exact hi))
      rw [ofL_at] at hm
      split at this <;> omega
    · have := h2 i hi
      rw [only_most hi, hp] at this
      simp at this
      omega
  · rintro ⟨⟨⟨h1, h2⟩, h3⟩, h4⟩
    refine ⟨⟨h1, fun i hi => ?_⟩, h3⟩
    have := h2 i hi
    rw [only_most hi]
    cases hp : p i
    · have := h4 i hi hp; simp; omega
    · simpa using this
theorem inS_leaks {t : List Int} (ht : t.length = h.n) {i : Nat} (hi : i < h.n) : inS (leaksT t) i = decide (0 < ofL t i) := by
  unfold leaksT
  rw [inS_bits _ (by omega)]
theorem only_sets (hv : h.Valid) {s : Int} : s ∈ (h.only p).setsL ↔ s ∈ h.setsL ∧ ∀ i, i < h.n → inS s i = true → p i = true := by
  rw [setsL_mem, setsL_mem]
  constructor
  · rintro ⟨t, ht, rfl⟩
    rw [only_truths hv] at ht
    refine ⟨⟨t, ht.1, rfl⟩, fun i hi hs => ?_⟩
    have hl := (truths_in hv ht.1).1
    rw [inS_leaks hl hi] at hs
    cases hp : p i
    · have := ht.2 i hi hp
      simp [this] at hs
    · rfl
  · rintro ⟨⟨t, ht, rfl⟩, hs⟩
    have hin := truths_in hv ht
    refine ⟨t, (only_truths hv).2 ⟨ht, fun i hi hp => ?_⟩, rfl⟩
    have h1 := hs i hi
    rw [inS_leaks hin.1 hi, hp] at h1
    have := (hin.2 i).1
    by_cases h0 : 0 < ofL t i
    · simp [h0] at h1
    · omega
theorem setsL_nil (he : h.truths h.every = []) : h.setsL = [] := by
  unfold setsL
  rw [he]
  exact List.eq_nil_of_length_eq_zero (by rw [sortI_length]; rfl)
/-- Sets, whether there is a truth or not. -/
theorem setsV_eq (hv : h.Valid) : h.setsV = .tup [L h.setsL, .int .i64 (if h.truths h.every = [] then 10 else 0)] := by
  by_cases he : h.truths h.every = []
  · simp [setsV, hv, he, setsL_nil he]
  · simp [setsV, hv, he]
theorem leaks_lt {t : List Int} (ht : t.length = h.n) : 0 ≤ leaksT t ∧ leaksT t < 2 ^ h.n := by
  unfold leaksT
  rw [ht]
  exact bits_lt _ _
end Hul
end Go.Cw
end

/- The law Sets. -/
section
set_option maxRecDepth 100000
set_option linter.unusedSimpArgs false
namespace Go.Cw
open Go Go.Proofs

end Go.Cw
end

/- The law Next. -/
section
set_option maxRecDepth 100000
set_option linter.unusedSimpArgs false
namespace Go.Cw
open Go Go.Proofs

theorem bestP_spec (g : Int × Int → Int) {l : List (Int × Int)} (hl : l ≠ []) : ∃ i, ∃ hi : i < l.length, (bestP g l).1 = l[i] ∧ (bestP g l).2 = g l[i] ∧ (∀ j, (hj : j < l.length) → (bestP g l).2 ≤ g l[j]) ∧ ∀ j, (hj : j < i) → (bestP g l).2 < g (l[j]'(by omega)) := by
  induction l using list_push_ind with
  | h0 => exact absurd rfl hl
  | h1 l y ih =>
    by_cases h : l = []
    · subst h
      exact ⟨0, by simp, by simp [bestP], by simp [bestP], fun j hj => by simp [bestP], fun j hj => by omega⟩
    · obtain ⟨i, hi, h1, h2, h3, h4⟩ := ih h
      rw [bestP_push g l y h]
      by_cases hlt : g y < (bestP g l).2
      · rw [if_pos hlt]
        refine ⟨l.length, by simp, by simp, by simp, fun j hj => ?_, fun j hj => ?_⟩
        · by_cases hjl : j < l.length
          · rw [List.getElem_append_left hjl]; have := h3 j hjl; simp only []; omega
          · obtain rfl : j = l.length := by simp at hj; omega
            simp
        · rw [List.getElem_append_left hj]; have := h3 j hj; simp only []; omega
      · rw [if_neg hlt]
        refine ⟨i, by simp; omega, by rw [List.getElem_append_left hi]; exact h1, by rw [List.getElem_append_left hi]; exact h2, fun j hj => ?_, fun j hj => ?_⟩
        · by_cases hjl : j < l.length
          · rw [List.getElem_append_left hjl]; exact h3 j hjl
          · obtain rfl : j = l.length := by simp at hj; omega
            simp; omega
        · rw [List.getElem_append_left (by omega)]; exact h4 j hj

theorem count_filter (T : List (List Int)) (w n : Int) : ((T.filter fun t => decide (n ≤ Hul.sumT t w ∧ Hul.sumT t w ≤ n)).length : Int) = ((T.map (Hul.sumT · w)).count n : Nat) := by
  induction T with
  | nil => rfl
  | cons t T ih =>
    rw [List.map_cons, List.count_cons]
    by_cases h : Hul.sumT t w = n
    · have h1 : decide (n ≤ Hul.sumT t w ∧ Hul.sumT t w ≤ n) = true := by simp; omega
      rw [List.filter_cons, if_pos h1]
      have h2 : (Hul.sumT t w == n) = true := by simpa using h
      rw [h2]
      simp only [List.length_cons, if_true]
      omega
    · have h1 : ¬ decide (n ≤ Hul.sumT t w ∧ Hul.sumT t w ≤ n) = true := by simp; omega
      rw [List.filter_cons, if_neg h1]
      have : (Hul.sumT t w == n) = false := by simpa using h
      rw [this]
      simpa using ih

end Go.Cw
end

/- The law Next: the walk. -/
section
set_option maxRecDepth 100000
set_option linter.unusedSimpArgs false
namespace Go.Cw
open Go Go.Proofs

theorem worst_pos {T : List (List Int)} (hT : T ≠ []) (w : Int) : 1 ≤ worstT T w := by
  obtain ⟨t, l, rfl⟩ := List.exists_cons_of_ne_nil hT
  unfold worstT mostL
  have h1 : (((t :: l).map (Hul.sumT · w)).count (Hul.sumT t w) : Int) ≤ maxL (((t :: l).map (Hul.sumT · w)).map fun n => (((t :: l).map (Hul.sumT · w)).count n : Int)) :=
    maxL_le _ (List.mem_map.2 ⟨_, by simp, rfl⟩)
  have h2 : 0 < ((t :: l).map (Hul.sumT · w)).count (Hul.sumT t w) := List.count_pos_iff.2 (by simp)
  omega

end Go.Cw
end

/- Soundings that clash: what the law asks of a set. -/
section
set_option maxRecDepth 100000
set_option linter.unusedSimpArgs false
namespace Go.Cw
open Go Go.Proofs

namespace Hul
/-- Of the first soundings those of a set. -/
def part (h : Hul) (q : Int) : Nat → List Sd
  | 0 => []
  | k + 1 => match h.snds[k]? with
    | some a => if inS q k then h.part q k ++ [a] else h.part q k
    | none => h.part q k
def partH (h : Hul) (q : Int) : Hul := ⟨h.seams, h.part q h.k⟩
variable {h : Hul} {q : Int}
theorem part_len (k : Nat) : (h.part q k).length ≤ k := by
  induction k with
  | zero => simp [part]
  | succ k ih =>
    unfold part
    split
    · split
      · rw [List.length_append]; simp; omega
      · omega
    · omega
theorem part_mem {k : Nat} {a : Sd} : a ∈ h.part q k ↔ ∃ j, j < k ∧ h.snds[j]? = some a ∧ inS q j = true := by
  induction k with
  | zero => simp [part]
  | succ k ih =>
    unfold part
    constructor
    · intro ha
      split at ha
      · rename_i b hb
        split at ha
        · rename_i hi
          rcases List.mem_append.1 ha with h1 | h1
          · obtain ⟨j, h2, h3⟩ := ih.1 h1
            exact ⟨j, by omega, h3⟩
          · obtain rfl : a = b := by simpa using h1
            exact ⟨k, by omega, hb, hi⟩
        · obtain ⟨j, h2, h3⟩ := ih.1 ha
          exact ⟨j, by omega, h3⟩
      · obtain ⟨j, h2, h3⟩ := ih.1 ha
        exact ⟨j, by omega, h3⟩
    · rintro ⟨j, h1, h2, h3⟩
      by_cases hj : j = k
      · subst hj
        rw [h2]
        simp only [h3, if_true]
        simp
      · have := ih.2 ⟨j, by omega, h2, h3⟩
        split
        · split
          · exact List.mem_append_left _ this
          · exact this
        · exact this
theorem part_valid (hv : h.Valid) (q : Int) : (h.partH q).Valid := by
  refine ⟨hv.n1, hv.n6, ?_, hv.sm, fun a ha => ?_⟩
  · have := part_len (h := h) (q := q) h.k
    have := hv.k8
    show (h.part q h.k).length ≤ 8
    omega
  · obtain ⟨j, _, h2, _⟩ := part_mem.1 ha
    exact hv.sd a (List.mem_of_getElem? h2)
theorem part_truths (h : Hul) (q : Int) : (h.partH q).truths (h.partH q).every = h.truths q := by
  unfold truths
  refine List.filter_congr fun t _ => ?_
  have e : ∀ a, (h.partH q).okT t a = h.okT t a := fun _ => rfl
  rw [right_every, Bool.eq_iff_iff, List.all_eq_true, right_at]
  constructor
  · intro H j a hj hi
    have hjk : j < h.k := (List.getElem?_eq_some_iff.1 hj).1
    have h1 := H a (part_mem.2 ⟨j, hjk, hj, hi⟩)
    rw [e] at h1; simpa [okT] using h1
  · intro H a ha
    obtain ⟨j, _, h2, h3⟩ := part_mem.1 ha
    rw [e]; simpa [okT] using H j a h2 h3
end Hul

end Go.Cw
end

/- The law Clash. -/
section
set_option maxRecDepth 100000
set_option linter.unusedSimpArgs false
namespace Go.Cw
open Go Go.Proofs

theorem sumN_lt {n : Nat} {c c' : Nat → Int} (h : ∀ j, j < n → c j ≤ c' j) (i : Nat) (hi : i < n) (h1 : c i < c' i) : sumN n c < sumN n c' := by
  induction n with
  | zero => omega
  | succ n ih =>
    simp only [sumN]
    have h2 := h n (by omega)
    by_cases hin : i = n
    · subst hin
      have := sumN_mono (n := i) (c := c) (c' := c') fun j hj => h j (by omega)
      omega
    · have := ih (fun j hj => h j (by omega)) (by omega)
      omega
theorem sizeS_bits (p : Nat → Bool) {n : Nat} (hn : n ≤ 60) : sizeS (bits p n) = sumN n fun i => if p i then 1 else 0 := by
  unfold sizeS
  rw [sumN_ext hn]
  · exact sumN_congr fun j hj => by rw [inS_bits p hj]
  · intro i hi
    have hb := bits_lt p n
    have h2 : (2 : Int) ^ n ≤ 2 ^ i := two_pow_le hi
    have : bits p n / 2 ^ i = 0 := Int.ediv_eq_zero_of_lt hb.1 (by omega)
    rw [if_neg]; unfold inS; rw [this]; simp
theorem bits_inS {q : Int} {n : Nat} (hq : 0 ≤ q ∧ q < 2 ^ n) : bits (inS q) n = q := bits_of hq.1 hq.2

namespace Hul
variable {h : Hul}
theorem every_bits (hv : h.Valid) : h.every = bits (fun _ => true) h.k := by
  have he : 0 ≤ h.every ∧ h.every < 2 ^ h.k := by
    have := Hul.every62 hv
    unfold every at this ⊢
    omega
  rw [← bits_inS he]
  exact bits_congr fun j hj => inS_every hj
theorem size_every (hv : h.Valid) {q : Int} (hq : 0 ≤ q ∧ q < 2 ^ h.k) (hne : q ≠ h.every) : sizeS q < sizeS h.every := by
  have hk8 := hv.k8
  by_cases hall : ∀ j, j < h.k → inS q j = true
  · exact absurd (by rw [every_bits hv, ← bits_inS hq]; exact bits_congr fun j hj => hall j hj) hne
  · obtain ⟨j, hj⟩ := Classical.not_forall.1 hall
    obtain ⟨hjk, hj⟩ := Classical.not_imp.1 hj
    rw [every_bits hv, ← bits_inS hq, sizeS_bits _ (by omega), sizeS_bits _ (by omega)]
    refine sumN_lt (fun i _ => ?_) j hjk ?_
    · split <;> simp
    · rw [if_neg hj]; simp
theorem size_less (hv : h.Valid) {q : Int} (hq : 0 ≤ q ∧ q < 2 ^ h.k) {j : Nat} (hj : j < h.k) (hi : inS q j = true) :
    ∃ r, bitI .andNot .i64 q (2 ^ j) = r ∧ (0 ≤ r ∧ r < 2 ^ h.k) ∧ sizeS r < sizeS q := by
  have hk8 := hv.k8
  refine ⟨_, rfl, ?_⟩
  have e : bitI .andNot .i64 q (2 ^ j) = bits (fun i => inS q i && !decide (i = j)) h.k := by
    rw [← bitsI_andNot _ _ (by omega), bits_inS hq, bits_pow hj]
  rw [e]
  refine ⟨bits_lt _ _, ?_⟩
  conv => rhs; rw [← bits_inS hq]
  rw [sizeS_bits _ (by omega), sizeS_bits _ (by omega)]
  refine sumN_lt (fun i _ => ?_) j hj ?_
  · cases inS q i <;> simp
    split <;> simp
  · simp [hi]
theorem truths_zero (hv : h.Valid) : h.truths 0 ≠ [] := by
  have : (List.replicate h.n (0 : Int)) ∈ h.truths 0 := by
    unfold truths
    refine List.mem_filter.2 ⟨mem_allT.2 ⟨by simp, fun i hi => ?_⟩, ?_⟩
    · have hi' : i < h.n := by simpa using hi
      have hm : h.mosts[i]? = some h.mosts[i] := List.getElem?_eq_getElem hi
      have := hv.most hm
      have e1 : ofL (List.replicate h.n (0 : Int)) i = 0 := by simp [ofL, hi']
      have e2 : ofL h.mosts i = h.mosts[i] := by unfold ofL; rw [List.getD_eq_getElem?_getD, hm]; rfl
      rw [e1, e2]; omega
    · unfold right
      rw [List.all_eq_true]
      intro j hj
      unfold sndB
      split
      · simp [inS]
      · rfl
  intro e; rw [e] at this; cases this
theorem clashB_spec (hv : h.Valid) (hne : h.truths h.every = []) (k : Nat) (hk : k ≤ 2 ^ h.k) :
    h.truths (h.clashB k) = [] ∧ (h.clashB k < k ∨ h.clashB k = h.every) ∧ ∀ q : Int, 0 ≤ q → q < k → h.truths q = [] → sizeS (h.clashB k) < sizeS q ∨ (sizeS (h.clashB k) = sizeS q ∧ h.clashB k ≤ q) := by
  induction k with
  | zero => exact ⟨hne, .inr rfl, fun q h1 h2 => by omega⟩
  | succ k ih =>
    obtain ⟨i1, i2, i3⟩ := ih (by omega)
    have hsz := h.clashB_size k
    have hkk : ((k + 1 : Nat) : Int) ≤ ((2 ^ h.k : Nat) : Int) := by exact_mod_cast hk
    rw [Int.natCast_pow] at hkk
    unfold clashB
    split
    · rename_i hc
      refine ⟨hc.2, .inl (by omega), fun q h1 h2 h3 => ?_⟩
      by_cases hqk : q = k
      · subst hqk; exact .inr ⟨rfl, Int.le_refl _⟩
      · rcases i3 q h1 (by omega) h3 with h4 | ⟨h4, h5⟩
        · left; omega
        · left; omega
    · rename_i hc
      refine ⟨i1, by omega, fun q h1 h2 h3 => ?_⟩
      by_cases hqk : q = k
      · subst hqk
        have h4 : ¬ sizeS k < sizeS (h.clashB k) := fun h4 => hc ⟨h4, h3⟩
        by_cases h5 : sizeS (h.clashB k) < sizeS k
        · exact .inl h5
        · refine .inr ⟨by omega, ?_⟩
          rcases i2 with h6 | h6
          · omega
          · rw [h6]
            have : (k : Int) = h.every := by
              by_cases h7 : (k : Int) = h.every
              · exact h7
              · have := size_every hv (q := k) ⟨by omega, by simp at hkk; omega⟩ h7
                rw [h6] at h4
                omega
            omega
      · exact i3 q h1 (by omega) h3
theorem mask_in (hv : h.Valid) {m : Int} (hm : 0 ≤ m ∧ m ≤ 255) : ∃ o, bitI .and .i64 m h.every = o ∧ (0 ≤ o ∧ o ≤ h.every) := by
  have he := Hul.every62 hv
  obtain ⟨a, ha⟩ : ∃ a : Nat, m = a := ⟨m.toNat, by omega⟩
  obtain ⟨b, hb⟩ : ∃ b : Nat, h.every = b := ⟨h.every.toNat, by omega⟩
  refine ⟨_, rfl, ?_⟩
  rw [hb, ha, bitI_and a b (by omega) (by omega)]
  have : a &&& b ≤ b := Nat.and_le_right
  omega
end Hul

end Go.Cw
end

/- Fewer truths: what then can leak, must leak; a sounding narrowed. -/
section
set_option maxRecDepth 100000
set_option linter.unusedSimpArgs false
namespace Go.Cw
open Go Go.Proofs

namespace Hul
variable {h z : Hul}
theorem sub_can (sub : ∀ t ∈ z.truths z.every, t ∈ h.truths h.every) : bitI .andNot .i64 (bits (canL (z.truths z.every)) 6) (bits (canL (h.truths h.every)) 6) = 0 := by
  refine andNot_zero (by omega) fun i _ hi => ?_
  unfold canL at hi ⊢
  rw [List.any_eq_true] at hi ⊢
  obtain ⟨t, ht, h1⟩ := hi
  exact ⟨t, sub t ht, h1⟩
theorem sub_sure (sub : ∀ t ∈ z.truths z.every, t ∈ h.truths h.every) : bitI .andNot .i64 (bits (sureL (h.truths h.every)) 6) (bits (sureL (z.truths z.every)) 6) = 0 := by
  refine andNot_zero (by omega) fun i _ hi => ?_
  unfold sureL at hi ⊢
  rw [List.all_eq_true] at hi ⊢
  exact fun t ht => hi t (sub t ht)
theorem sub_sets (sub : ∀ t ∈ z.truths z.every, t ∈ h.truths h.every) {s : Int} (hs : s ∈ z.setsL) : s ∈ h.setsL := by
  obtain ⟨t, ht, rfl⟩ := setsL_mem.1 hs
  exact setsL_mem.2 ⟨t, sub t ht, rfl⟩
theorem sub_few (sub : ∀ t ∈ z.truths z.every, t ∈ h.truths h.every) (hz : z.truths z.every ≠ []) : ¬ (bestI sizeS z.setsL).2 < (bestI sizeS h.setsL).2 := by
  have h1 := bestI_spec sizeS (setsL_ne hz)
  have hh : h.truths h.every ≠ [] := by
    obtain ⟨t, l, hl⟩ := List.exists_cons_of_ne_nil hz
    intro e
    have := sub t (by rw [hl]; simp)
    rw [e] at this; cases this
  have h2 := (bestI_spec sizeS (setsL_ne hh)).2.2 _ (sub_sets sub h1.1)
  rw [← h1.2.1] at h2
  omega
theorem sub_span (sub : ∀ t ∈ z.truths z.every, t ∈ h.truths h.every) (hz : z.truths z.every ≠ []) (q : Int) : (h.spanT q).1 ≤ (z.spanT q).1 ∧ (z.spanT q).2 ≤ (h.spanT q).2 := by
  obtain ⟨t, ht, e⟩ := spanT_lo hz q
  obtain ⟨u, hu, f⟩ := spanT_hi hz q
  have h1 := spanT_in (sub t ht) q
  have h2 := spanT_in (sub u hu) q
  omega
theorem sub_ne (sub : ∀ t ∈ z.truths z.every, t ∈ h.truths h.every) (hz : z.truths z.every ≠ []) : h.truths h.every ≠ [] := by
  obtain ⟨t, l, hl⟩ := List.exists_cons_of_ne_nil hz
  intro e
  have := sub t (by rw [hl]; simp)
  rw [e] at this; cases this
theorem more_sub (a : Sd) : ∀ t ∈ (h.more a).truths (h.more a).every, t ∈ h.truths h.every := by
  intro t ht
  rw [truths_more] at ht
  exact (List.mem_filter.1 ht).1
/-- The lower end of a sounding goes up. -/
def upD (a : Sd) : Sd := ⟨a.d, a.l, min a.hi (a.lo + 1), a.hi⟩
def upH (h : Hul) (i : Nat) : Hul := ⟨h.seams, match h.snds[i]? with | some a => h.snds.set i (upD a) | none => h.snds⟩
theorem upH_len (i : Nat) : (h.upH i).snds.length = h.snds.length := by
  unfold upH
  split <;> simp
theorem upH_sub (hv : h.Valid) (i : Nat) : ∀ t ∈ (h.upH i).truths (h.upH i).every, t ∈ h.truths h.every := by
  intro t ht
  rw [mem_truths] at ht ⊢
  refine ⟨ht.1, fun a ha => ?_⟩
  obtain ⟨j, hj, rfl⟩ := List.getElem_of_mem ha
  have h2 : ∀ b ∈ (h.upH i).snds, b.lo ≤ sumT t (h.wet b.d b.l) ∧ sumT t (h.wet b.d b.l) ≤ b.hi := ht.2
  by_cases hij : i = j
  · subst hij
    have hm : upD h.snds[i] ∈ (h.upH i).snds := by
      unfold upH
      rw [List.getElem?_eq_getElem hj]
      exact List.mem_of_getElem? (by rw [List.getElem?_set_self hj] : (h.snds.set i (upD h.snds[i]))[i]? = some _)
    have := h2 _ hm
    have h3 := (hv.sd _ ha).2
    simp only [upD] at this
    omega
  · refine h2 _ ?_
    unfold upH
    split
    · refine List.mem_of_getElem? (i := j) ?_
      rw [List.getElem?_set_ne hij, List.getElem?_eq_getElem hj]
    · exact ha
end Hul

theorem law01_LeakMore_1_ok (a b : Int × Int) : APure Pg fn_law01_LeakMore_1 [SP2 a, SP2 b] (.bool (decide (b.1 ≤ a.1 ∧ a.2 ≤ b.2))) := by
  refine law01_LeakMore_1.pure (by simp [SP2]) ?_
  simp [SP2]
  intro s2 s3
  by_cases h1 : b.1 ≤ a.1
  · simp [h1]
    exact RetV.refl (by simp)
  · simp [h1]
    exact RetV.refl (by simp)
end Go.Cw
end

/- The law More: the walk. -/
section
set_option maxRecDepth 100000
set_option linter.unusedSimpArgs false
namespace Go.Cw
open Go Go.Proofs

namespace law01_LeakMore
noncomputable def body : IR := (.seq (.ops law01_LeakMore.r16) (.seq (.cond (.t 133) .skip (.exit 0)) (.seq (.block 1 (.seq (.ops law01_LeakMore.r17) (.seq (.seq (.ops law01_LeakMore.r18) (.cond (.t 138) (.exit 1) .skip)) (.seq (.ops law01_LeakMore.r19) (.seq (.seq (.ops law01_LeakMore.r20) (.cond (.t 146) (.seq (.seq (.ops law01_LeakMore.r21) (.cond (.t 148) (.seq (.ops law01_LeakMore.r22) .ret) .skip)) (.exit 1)) .skip)) (.seq (.ops law01_LeakMore.r23) (.seq (.ops law01_LeakMore.r24) (.seq (.ops law01_LeakMore.r25) (.seq (.seq (.ops law01_LeakMore.r26) (.cond (.t 216) (.seq (.ops law01_LeakMore.r27) .ret) .skip)) (.seq (.ops law01_LeakMore.r28) (.seq (.seq (.ops law01_LeakMore.r29) (.block 2 (.loop (.seq (.ops law01_LeakMore.r30) (.seq (.cond (.t 220) .skip (.exit 2)) (.seq (.block 3 (.seq (.ops law01_LeakMore.r31) (.seq (.block 4 (.loop (.seq (.seq (.ops law01_LeakMore.r32) (.cond (.t 234) .skip (.exit 4))) (.block 5 (.ops law01_LeakMore.r33))))) (.seq (.ops law01_LeakMore.r34) (.cond (.t 248) (.seq (.ops law01_LeakMore.r35) .ret) .skip))))) (.ops law01_LeakMore.r36))))))) (.seq (.ops law01_LeakMore.r37) (.block 6 (.loop (.seq (.ops law01_LeakMore.r38) (.seq (.cond (.t 254) .skip (.exit 6)) (.seq (.block 7 (.seq (.ops law01_LeakMore.r39) (.seq (.ops law01_LeakMore.r40) (.seq (.ops law01_LeakMore.r41) (.seq (.ops law01_LeakMore.r42) (.cond (.t 280) (.seq (.ops law01_LeakMore.r43) .ret) .skip)))))) (.ops law01_LeakMore.r44)))))))))))))))))) (.ops law01_LeakMore.r45))))
end law01_LeakMore

theorem law01_LeakMore_round (h : Hul) (hv : h.Valid) (Z : Nat → Hul) (hZ : ∀ k, k < 2 → (Z k).seams = h.seams ∧ (Z k).Small ∧ ∀ t ∈ (Z k).truths (Z k).every, t ∈ h.truths h.every)
    (d a : Int) (hat : Hul.At d a) (can sure e many f g i9 : Int) (l : List Int) (w : Int × Int) (s5 s26 s130 : Nat)
    (hL0 : h.truths h.every ≠ [] → can = bits (canL (h.truths h.every)) 6 ∧ sure = bits (sureL (h.truths h.every)) 6 ∧ e = 0)
    (hF0 : h.truths h.every ≠ [] → many = (bestI sizeS h.setsL).2 ∧ f = 0) (hS0 : h.truths h.every ≠ [] → l = h.setsL ∧ g = 0)
    (hW0 : h.truths h.every ≠ [] → w = h.spanT (h.wet d a) ∧ i9 = 0) (k : Nat) (hk : k < 2) (J : Post)
    (next : ∀ tm h', Vw [(5, .ptr 5 0 (s5+1)), (15, .int .i64 d), (16, .int .i64 a), (17, .func (.func fn_law01_LeakMore_1) [] []), (18, .int .i64 can), (19, .int .i64 sure), (20, .int .i64 e), (21, .int .i64 many), (23, .int .i64 f), (24, L l), (25, .int .i64 g), (26, .ptr 26 0 (s26+1)), (27, .int .i64 i9), (130, .sl 130 0 (s130+1) 2 (.ex 2)), (131, .int .i64 2), (132, .int .i64 (k+1 : Nat))] tm →
      Hw [(5, .row h.cells (s5+1)), (26, .row [.int .i64 w.1, .int .i64 w.2] (s26+1)), (130, .row ((Z 0).cells ++ (Z 1).cells) (s130+1))] h' → J .normal tm [] h') :
    AW { P := Pg, F := 0, n := 284 } law01_LeakMore.body J (tmV [(5, .ptr 5 0 (s5+1)), (15, .int .i64 d), (16, .int .i64 a), (17, .func (.func fn_law01_LeakMore_1) [] []), (18, .int .i64 can), (19, .int .i64 sure), (20, .int .i64 e), (21, .int .i64 many), (23, .int .i64 f), (24, L l), (25, .int .i64 g), (26, .ptr 26 0 (s26+1)), (27, .int .i64 i9), (130, .sl 130 0 (s130+1) 2 (.ex 2)), (131, .int .i64 2), (132, .int .i64 k)]) []
      (hpV [(5, .row h.cells (s5+1)), (26, .row [.int .i64 w.1, .int .i64 w.2] (s26+1)), (130, .row ((Z 0).cells ++ (Z 1).cells) (s130+1))]) := by
  obtain ⟨hse, hsm, hsub⟩ := hZ k hk
  obtain ⟨z, hz⟩ : ∃ z, z = Z k := ⟨_, rfl⟩
  have hcut : ((((Z 0).cells ++ (Z 1).cells).drop (k * 2)).take 2) = [LS z.seams, LD z.snds] := by
    subst hz
    rcases Nat.lt_succ_iff_lt_or_eq.1 hk with h1 | h1
    · obtain rfl : k = 0 := by omega
      simp [Hul.cells]
    · subst h1
      simp [Hul.cells]
  rw [← hz] at hse hsm hsub
  unfold law01_LeakMore.body
  have hlen : ((Z 0).cells ++ (Z 1).cells).length = 4 := by simp [Hul.cells]
  simp [show (k : Int) < 2 by omega, hcut, hlen]
  refine ⟨by omega, fun s29 => ?_⟩
  refine PCallK.intro (PInv.func (first := []) (cap := []) (args := [z.v]) (ref01_Hull_ok z hsm)) ?_
  by_cases zv : ¬ z.Valid
  · simp [zv]
    (repeat first | refine And.intro (by omega) ?_ | refine And.intro (Fits.of (by omega) (by omega)) ?_)
    exact next _ _ (by simp) (by simp [Hul.cells])
  replace zv := Classical.not_not.1 zv
  simp [zv]
  refine PCallK.intro (PInv.func (first := []) (cap := []) (args := [z.v]) (leak_Leaks_ok z hsm)) ?_
  by_cases zne : z.truths z.every = []
  · rw [show z.leaksV = .tup [.int .i64 0, .int .i64 0, .int .i64 10] by simp [Hul.leaksV, zv, zne]]
    simp
    (repeat first | refine And.intro (by omega) ?_ | refine And.intro (Fits.of (by omega) (by omega)) ?_)
    exact next _ _ (by simp) (by simp [Hul.cells])
  have hne := Hul.sub_ne hsub zne
  obtain ⟨hcan, hsure, he⟩ := hL0 hne
  obtain ⟨hmany, hf⟩ := hF0 hne
  obtain ⟨hl, hg⟩ := hS0 hne
  obtain ⟨hw, hi9⟩ := hW0 hne
  clear hL0 hF0 hS0 hW0
  subst he hf hg hi9
  obtain ⟨zcan, hzcan⟩ : ∃ x, x = bits (canL (z.truths z.every)) 6 := ⟨_, rfl⟩
  obtain ⟨zsure, hzsure⟩ : ∃ x, x = bits (sureL (z.truths z.every)) 6 := ⟨_, rfl⟩
  obtain ⟨zfew, hzfew⟩ : ∃ x, x = bestI sizeS z.setsL := ⟨_, rfl⟩
  obtain ⟨m, hm⟩ : ∃ x, x = z.setsL := ⟨_, rfl⟩
  obtain ⟨v, hvv⟩ : ∃ x, x = z.spanT (z.wet d a) := ⟨_, rfl⟩
  have f1 := Hul.sub_can hsub
  have f2 := Hul.sub_sure hsub
  have f3 := Hul.sub_few hsub zne
  have f4 := Hul.sub_span hsub zne (h.wet d a)
  have hwz : z.wet d a = h.wet d a := by obtain ⟨zse, zsn⟩ := z; subst hse; rfl
  rw [← hzcan, ← hcan] at f1
  rw [← hzsure, ← hsure] at f2
  rw [← hzfew, ← hmany] at f3
  rw [← hwz, ← hvv, hwz, ← hw] at f4
  rw [show z.leaksV = .tup [.int .i64 zcan, .int .i64 zsure, .int .i64 0] by rw [hzcan, hzsure]; simp [Hul.leaksV, zv, zne]]
  simp
  have cF := leak_Fewest_ok z hsm
  rw [show z.fewV = .tup [.int .i64 zfew.2, .int .i64 zfew.1, .int .i64 0] by rw [hzfew]; simp [Hul.fewV, zv, zne]] at cF
  have cS := leak_Sets_ok z hsm
  rw [show z.setsV = .tup [L m, .int .i64 0] by rw [hm]; simp [Hul.setsV, zv, zne]] at cS
  have cW := leak_Flow_ok z hsm d a
  rw [Hul.sumV_some zv hat zne, ← hvv] at cW
  refine PCallK.intro (PInv.func (first := []) (cap := []) (args := [z.v]) cF) ?_
  simp
  refine PCallK.intro (PInv.func (first := []) (cap := []) (args := [z.v]) cS) ?_
  simp
  refine PCallK.intro (PInv.func (first := []) (cap := []) (args := [z.v, .int .i64 d, .int .i64 a]) cW) ?_
  simp [SP2]
  intro s38
  have cIn := law01_LeakMore_1_ok v w
  simp [f1, f2, f3]
  refine FCall.pure' (v := .bool true) (PInv.func (first := []) (cap := []) (args := [SP2 v, SP2 w]) (by rw [show decide (w.1 ≤ v.1 ∧ v.2 ≤ w.2) = true by simpa using f4] at cIn; exact cIn)) (by simp) (by simp) ?_
  have hml : ∀ s ∈ m, s ∈ l := by rw [hm, hl]; exact fun s hs => Hul.sub_sets hsub hs
  have hlt : ∀ i j, (hj : j < l.length) → (hij : i < j) → l[i] < l[j] := by rw [hl]; exact fun i j hj hij => Hul.setsL_lt hj hij
  have hmt : ∀ i j, (hj : j < m.length) → (hij : i < j) → m[i] < m[j] := by rw [hm]; exact fun i j hj hij => Hul.setsL_lt hj hij
  have hll : l.length ≤ 100000 := by rw [hl]; have := Hul.setsL_len hv; omega
  have hmm : m.length ≤ 100000 := by rw [hm]; have := Hul.setsL_len zv; omega
  simp
  refine Lp.intro (σ := Nat × Nat) (inv := fun x => x.1 ≤ m.length ∧ x.2 ≤ l.length ∧ ∀ i, (hi : i < l.length) → i < x.2 → ∀ p, (hp : p < m.length) → x.1 ≤ p → l[i] < m[p])
    (vw := fun x => [(5, .ptr 5 0 (s5+1)), (15, .int .i64 d), (16, .int .i64 a), (17, .func (.func fn_law01_LeakMore_1) [] []), (18, .int .i64 can), (19, .int .i64 sure), (20, .int .i64 0), (21, .int .i64 many), (23, .int .i64 0), (24, L l), (25, .int .i64 0), (26, .ptr 26 0 (s26+1)), (27, .int .i64 0), (130, .sl 130 0 (s130+1) 2 (.ex 2)), (131, .int .i64 2), (132, .int .i64 k), (29, .ptr 29 0 (s29+1)), (40, .int .i64 x.2), (217, L m), (218, .int .i64 m.length), (219, .int .i64 x.1)])
    (hp := fun _ => [(5, .row h.cells (s5+1)), (26, .row [.int .i64 w.1, .int .i64 w.2] (s26+1)), (29, .row z.cells (s29+1)), (130, .row ((Z 0).cells ++ (Z 1).cells) (s130+1))]) (ms := fun x => m.length - x.1) (0, 0) (by simp) (by simp) (by simp [Hul.cells]) ?_
  · rintro ⟨j, at0⟩ ⟨hj0, ha0, hlow⟩ J1 hJ1
    simp only at hj0 ha0 hlow
    by_cases hjc : j < m.length
    · obtain ⟨sv, hsv⟩ : ∃ sv, m[j] = sv := ⟨_, rfl⟩
      simp [hjc, hsv]
      refine Lp.intro (σ := Nat) (inv := fun q => q ≤ l.length ∧ ∀ i, (hi : i < l.length) → i < q → l[i] < sv)
        (vw := fun q => [(5, .ptr 5 0 (s5+1)), (15, .int .i64 d), (16, .int .i64 a), (17, .func (.func fn_law01_LeakMore_1) [] []), (18, .int .i64 can), (19, .int .i64 sure), (20, .int .i64 0), (21, .int .i64 many), (23, .int .i64 0), (24, L l), (25, .int .i64 0), (26, .ptr 26 0 (s26+1)), (27, .int .i64 0), (130, .sl 130 0 (s130+1) 2 (.ex 2)), (131, .int .i64 2), (132, .int .i64 k), (29, .ptr 29 0 (s29+1)), (40, .int .i64 q), (42, .int .i64 sv), (217, L m), (218, .int .i64 m.length), (219, .int .i64 j)])
        (hp := fun _ => [(5, .row h.cells (s5+1)), (26, .row [.int .i64 w.1, .int .i64 w.2] (s26+1)), (29, .row z.cells (s29+1)), (130, .row ((Z 0).cells ++ (Z 1).cells) (s130+1))]) (ms := fun q => l.length - q) at0 ⟨ha0, fun i hi hi2 => by rw [← hsv]; exact hlow i hi hi2 j hjc (Nat.le_refl _)⟩ (by simp) (by simp) ?_
      rintro q ⟨hq, hqs⟩ J2 hJ2
      have hex : ∃ p, ∃ hp : p < l.length, l[p] = sv := List.getElem_of_mem (hml sv (by rw [← hsv]; exact List.getElem_mem hjc))
      obtain ⟨p, hp, hpv⟩ := hex
      have hqp : q ≤ p := Nat.le_of_not_lt fun hlt' => by have := hqs p hp hlt'; omega
      have hql : q < l.length := by omega
      obtain ⟨lv, hlv⟩ : ∃ lv, l[q] = lv := ⟨_, rfl⟩
      by_cases hls : lv < sv
      · simp [hql, hlv, hls]
        (repeat first | refine And.intro (by omega) ?_ | refine And.intro (Fits.of (by omega) (by omega)) ?_)
        refine hJ2.next (q + 1) ⟨by omega, fun i hi hi2 => ?_⟩ (by omega) (by simp) (by simp)
        by_cases hiq : i = q
        · subst hiq; rw [hlv]; exact hls
        · exact hqs i hi (by omega)
      · have hlse : lv = sv := by
          by_cases hpq : p = q
          · subst hpq; rw [← hlv, hpv]
          · have := hlt q p hp (by omega); omega
        simp [hql, hlv, hls]
        refine hJ2.exit ?_
        have hqn : ¬ q = l.length := by omega
        simp [hql, hqn, hlv, hlse]
        (repeat first | refine And.intro (by omega) ?_ | refine And.intro (Fits.of (by omega) (by omega)) ?_)
        refine hJ1.next (j + 1, q) ⟨by omega, by omega, fun i hi hi2 p' hp' hj' => ?_⟩ (by simp; omega) (by simp) (by simp)
        have h1 := hqs i hi hi2
        have h2 := hmt j p' hp' (by omega)
        omega
    obtain rfl : j = m.length := by omega
    simp
    refine hJ1.exit ?_
    have hnl : h.seams.length = h.n := rfl
    have hn6 := hv.n6
    simp [Hul.cells]
    refine Lp.intro (σ := Nat) (inv := fun q => q ≤ h.n) (vw := fun q => [(5, .ptr 5 0 (s5+1)), (15, .int .i64 d), (16, .int .i64 a), (17, .func (.func fn_law01_LeakMore_1) [] []), (18, .int .i64 can), (19, .int .i64 sure), (20, .int .i64 0), (21, .int .i64 many), (23, .int .i64 0), (24, L l), (25, .int .i64 0), (26, .ptr 26 0 (s26+1)), (27, .int .i64 0), (130, .sl 130 0 (s130+1) 2 (.ex 2)), (131, .int .i64 2), (132, .int .i64 k), (29, .ptr 29 0 (s29+1)), (252, .int .i64 h.n), (253, .int .i64 q)])
      (hp := fun _ => [(5, .row h.cells (s5+1)), (26, .row [.int .i64 w.1, .int .i64 w.2] (s26+1)), (29, .row z.cells (s29+1)), (130, .row ((Z 0).cells ++ (Z 1).cells) (s130+1))]) (ms := fun q => h.n - q) 0 (by simp) (by simp [hnl]) (by simp [Hul.cells]) ?_
    intro q hq J2 hJ2
    by_cases hqc : q < h.n
    · have hsq : h.Seam q := ⟨by omega, by omega⟩
      have hnz : z.n = h.n := by unfold Hul.n; rw [hse]
      have hsz : z.Seam q := ⟨by omega, by omega⟩
      have cH := leak_Rate_ok h hv.small q
      rw [Hul.sumV_some hv hsq hne] at cH
      have cZ := leak_Rate_ok z hsm q
      rw [Hul.sumV_some zv hsz zne] at cZ
      have f5 := Hul.sub_span hsub zne (2 ^ (q : Int).toNat)
      obtain ⟨sh, hsh⟩ : ∃ sh, sh = h.spanT (2 ^ (q : Int).toNat) := ⟨_, rfl⟩
      obtain ⟨sz, hsz'⟩ : ∃ sz, sz = z.spanT (2 ^ (q : Int).toNat) := ⟨_, rfl⟩
      rw [← hsh] at cH f5
      rw [← hsz'] at cZ f5
      have cI := law01_LeakMore_1_ok sz sh
      simp [hqc, Hul.cells]
      refine PCallK.intro (PInv.func (first := []) (cap := []) (args := [h.v, .int .i64 q]) cH) ?_
      simp [SP2]
      intro s44
      refine PCallK.intro (PInv.func (first := []) (cap := []) (args := [z.v, .int .i64 q]) cZ) ?_
      simp [SP2]
      intro s46
      refine FCall.pure' (v := .bool true) (PInv.func (first := []) (cap := []) (args := [SP2 sz, SP2 sh]) (by rw [show decide (sh.1 ≤ sz.1 ∧ sz.2 ≤ sh.2) = true by simpa using f5] at cI; exact cI)) (by simp) (by simp) ?_
      simp
      (repeat first | refine And.intro (by omega) ?_ | refine And.intro (Fits.of (by omega) (by omega)) ?_)
      exact hJ2.next (q + 1) (by omega) (by omega) (by simp) (by simp [Hul.cells])
    obtain rfl : q = h.n := by omega
    simp
    refine hJ2.exit ?_
    simp
    (repeat first | refine And.intro (by omega) ?_ | refine And.intro (Fits.of (by omega) (by omega)) ?_)
    exact next _ _ (by simp) (by simp [Hul.cells])

theorem law01_LeakMore_ok (h : Hul) (sd : Sd) (wh : Int) (hwh : 0 ≤ wh ∧ wh ≤ 255) (dr : Int) (hdr : 0 ≤ dr ∧ dr ≤ 255) (li : Int) (hli : 0 ≤ li ∧ li ≤ 255) : APure Pg fn_law01_LeakMore [h.v, .agg sd.c, .int .u8 wh, .int .u8 dr, .int .u8 li] (.bool true) := by
  refine law01_LeakMore.pure (by simp) ?_
  simp
  intro s5 s6
  refine PCallK.intro (PInv.func (law01_long_ok h)) ?_
  cases hlo : h.longB with
  | true =>
    simp
    refine PCallK.intro (PInv.func law01_alive_ok) ?_
    simp
    exact RetV.refl rfl
  | false =>
  have hs := Hul.longB_iff.1 hlo
  simp
  refine PCallK.intro (PInv.func (ref01_Hull_ok h hs)) ?_
  by_cases hv : ¬ h.Valid
  · simp [hv]
    refine PCallK.intro (PInv.func law01_alive_ok) ?_
    simp
    exact RetV.refl rfl
  replace hv := Classical.not_not.1 hv
  have hk8 := hv.k8
  have hkl : h.snds.length = h.k := rfl
  by_cases hk : (8 : Int) ≤ h.snds.length
  · simp [hv, hk]
    refine PCallK.intro (PInv.func law01_alive_ok) ?_
    simp
    exact RetV.refl rfl
  have hk' : h.k < 8 := by omega
  simp [hv, hk, Sd.c]
  refine FCall.pure' (v := (h.more sd).v) (PInv.func (first := []) (cap := []) (args := [h.v, .agg sd.c]) (law01_with_ok h (by omega) sd)) (by simp) (by simp) ?_
  obtain ⟨X, hX⟩ : ∃ X : Hul, X = h.more sd := ⟨_, rfl⟩
  rw [← hX]
  simp
  intro s11 s12
  intro s66 s69
  refine xAp_cp (by simp) (by simp) (by omega) ?_
  simp
  obtain ⟨d, hd, hd13⟩ := rem_u8 hdr (n := 13) (by omega)
  obtain ⟨a0, ha0, ha7⟩ := rem_u8 hli (n := 7) (by omega)
  have hd' : dr.tmod 13 = d := hd
  have ha' : li.tmod 7 = a0 := ha0
  have hat : Hul.At d ((a0 : Int) - 3) := by unfold Hul.At; omega
  obtain ⟨can, sure, e, hL, hL0⟩ : ∃ can sure e, h.leaksV = .tup [.int .i64 can, .int .i64 sure, .int .i64 e] ∧ (h.truths h.every ≠ [] → can = bits (canL (h.truths h.every)) 6 ∧ sure = bits (sureL (h.truths h.every)) 6 ∧ e = 0) := by
    unfold Hul.leaksV
    rw [if_pos hv]
    split
    · rename_i hne; exact ⟨_, _, _, rfl, fun x => absurd hne x⟩
    · exact ⟨_, _, _, rfl, fun _ => ⟨rfl, rfl, rfl⟩⟩
  obtain ⟨many, who, f, hF, hF0⟩ : ∃ many who f, h.fewV = .tup [.int .i64 many, .int .i64 who, .int .i64 f] ∧ (h.truths h.every ≠ [] → many = (bestI sizeS h.setsL).2 ∧ f = 0) := by
    unfold Hul.fewV
    rw [if_pos hv]
    split
    · rename_i hne; exact ⟨_, _, _, rfl, fun x => absurd hne x⟩
    · exact ⟨_, _, _, rfl, fun _ => ⟨rfl, rfl⟩⟩
  obtain ⟨l, g, hS, hS0⟩ : ∃ l g, h.setsV = .tup [L l, .int .i64 g] ∧ (h.truths h.every ≠ [] → l = h.setsL ∧ g = 0) := by
    unfold Hul.setsV
    rw [if_pos hv]
    split
    · rename_i hne; exact ⟨_, _, rfl, fun x => absurd hne x⟩
    · exact ⟨_, _, rfl, fun _ => ⟨rfl, rfl⟩⟩
  obtain ⟨w, i9, hW, hW0⟩ : ∃ w i9, h.sumV (Hul.At d ((a0 : Int) - 3)) (h.wet d ((a0 : Int) - 3)) = .tup [SP2 w, .int .i64 i9] ∧ (h.truths h.every ≠ [] → w = h.spanT (h.wet d ((a0 : Int) - 3)) ∧ i9 = 0) := by
    by_cases hne : h.truths h.every = []
    · exact ⟨_, _, Hul.sumV_none hv hat hne _, fun x => absurd hne x⟩
    · exact ⟨_, _, Hul.sumV_some hv hat hne _, fun _ => ⟨rfl, rfl⟩⟩
  have cL := leak_Leaks_ok h hs
  rw [hL] at cL
  have cF := leak_Fewest_ok h hs
  rw [hF] at cF
  have cS := leak_Sets_ok h hs
  rw [hS] at cS
  have cW := leak_Flow_ok h hs d ((a0 : Int) - 3)
  rw [hW] at cW
  by_cases hn0 : h.snds.length = 0
  · simp [hn0, cpV, hd', ha']
    refine ⟨by unfold Fits; omega, by unfold Fits; omega, by unfold Fits; omega, ?_⟩
    refine PCallK.intro (PInv.func (first := []) (cap := []) (args := [h.v]) cL) ?_
    simp
    refine PCallK.intro (PInv.func (first := []) (cap := []) (args := [h.v]) cF) ?_
    simp
    refine PCallK.intro (PInv.func (first := []) (cap := []) (args := [h.v]) cS) ?_
    simp
    refine PCallK.intro (PInv.func (first := []) (cap := []) (args := [h.v, .int .i64 d, .int .i64 ((a0 : Int) - 3)]) cW) ?_
    simp [SP2]
    intro s26 s130
    obtain ⟨Z, hZ⟩ : ∃ Z : Nat → Hul, Z = fun k => if k = 0 then h.more sd else h.upH 0 := ⟨_, rfl⟩
    have z0 : Z 0 = h.more sd := by rw [hZ]; rfl
    have z1 : Z 1 = h.upH 0 := by rw [hZ]; rfl
    have hsn : h.snds = [] := List.eq_nil_of_length_eq_zero hn0
    have hy : h.upH 0 = h := by cases h; simp at hsn; subst hsn; rfl
    have hz : ∀ k, k < 2 → (Z k).seams = h.seams ∧ (Z k).Small ∧ ∀ t ∈ (Z k).truths (Z k).every, t ∈ h.truths h.every := by
      intro k hk
      rcases Nat.lt_succ_iff_lt_or_eq.1 hk with h1 | h1
      · obtain rfl : k = 0 := by omega
        rw [z0]
        exact ⟨rfl, ⟨hs.1, by show (h.snds ++ [sd]).length ≤ _; simp; omega⟩, Hul.more_sub sd⟩
      · subst h1
        rw [z1]
        exact ⟨rfl, ⟨hs.1, by rw [Hul.upH_len]; exact hs.2⟩, Hul.upH_sub hv 0⟩
    refine Lp.intro' (σ := Nat) (inv := fun k => k ≤ 2) (vw := fun k => [(5, .ptr 5 0 (s5+1)), (15, .int .i64 d), (16, .int .i64 ((a0 : Int) - 3)), (17, .func (.func fn_law01_LeakMore_1) [] []), (18, .int .i64 can), (19, .int .i64 sure), (20, .int .i64 e), (21, .int .i64 many), (23, .int .i64 f), (24, L l), (25, .int .i64 g), (26, .ptr 26 0 (s26+1)), (27, .int .i64 i9), (130, .sl 130 0 (s130+1) 2 (.ex 2)), (131, .int .i64 2), (132, .int .i64 k)])
      (hp := fun _ => [(5, .row h.cells (s5+1)), (26, .row [.int .i64 w.1, .int .i64 w.2] (s26+1)), (130, .row ((Z 0).cells ++ (Z 1).cells) (s130+1))]) (ms := fun k => 2 - k) 0 (by simp) (Sl.frzHp 66 (cells := []) (s := s66 + 1) (by simp) (Sl.refl ⟨rfl, by simp, by simp [z0, z1, hX, Hul.cells, hy, hsn, LD, sds, Hul.more]⟩)) ?_
    intro k hk J hJ
    by_cases hkc : k < 2
    · exact law01_LeakMore_round h hv Z hz d ((a0 : Int) - 3) hat can sure e many f g i9 l w s5 s26 s130 hL0 hF0 hS0 hW0 k hkc J fun tm h' h1 h2 => hJ.next (k + 1) (by omega) (by omega) h1 h2
    obtain rfl : k = 2 := by omega
    simp
    refine hJ.exit ?_
    simp
    refine PCallK.intro (PInv.func law01_alive_ok) ?_
    simp
    exact RetV.refl rfl
  have hpos : 0 < h.snds.length := by omega
  obtain ⟨i, hi, hin⟩ := rem_u8 hwh (n := h.snds.length) (by omega)
  have hi' : wh.tmod h.snds.length = i := hi
  obtain ⟨a, ha⟩ : ∃ a, h.snds[i] = a := ⟨_, rfl⟩
  have had : Hul.OkD a := hv.sd a (by rw [← ha]; exact List.getElem_mem hin)
  have had2 := had.2
  have hup : setRange (sds h.snds) (i * 4 + 2) [.int .i64 (min a.hi (a.lo + 1))] = sds (h.snds.set i (Hul.upD a)) := fl_setRange Sd.w hin (by omega) (by rw [ha]; rfl)
  have hg2 : (sds h.snds)[i * 4 + 2]? = some (.int .i64 a.lo) := by
    rw [show sds h.snds = fl Sd.c h.snds from rfl, fl_at Sd.w _ _ (by omega), List.getElem?_eq_getElem hin, ha]; rfl
  have hg3 : (sds h.snds)[i * 4 + 2 + 1]? = some (.int .i64 a.hi) := by
    rw [show sds h.snds = fl Sd.c h.snds from rfl, Nat.add_assoc, fl_at Sd.w _ _ (by omega), List.getElem?_eq_getElem hin, ha]; rfl
  simp [hn0, hpos, cpV, cpO, hi', hin, ha, hd', ha', hup, hg2, hg3]
  refine ⟨by unfold Fits; omega, by unfold Fits; omega, by omega, by unfold Fits; omega, by unfold Fits; omega, by unfold Fits; omega, ?_⟩
  refine PCallK.intro (PInv.func (first := []) (cap := []) (args := [h.v]) cL) ?_
  simp
  refine PCallK.intro (PInv.func (first := []) (cap := []) (args := [h.v]) cF) ?_
  simp
  refine PCallK.intro (PInv.func (first := []) (cap := []) (args := [h.v]) cS) ?_
  simp
  refine PCallK.intro (PInv.func (first := []) (cap := []) (args := [h.v, .int .i64 d, .int .i64 ((a0 : Int) - 3)]) cW) ?_
  simp [SP2]
  intro s26 s130
  obtain ⟨Z, hZ⟩ : ∃ Z : Nat → Hul, Z = fun k => if k = 0 then h.more sd else h.upH i := ⟨_, rfl⟩
  have z0 : Z 0 = h.more sd := by rw [hZ]; rfl
  have z1 : Z 1 = h.upH i := by rw [hZ]; rfl
  have hy : h.upH i = ⟨h.seams, h.snds.set i (Hul.upD a)⟩ := by unfold Hul.upH; rw [List.getElem?_eq_getElem hin, ha]
  have hz : ∀ k, k < 2 → (Z k).seams = h.seams ∧ (Z k).Small ∧ ∀ t ∈ (Z k).truths (Z k).every, t ∈ h.truths h.every := by
    intro k hk
    rcases Nat.lt_succ_iff_lt_or_eq.1 hk with h1 | h1
    · obtain rfl : k = 0 := by omega
      rw [z0]
      exact ⟨rfl, ⟨hs.1, by show (h.snds ++ [sd]).length ≤ _; simp; omega⟩, Hul.more_sub sd⟩
    · subst h1
      rw [z1]
      exact ⟨rfl, ⟨hs.1, by rw [Hul.upH_len]; exact hs.2⟩, Hul.upH_sub hv i⟩
  refine Lp.intro' (σ := Nat) (inv := fun k => k ≤ 2) (vw := fun k => [(5, .ptr 5 0 (s5+1)), (15, .int .i64 d), (16, .int .i64 ((a0 : Int) - 3)), (17, .func (.func fn_law01_LeakMore_1) [] []), (18, .int .i64 can), (19, .int .i64 sure), (20, .int .i64 e), (21, .int .i64 many), (23, .int .i64 f), (24, L l), (25, .int .i64 g), (26, .ptr 26 0 (s26+1)), (27, .int .i64 i9), (130, .sl 130 0 (s130+1) 2 (.ex 2)), (131, .int .i64 2), (132, .int .i64 k)])
    (hp := fun _ => [(5, .row h.cells (s5+1)), (26, .row [.int .i64 w.1, .int .i64 w.2] (s26+1)), (130, .row ((Z 0).cells ++ (Z 1).cells) (s130+1))]) (ms := fun k => 2 - k) 0 (by simp) (Sl.frzHp 69 (cells := sds (h.snds.set i (Hul.upD a))) (s := s69 + 1) (by simp) (Sl.refl ⟨rfl, by simp, by simp [z0, z1, hX, Hul.cells, hy, LD, Hul.more]⟩)) ?_
  intro k hk J hJ
  by_cases hkc : k < 2
  · exact law01_LeakMore_round h hv Z hz d ((a0 : Int) - 3) hat can sure e many f g i9 l w s5 s26 s130 hL0 hF0 hS0 hW0 k hkc J fun tm h' h1 h2 => hJ.next (k + 1) (by omega) (by omega) h1 h2
  obtain rfl : k = 2 := by omega
  simp
  refine hJ.exit ?_
  simp
  refine PCallK.intro (PInv.func law01_alive_ok) ?_
  simp
  exact RetV.refl rfl
end Go.Cw
end
