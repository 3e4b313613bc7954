/-
  Laws of layer 1; how a hull is read as an argument.
-/
import Derived.Test.YtmfpfgdjnhcllaaLb
import Derived.Test.YtmfpfgdjnhcllaaAe
import Derived.Test.YtmfpfgdjnhcllaaAf
import Derived.Test.YtmfpfgdjnhcllaaRows
set_option linter.unusedVariables false
set_option linter.unusedSimpArgs false
set_option linter.unusedSectionVars false

/- The laws Clashes and Names. -/
section
set_option maxRecDepth 100000
set_option linter.unusedSimpArgs false
namespace Go.Cw
open Go Go.Proofs

end Go.Cw
end

/- How a hull is read as an argument. -/
section
set_option maxRecDepth 100000
namespace Go.Cw
open Go Go.Proofs

section
variable {w : World} {μ : Mu}

theorem opens_int : Opens Pg w μ 3 fun av => ∃ n, (Lit.int .i64 n).wf = true ∧ av = [.int .i64 n] := Opens.int Try.underlying3 (by kernel_rfl)
theorem opens_span : Opens Pg w μ 37 fun av => ∃ p : Int × Int, av = [.int .i64 p.1, .int .i64 p.2] := by
  refine (Opens.struct (Vs := [_, _]) Try.underlying37 (by kernel_rfl) ⟨rfl, opens_int, by kernel_rfl, opens_int, trivial⟩).mono ?_
  rintro av ⟨ass, h, rfl⟩
  obtain ⟨a, b, rfl, ⟨n, _, rfl⟩, ⟨m, _, rfl⟩⟩ := h.two
  exact ⟨(n, m), rfl⟩
theorem opens_seam : Opens Pg w μ 59 fun av => ∃ a : Sm, av = a.c := by
  refine (Opens.struct (Vs := [_, _, _]) Try.underlying59 (by kernel_rfl) ⟨rfl, opens_int, by kernel_rfl, opens_int, by kernel_rfl, opens_int, trivial⟩).mono ?_
  rintro av ⟨ass, h, rfl⟩
  obtain ⟨a, b, c, rfl, ⟨n, _, rfl⟩, ⟨m, _, rfl⟩, ⟨k, _, rfl⟩⟩ := h.three
  exact ⟨⟨n, m, k⟩, rfl⟩
theorem opens_sounding : Opens Pg w μ 63 fun av => ∃ a : Sd, av = a.c := by
  refine (Opens.struct (Vs := [_, _, _]) Try.underlying63 (by kernel_rfl) ⟨rfl, opens_int, by kernel_rfl, opens_int, by kernel_rfl, opens_span, trivial⟩).mono ?_
  rintro av ⟨ass, h, rfl⟩
  obtain ⟨a, b, c, rfl, ⟨n, _, rfl⟩, ⟨m, _, rfl⟩, ⟨p, rfl⟩⟩ := h.three
  exact ⟨⟨n, m, p.1, p.2⟩, rfl⟩
theorem c59 : 0 < Pg.cellsOf 59 := by rw [show Pg.cellsOf 59 = 3 by kernel_rfl]; omega
theorem c63 : 0 < Pg.cellsOf 63 := by rw [show Pg.cellsOf 63 = 4 by kernel_rfl]; omega
theorem opens_hull : Opens Pg w μ 25 fun av => ∃ h : Hul, av = h.cells := by
  refine (Opens.struct (Vs := [_, _]) Try.underlying25 (by kernel_rfl) ⟨rfl, Opens.fl Try.underlying22 (by kernel_rfl) c59 opens_seam, by kernel_rfl, Opens.fl Try.underlying23 (by kernel_rfl) c63 opens_sounding, trivial⟩).mono ?_
  rintro av ⟨ass, h, rfl⟩
  obtain ⟨a, b, rfl, ⟨n, rfl⟩, ⟨m, rfl⟩⟩ := h.two
  exact ⟨⟨n, m⟩, rfl⟩
theorem opens_u16 : Opens Pg w μ 43 fun av => ∃ l : List Int, U16ok l ∧ av = [U16 l] :=
  (Opens.intsK (k := .u16) Try.underlying43 (by kernel_rfl) Try.underlying94 (by kernel_rfl)).mono fun av ⟨l, h1, h2, h3⟩ =>
    ⟨l, ⟨Nat.le_trans h1 (by decide +kernel), fun x hx => bounds_u16 (h2 x hx)⟩, h3⟩
theorem opens_u8 : Opens Pg w μ 5 fun av => ∃ n : Int, (0 ≤ n ∧ n ≤ 255) ∧ av = [.int .u8 n] :=
  (Opens.int Try.underlying5 (by kernel_rfl)).mono fun av ⟨n, h1, h2⟩ => ⟨n, bounds_u8 h1, h2⟩
end

theorem kids : Kids Pg (· < Pg.types.size) := kids_rows (by kernel_rfl) (by kernel_rfl)
theorem slices_full : ∀ t e, t < Pg.types.size → Pg.underlying t = some (.slice e) → 0 < Pg.cellsOf e := slices_full_of Pg (by kernel_rfl)
theorem ownKnobNone : ownKnob Pg.godebug = none := by kernel_rfl

end Go.Cw
end

/- Numbers that are drawn; what comes in; a hull that is made, with a truth. -/
section
set_option maxRecDepth 100000
set_option linter.unusedSimpArgs false
namespace Go.Cw
open Go Go.Proofs

/-- The function that draws. -/
def drawV (ra s : Nat) (l : List Int) : AVal := .func (.func fn_law01_draws_1) [] [.ptr ra 0 s, .pv [U16 l]]
@[simp] theorem frz_drawV (r s : Nat) (cells : List AVal) (ra s' : Nat) (l : List Int) (h : ¬ ra = r) : frz r s cells (drawV ra s' l) = drawV ra s' l := by simp [drawV, h]

theorem law01_draws_ok (l : List Int) (ra : Nat) (K : AEnd → Heap → Prop) (hK : ∀ s, K (.ret (drawV ra s l)) (hpV [(ra, .row [.int .i64 0] s)])) : ACalls Pg fn_law01_draws [U16 l] (hpV [(ra, .dead)]) K := by
  obtain ⟨F, hF⟩ : ∃ F, ra < F := ⟨ra + 1, by omega⟩
  have e1 : ∀ k, ¬ F + k = ra := fun k => by omega
  have e2 : ∀ k, ¬ ra = F + k := fun k => by omega
  refine law01_draws.enter F (by simp) ?_
  simp [e1, e2]
  intro s s1
  refine RetV.frz (F + 1) (cells := [U16 l]) (s := s + 1) (by simp [e1, e2]) (RetV.move (F + 3) ra (RetV.view [(ra, .row [.int .i64 0] (s1 + 1))] (by simp [e1, e2]) ?_))
  simpa [drawV] using hK (s1 + 1)

theorem law01_draws_1_ok (l : List Int) (hl : U16ok l) (n : Int) (hn : 0 < n ∧ n ≤ 1000000) (k : Nat) (hk : k ≤ 1000000) (ra s : Nat) (K : AEnd → Heap → Prop)
    (hK : ∀ r : Nat, (r : Int) < n → K (.ret (.int .i64 r)) (hpV [(ra, .row [.int .i64 (k + 1 : Nat)] s)])) : ACalls Pg fn_law01_draws_1 [.int .i64 n, .ptr ra 0 s, .pv [U16 l]] (hpV [(ra, .row [.int .i64 k] s)]) K := by
  obtain ⟨F, hF⟩ : ∃ F, ra < F := ⟨ra + 1, by omega⟩
  have e1 : ∀ k, ¬ F + k = ra := fun k => by omega
  have e2 : ∀ k, ¬ ra = F + k := fun k => by omega
  have fin : ∀ r : Int, 0 ≤ r → r < n → RetV K (hpV [(ra, .row [.int .i64 (k + 1 : Nat)] s)]) (.int .i64 r) := fun r h0 h1 => by
    obtain ⟨r', rfl⟩ := Int.eq_ofNat_of_zero_le h0
    exact RetV.refl (hK r' h1)
  refine law01_draws_1.enter F (by simp) ?_
  simp [e1, e2]
  (repeat first | refine And.intro (by omega) ?_ | refine And.intro (Fits.of (by omega) (by omega)) ?_)
  by_cases h0 : l = []
  · subst h0
    simp [e1, e2]
    (repeat first | refine And.intro (by omega) ?_ | refine And.intro (Fits.of (by omega) (by omega)) ?_)
    have h1 := Int.tmod_nonneg (a := (k : Int) + 1) n (by omega)
    have h2 := Int.tmod_lt_of_pos ((k : Int) + 1) hn.1
    rw [upd_upd]
    simpa using fin _ h1 h2
  · have hpos : 0 < l.length := List.length_pos_iff.2 h0
    have hlen := hl.len
    have h1 := Int.tmod_nonneg (a := (k : Int) + 1) (l.length : Int) (by omega)
    have h2 := Int.tmod_lt_of_pos ((k : Int) + 1) (show (0 : Int) < l.length by omega)
    obtain ⟨i, hi⟩ := Int.eq_ofNat_of_zero_le h1
    have hil : i < l.length := by omega
    have hx := hl.rng l[i] (by simp)
    simp [h0, e1, e2, hi, hil]
    have h3 := Int.tmod_nonneg (a := l[i] + 71 * ((k : Int) + 1)) n (by omega)
    have h4 := Int.tmod_lt_of_pos (l[i] + 71 * ((k : Int) + 1)) hn.1
    refine ⟨Fits.of (by omega) (by omega), Fits.of (by omega) (by omega), Fits.of (by omega) (by omega), by omega, ?_⟩
    rw [upd_upd]
    simpa using fin _ h3 h4

/-- A number is drawn. -/
theorem FCall.draw {F n₀ : Nat} {inr : Bool} {keep : List Nat} {fa fl : List It} {d : Option Nat} {K : KT} {Q : Post} {tm : TM} {df : DF} {h : Heap} {l : List Int} (hl : U16ok l) {n : Int} (hn : 0 < n ∧ n ≤ 1000000) {k : Nat} (hk : k ≤ 1000000) {ra s : Nat} (hr : h ra = .row [.int .i64 k] s) (f : FaOk F fa tm h)
    (next : ∀ r : Nat, (r : Int) < n → FlOk fl (putD tm d (.int .i64 r)) (upd h ra (.row [.int .i64 (k + 1 : Nat)] s)) ∧ K (putD tm d (.int .i64 r)) df (upd h ra (.row [.int .i64 (k + 1 : Nat)] s))) :
    FCall ⟨Pg, F, n₀, inr, keep⟩ (drawV ra s l) [.int .i64 n] fa fl d K Q tm df h := by
  refine FCall.cps [(ra, .row [.int .i64 k] s)] (fun r : Nat => .int .i64 r) (fun _ => [(ra, .row [.int .i64 (k + 1 : Nat)] s)]) (fun r => (r : Int) < n) (fun K' hK' => AInvoke.func ?_) (by simpa using hr) (fun _ => rfl) f (fun r hr => by simpa using next r hr)
  exact law01_draws_1_ok l hl n hn k hk ra s K' hK'

theorem law01_inside_ok (n : Int) (s : Int × Int) : APure Pg fn_law01_inside [.int .i64 n, SP2 s] (.bool (decide (s.1 ≤ n ∧ n ≤ s.2))) := by
  refine law01_inside.pure (by simp) ?_
  by_cases h : s.1 ≤ n <;> simp [h, SP2]
  all_goals intro s1
  all_goals exact RetV.refl (by simp)

theorem law01_wet_ok (a : Sm) (ha : Hul.OkS a) (d l : Int) (hd : Hul.At d l) : APure Pg fn_law01_wet [.agg a.c, .int .i64 d, .int .i64 l] (.bool (decide (a.h ≤ d + a.s * l))) := by
  unfold Hul.OkS at ha
  unfold Hul.At at hd
  have hmul : -3 ≤ a.s * l ∧ a.s * l ≤ 3 := by
    have : a.s = -1 ∨ a.s = 0 ∨ a.s = 1 := by omega
    rcases this with e | e | e <;> rw [e] <;> omega
  refine law01_wet.pure (by simp) ?_
  simp [Sm.c]
  intro s
  (repeat first | refine And.intro (by omega) ?_ | refine And.intro (Fits.of (by omega) (by omega)) ?_)
  exact RetV.refl rfl

theorem sumT_wet {h : Hul} {t : List Int} (ht : t.length = h.n) (d l : Int) : Hul.sumT t (h.wet d l) = sumN h.n fun i => if h.wetP d l i then ofL t i else 0 := by
  unfold Hul.sumT
  rw [ht]
  refine sumN_congr fun j hj => ?_
  unfold Hul.wet
  rw [inS_bits _ hj]

theorem law01_flow_ok (h : Hul) (hn : h.n ≤ 6) (hs : ∀ a ∈ h.seams, Hul.OkS a) (t : List Int) (ht : t.length = h.n) (hb : ∀ i, 0 ≤ ofL t i ∧ ofL t i ≤ 100) (X : AVal) (d l : Int) (hd : Hul.At d l) :
    APure Pg fn_law01_flow [.agg [LS h.seams, X], L t, .int .i64 d, .int .i64 l] (.int .i64 (Hul.sumT t (h.wet d l))) := by
  have hl : h.seams.length = h.n := rfl
  rw [sumT_wet ht]
  refine law01_flow.pure (by simp) ?_
  simp
  intro s4
  refine Lp.intro (σ := Nat) (inv := fun k => k ≤ h.n) (vw := fun k => [(1, L t), (2, .int .i64 d), (3, .int .i64 l), (8, .int .i64 (sumN k fun i => if h.wetP d l i then ofL t i else 0)), (12, LS h.seams), (13, .int .i64 h.n), (14, .int .i64 k)])
    (hp := fun _ => []) (ms := fun k => h.n - k) 0 (by simp) (by simp [sumN, hl]) (by simp) ?_
  intro k hk J hJ
  by_cases hkc : k < h.n
  · have hkl : k < h.seams.length := hkc
    have hkt : k < t.length := by omega
    obtain ⟨a, hak⟩ : ∃ a, h.seams[k] = a := ⟨_, rfl⟩
    have hok := hs a (by rw [← hak]; simp)
    have hp : h.wetP d l k = decide (a.h ≤ d + a.s * l) := by simp [Hul.wetP, hkl, hak]
    have hw := law01_wet_ok a hok d l hd
    have hbk := hb k
    rw [← ofL_at t hkt] at hbk
    have hsum : ∀ k, k ≤ 6 → 0 ≤ (sumN k fun i => if h.wetP d l i then ofL t i else 0) ∧ (sumN k fun i => if h.wetP d l i then ofL t i else 0) ≤ 600 := by
      intro k hk6
      have h1 : ∀ j, j < k → 0 ≤ (if h.wetP d l j then ofL t j else 0) ∧ (if h.wetP d l j then ofL t j else 0) ≤ 100 := fun j _ => by have := hb j; split <;> omega
      have h2 := sumN_nonneg fun j hj => (h1 j hj).1
      have h3 := sumN_le fun j hj => (h1 j hj).2
      constructor
      · exact h2
      · omega
    have hsk := hsum k (by omega)
    simp [hkc, hkl, hak]
    refine ⟨by omega, fun s10 => ?_⟩
    refine PCallK.intro (PInv.func hw) ?_
    by_cases hwk : a.h ≤ d + a.s * l
    · simp [hwk, hkt]
      (repeat first | refine And.intro (by omega) ?_ | refine And.intro (Fits.of (by omega) (by omega)) ?_)
      exact hJ.next (k + 1) (by omega) (by omega) (by simp [sumN, hp, hwk, ofL_at t hkt]) (by simp)
    · simp [hwk, hkt]
      (repeat first | refine And.intro (by omega) ?_ | refine And.intro (Fits.of (by omega) (by omega)) ?_)
      exact hJ.next (k + 1) (by omega) (by omega) (by simp [sumN, hp, hwk, ofL_at t hkt]) (by simp)
  obtain rfl : k = h.n := by omega
  simp
  refine hJ.exit ?_
  simp
  exact RetV.refl rfl
end Go.Cw
end

/- A hull that is made, with a truth. -/
section
set_option maxRecDepth 100000
set_option linter.unusedSimpArgs false
namespace Go.Cw
open Go Go.Proofs

theorem allT_push {ms t : List Int} {m n : Int} (ht : t ∈ allT ms) (hn : 0 ≤ n ∧ n ≤ m) : t ++ [n] ∈ allT (ms ++ [m]) := by
  rw [mem_allT] at ht ⊢
  refine ⟨by simp [ht.1], fun i hi => ?_⟩
  rw [List.length_append] at hi
  by_cases h : i < ms.length
  · have := ht.2 i h
    rw [ofL_push, ofL_push, upd_ne _ _ (by omega), upd_ne _ _ (by omega)]
    exact this
  · obtain rfl : i = ms.length := by simp at hi; omega
    rw [ofL_push, ofL_push, upd_same, ← ht.1, upd_same]
    exact hn

theorem sms_push (S : List Sm) (a : Sm) : sms S ++ a.c = sms (S ++ [a]) := fl_one S a
theorem sds_push (D : List Sd) (a : Sd) : sds D ++ a.c = sds (D ++ [a]) := fl_one D a

theorem law01_made_ok (l : List Int) (hl : U16ok l) (k : Nat) (hk : k ≤ 1000) (ra s : Nat) (K : AEnd → Heap → Prop)
    (hK : ∀ (h : Hul) (t : List Int) (k' : Nat), h.Valid → t ∈ h.truths h.every → k' ≤ k + 1000 → K (.ret (.tup [h.v, L t])) (hpV [(ra, .row [.int .i64 k'] s)])) :
    ACalls Pg fn_law01_made [drawV ra s l] (hpV [(ra, .row [.int .i64 k] s)]) K := by
  obtain ⟨F, hF⟩ : ∃ F, ra < F := ⟨ra + 1, by omega⟩
  have e1 : ∀ k, ¬ F + k = ra := fun k => by omega
  have e2 : ∀ k, ¬ ra = F + k := fun k => by omega
  refine law01_made.enter F (by simp) ?_
  simp [e1, e2]
  intro s2
  refine FCall.draw hl (by omega) (k := k) (by omega) (by simp [e1, e2]) (by simp [e1, e2]) fun r0 hr0 => ?_
  simp [e1, e2]
  (repeat first | refine And.intro (by omega) ?_ | refine And.intro (Fits.of (by omega) (by omega)) ?_)
  refine Lp.intro' (σ := List Sm × List Int × Nat × Nat × Nat) (inv := fun x => x.1.length ≤ r0 + 1 ∧ (∀ a ∈ x.1, Hul.OkS a) ∧ x.2.1 ∈ allT (x.1.map (·.m)) ∧ x.2.2.2.2 ≤ k + 1 + 5 * x.1.length)
    (vw := fun x => [(0, drawV ra s l), (2, .ptr (F+2) 0 (s2+1)), (3, gS 1 (F+38) x.1.length x.2.2.2.1), (11, .int .i64 (1 + r0)), (12, .int .i64 x.1.length)])
    (hp := fun x => [(ra, .row [.int .i64 x.2.2.2.2] s), (F+2, .row [gS 3 (F+34) x.1.length x.2.2.1, .nils] (s2+1)), (F+34, gO x.1.length (sms x.1) x.2.2.1), (F+38, gO x.1.length (ints x.2.1) x.2.2.2.1)])
    (ms := fun x => r0 + 1 - x.1.length) ([], [], 0, 0, k + 1) (by simp [allT])
    (Sl.wk 3 .es (by simpa using ALe.nils_es) (Sl.rowLe (cells := [.nils, .nils]) (s := s2 + 1) (F+2) [.es, .nils] (by simp [e1, e2]) ⟨ALe.nils_es, ALe.refl _, trivial⟩ (Sl.refl ⟨rfl, by simp, by simp [e1, e2]⟩))) ?_
  rintro ⟨S, t, st1, st2, k1⟩ ⟨hS, hok, ht, hk1⟩ J hJ
  simp only at hS hok ht hk1
  have htl : t.length = S.length := by have := (mem_allT.1 ht).1; simpa using this
  by_cases hc : S.length < r0 + 1
  · have hci : (S.length : Int) < 1 + r0 := by omega
    simp [hci, e1, e2]
    refine FCall.draw hl (by omega) (k := k1) (by omega) (by simp [e1, e2]) (by simp [e1, e2]) fun r1 hr1 => ?_
    simp [e1, e2]
    refine FCall.draw hl (by omega) (k := k1 + 1) (by omega) (by simp [e1, e2]) (by simp [e1, e2]) fun r2 hr2 => ?_
    simp [e1, e2]
    (repeat first | refine And.intro (by omega) ?_ | refine And.intro (Fits.of (by omega) (by omega)) ?_)
    refine FCall.draw hl (by omega) (k := k1 + 1 + 1) (by omega) (by simp [e1, e2]) (by simp [e1, e2]) fun r3 hr3 => ?_
    simp [e1, e2]
    intro s4
    have hsp : sms S ++ [AVal.int .i64 r1, .int .i64 ((r2 : Int) - 1), .int .i64 r3] = sms (S ++ [⟨r1, (r2 : Int) - 1, r3⟩]) := sms_push S ⟨r1, (r2 : Int) - 1, r3⟩
    have hoka : Hul.OkS ⟨r1, (r2 : Int) - 1, r3⟩ := by unfold Hul.OkS; simp only []; omega
    refine FCall.draw hl (by omega) (k := k1 + 1 + 1 + 1) (by omega) (by simp [e1, e2]) (by simp [e1, e2]) fun r4 hr4 => ?_
    by_cases h4 : r4 = 0
    · subst h4
      simp [e1, e2]
      (repeat first | refine And.intro (by omega) ?_ | refine And.intro (Fits.of (by omega) (by omega)) ?_)
      refine FCall.draw hl (by omega) (k := k1 + 1 + 1 + 1 + 1) (by omega) (by simp [e1, e2]) (by simp [e1, e2]) fun r5 hr5 => ?_
      simp [e1, e2]
      intro s33 s34
      refine xApN_gS (cells := sms S) (by simp [e1, e2]) (by simp) (by omega) (by omega) ?_
      rw [hsp]
      simp [e1, e2]
      intro s37 s38
      refine xApN_gS (cells := ints t) (by simp [e1, e2]) (by simp [htl]) (by omega) (by omega) ?_
      simp [e1, e2]
      (repeat first | refine And.intro (by omega) ?_ | refine And.intro (Fits.of (by omega) (by omega)) ?_)
      refine hJ.next (S ++ [⟨r1, (r2 : Int) - 1, r3⟩], t ++ [(r5 : Int)], s34 + 1, s38 + 1, k1 + 1 + 1 + 1 + 1 + 1) ⟨by simp; omega, ?_, ?_, by simp; omega⟩ (by simp; omega) (by simp [e1, e2]) (by simp [e1, e2])
      · intro b hb
        rcases List.mem_append.1 hb with hb | hb
        · exact hok b hb
        · obtain rfl : b = ⟨r1, (r2 : Int) - 1, r3⟩ := by simpa using hb
          exact hoka
      · rw [List.map_append]
        exact allT_push ht ⟨by omega, by simp only []; omega⟩
    · simp [h4, e1, e2]
      intro s33 s34
      refine xApN_gS (cells := sms S) (by simp [e1, e2]) (by simp) (by omega) (by omega) ?_
      rw [hsp]
      simp [e1, e2]
      intro s37 s38
      refine xApN_gS (cells := ints t) (by simp [e1, e2]) (by simp [htl]) (by omega) (by omega) ?_
      simp [e1, e2]
      (repeat first | refine And.intro (by omega) ?_ | refine And.intro (Fits.of (by omega) (by omega)) ?_)
      refine hJ.next (S ++ [⟨r1, (r2 : Int) - 1, r3⟩], t ++ [0], s34 + 1, s38 + 1, k1 + 1 + 1 + 1 + 1) ⟨by simp; omega, ?_, ?_, by simp; omega⟩ (by simp; omega) (by simp [e1, e2]) (by simp [e1, e2])
      · intro b hb
        rcases List.mem_append.1 hb with hb | hb
        · exact hok b hb
        · obtain rfl : b = ⟨r1, (r2 : Int) - 1, r3⟩ := by simpa using hb
          exact hoka
      · rw [List.map_append]
        exact allT_push ht ⟨by omega, by simp only []; omega⟩
  have hSl : S.length = r0 + 1 := by omega
  have hci : ¬ (S.length : Int) < 1 + r0 := by omega
  have hS0 : 0 < S.length := by omega
  have htb : ∀ i, 0 ≤ ofL t i ∧ ofL t i ≤ 4 := by
    intro i
    by_cases hi : i < S.length
    · have h1 := (mem_allT.1 ht).2 i (by simpa using hi)
      have h2 := hok S[i] (by simp)
      unfold Hul.OkS at h2
      have : ofL (S.map (·.m)) i = S[i].m := by rw [← ofL_at _ (by simpa using hi)]; simp
      omega
    · rw [ofL_none _ (by omega)]; omega
  have hsb : ∀ w : Int, 0 ≤ Hul.sumT t w ∧ Hul.sumT t w ≤ 24 := by
    intro w
    unfold Hul.sumT
    have h1 : ∀ j, j < t.length → 0 ≤ (if inS w j then ofL t j else 0) ∧ (if inS w j then ofL t j else 0) ≤ 4 := fun j _ => by have := htb j; split <;> omega
    have h2 := sumN_nonneg fun j hj => (h1 j hj).1
    have h3 := sumN_le fun j hj => (h1 j hj).2
    constructor
    · exact h2
    · omega
  simp [hci]
  refine hJ.exitS (Sl.gSH (F+34) (m := S.length) (cells := sms S) (s := st1) hS0 (by simp [e1, e2]) (Sl.gSH (F+38) (m := S.length) (cells := ints t) (s := st2) hS0 (by simp [e1, e2]) (Sl.refl ?_)))
  simp [e1, e2, gS_pos hS0]
  refine FCall.draw hl (by omega) (k := k1) (by omega) (by simp [e1, e2]) (by simp [e1, e2]) fun r9 hr9 => ?_
  simp [e1, e2]
  refine Lp.intro' (σ := List Sd × Nat × Nat) (inv := fun x => x.1.length ≤ r9 ∧ (∀ a ∈ x.1, Hul.OkD a ∧ a.lo ≤ Hul.sumT t ((⟨S, []⟩ : Hul).wet a.d a.l) ∧ Hul.sumT t ((⟨S, []⟩ : Hul).wet a.d a.l) ≤ a.hi) ∧ x.2.2 ≤ k1 + 1 + 4 * x.1.length)
    (vw := fun x => [(0, drawV ra s l), (2, .ptr (F+2) 0 (s2+1)), (3, L t), (42, .int .i64 r9), (43, .int .i64 x.1.length)])
    (hp := fun x => [(ra, .row [.int .i64 x.2.2] s), (F+2, .row [LS S, gS 4 (F+72) x.1.length x.2.1] (s2+1)), (F+72, gO x.1.length (sds x.1) x.2.1)])
    (ms := fun x => r9 - x.1.length) ([], 0, k1 + 1) (by simp)
    (Sl.rowLe (cells := [LS S, .nils]) (s := s2 + 1) (F+2) [LS S, .es] (by simp [e1, e2, LS]) ⟨ALe.refl _, ALe.nils_es, trivial⟩ (Sl.refl ⟨rfl, by simp [L, htl, e1, e2], by simp [e1, e2]⟩)) ?_
  rintro ⟨D, st3, k2⟩ ⟨hD, hokD, hk2⟩ J2 hJ2
  simp only at hD hokD hk2
  by_cases hc9 : D.length < r9
  · simp [hc9, e1, e2]
    refine FCall.draw hl (by omega) (k := k2) (by omega) (by simp [e1, e2]) (by simp [e1, e2]) fun r1 hr1 => ?_
    simp [e1, e2]
    refine FCall.draw hl (by omega) (k := k2 + 1) (by omega) (by simp [e1, e2]) (by simp [e1, e2]) fun r2 hr2 => ?_
    simp [e1, e2]
    (repeat first | refine And.intro (by omega) ?_ | refine And.intro (Fits.of (by omega) (by omega)) ?_)
    have hat : Hul.At r1 ((r2 : Int) - 3) := by unfold Hul.At; omega
    refine PCallK.intro (PInv.func (law01_flow_ok ⟨S, []⟩ (by show S.length ≤ 6; omega) hok t htl (fun i => by have := htb i; omega) _ r1 ((r2 : Int) - 3) hat)) ?_
    obtain ⟨n, hn⟩ : ∃ n, n = Hul.sumT t ((⟨S, []⟩ : Hul).wet r1 ((r2 : Int) - 3)) := ⟨_, rfl⟩
    have hnb := hsb ((⟨S, []⟩ : Hul).wet r1 ((r2 : Int) - 3))
    rw [← hn] at hnb ⊢
    simp [e1, e2]
    refine FCall.draw hl (by omega) (k := k2 + 1 + 1) (by omega) (by simp [e1, e2]) (by simp [e1, e2]) fun r3 hr3 => ?_
    simp [e1, e2]
    (repeat first | refine And.intro (by omega) ?_ | refine And.intro (Fits.of (by omega) (by omega)) ?_)
    refine FCall.draw hl (by omega) (k := k2 + 1 + 1 + 1) (by omega) (by simp [e1, e2]) (by simp [e1, e2]) fun r4 hr4 => ?_
    simp [e1, e2]
    (repeat first | refine And.intro (by omega) ?_ | refine And.intro (Fits.of (by omega) (by omega)) ?_)
    refine PCallK.intro (PInv.func (law01_span_ok _ _)) ?_
    simp [SP2]
    refine ⟨by simp [e1, e2], fun s71 s72 => ?_⟩
    refine xApN_gS (cells := sds D) (by simp [e1, e2]) (by simp) (by omega) (by omega) ?_
    have hdp : sds D ++ [AVal.int .i64 r1, .int .i64 ((r2 : Int) - 3), .int .i64 (max 0 (n - r3)), .int .i64 (min 24 (n + r4))] = sds (D ++ [⟨r1, (r2 : Int) - 3, max 0 (n - r3), min 24 (n + r4)⟩]) := sds_push D ⟨r1, (r2 : Int) - 3, max 0 (n - r3), min 24 (n + r4)⟩
    rw [hdp]
    simp [e1, e2]
    (repeat first | refine And.intro (by omega) ?_ | refine And.intro (Fits.of (by omega) (by omega)) ?_)
    refine hJ2.next (D ++ [⟨r1, (r2 : Int) - 3, max 0 (n - r3), min 24 (n + r4)⟩], s72 + 1, k2 + 1 + 1 + 1 + 1) ⟨by simp; omega, ?_, by simp; omega⟩ (by simp; omega) (by simp [e1, e2]) (by simp [e1, e2])
    intro b hb
    rcases List.mem_append.1 hb with hb | hb
    · exact hokD b hb
    · obtain rfl : b = ⟨r1, (r2 : Int) - 3, max 0 (n - r3), min 24 (n + r4)⟩ := by simpa using hb
      simp only [← hn]
      unfold Hul.OkD
      simp only []
      refine ⟨⟨hat, ?_⟩, ?_⟩ <;> omega
  simp [hc9]
  refine hJ2.exit ?_
  simp [e1, e2]
  refine RetV.le (VLe.tup (LLe.cons (VLe.agg (LLe.cons (VLe.refl _ _) (LLe.cons (VLe.gS (cells := sds D) (by simp [e1, e2]) (by simp)) (LLe.nil _))) rfl) (LLe.cons (VLe.refl _ _) (LLe.nil _))) rfl) ?_
  refine RetV.view [(ra, .row [.int .i64 k2] s)] (by simp [e1, e2]) ?_
  have hva : (⟨S, D⟩ : Hul).Valid := ⟨hS0, by show S.length ≤ 6; omega, by show D.length ≤ 8; omega, hok, fun a ha => (hokD a ha).1⟩
  refine hK ⟨S, D⟩ t k2 hva ?_ (by omega)
  unfold Hul.truths
  rw [List.mem_filter]
  refine ⟨ht, Hul.right_at.2 fun j a hj _ => ?_⟩
  exact (hokD a (List.mem_of_getElem? hj)).2
end Go.Cw
end

/- Plain reckoning on sets and truths. -/
section
set_option maxRecDepth 100000
set_option linter.unusedSimpArgs false
namespace Go.Cw
open Go Go.Proofs

theorem bitsI_andNot (p q : Nat → Bool) {n : Nat} (hn : n ≤ 60) : bitI .andNot .i64 (bits p n) (bits q n) = bits (fun i => p i && !q i) n := by
  have ha := natB_lt62 p hn
  have hb := natB_lt62 q hn
  have hc := natB_lt62 (fun i => p i && !q i) hn
  rw [bits_natB, bits_natB, bits_natB]
  have key : (BitVec.ofNat 64 (natB p n) &&& ~~~(BitVec.ofNat 64 (natB q n))).toNat = natB (fun i => p i && !q i) n := by
    apply Nat.eq_of_testBit_eq
    intro i
    rw [← BitVec.getLsbD, BitVec.getLsbD_and, BitVec.getLsbD_not, BitVec.getLsbD_ofNat, BitVec.getLsbD_ofNat, natB_bit, natB_bit, natB_bit]
    by_cases hi : i < n
    · have : i < 64 := by omega
      simp [hi, this]
    · simp [hi]
  show IntKind.i64.wrap (Int.ofNat (BitVec.ofInt 64 (natB p n : Nat) &&& ~~~(BitVec.ofInt 64 (natB q n : Nat))).toNat) = _
  rw [BitVec.ofInt_natCast, BitVec.ofInt_natCast, key]
  have hh : ((natB (fun i => p i && !q i) n : Nat) : Int) < 2 ^ 62 := by exact_mod_cast hc
  refine wrap_fits ?_
  unfold Fits
  simp only [Int.ofNat_eq_natCast]
  omega

theorem andNot_zero {p q : Nat → Bool} {n : Nat} (hn : n ≤ 60) (h : ∀ i, i < n → p i = true → q i = true) : bitI .andNot .i64 (bits p n) (bits q n) = 0 := by
  rw [bitsI_andNot p q hn, bits_zero]
  intro i hi
  cases hp : p i
  · simp
  · simp [h i hi hp]

theorem bits_pow {i n : Nat} (hi : i < n) : bits (fun j => decide (j = i)) n = 2 ^ i := by
  induction n with
  | zero => omega
  | succ n ih =>
    simp only [bits]
    by_cases h : i = n
    · subst h
      have : bits (fun j => decide (j = i)) i = 0 := bits_zero.2 fun j hj => by simp; omega
      rw [this]; simp
    · rw [ih (by omega)]
      have : ¬ n = i := fun e => h e.symm
      simp [this]
theorem inS_pow {i j n : Nat} (hi : i < n) (hj : j < n) : inS (2 ^ i) j = decide (j = i) := by
  rw [← bits_pow hi, inS_bits _ hj]

theorem sumN_one {n i : Nat} {c : Nat → Int} (hi : i < n) : (sumN n fun j => if j = i then c j else 0) = c i := by
  induction n with
  | zero => omega
  | succ n ih =>
    simp only [sumN]
    by_cases h : i = n
    · subst h
      have : (sumN i fun j => if j = i then c j else 0) = 0 := by
        rw [sumN_congr (c' := fun _ => 0) fun j hj => by rw [if_neg (by omega)]]
        clear ih
        induction i with
        | zero => rfl
        | succ i ih => simp only [sumN]; rw [ih (by omega)]; rfl
      rw [this]; simp
    · rw [ih (by omega), if_neg (fun e => h e.symm)]; simp

theorem sumT_pow {t : List Int} {i : Nat} (hi : i < t.length) : Hul.sumT t (2 ^ i) = ofL t i := by
  unfold Hul.sumT
  rw [← sumN_one (c := ofL t) hi]
  refine sumN_congr fun j hj => ?_
  rw [inS_pow hi hj]
  simp

theorem span_in {l : List Int} {x : Int} (hx : x ∈ l) : (spanOf l).1 ≤ x ∧ x ≤ (spanOf l).2 := by
  have hne : l ≠ [] := by rintro rfl; cases hx
  exact (spanOf_mem hne).2.2 x hx

theorem bestI_spec (g : Int → Int) {l : List Int} (hl : l ≠ []) : (bestI g l).1 ∈ l ∧ (bestI g l).2 = g (bestI g l).1 ∧ ∀ x ∈ l, (bestI g l).2 ≤ g x := by
  induction l using list_push_ind with
  | h0 => exact absurd rfl hl
  | h1 l y ih =>
    by_cases h : l = []
    · subst h; simp [bestI]
    · have := ih h
      rw [bestI_push g l y h]
      split
      · rename_i hlt
        refine ⟨by simp, rfl, fun x hx => ?_⟩
        rcases List.mem_append.1 hx with hx | hx
        · have := this.2.2 x hx; simp only []; omega
        · obtain rfl : x = y := by simpa using hx
          exact Int.le_refl _
      · rename_i hlt
        refine ⟨List.mem_append_left _ this.1, this.2.1, fun x hx => ?_⟩
        rcases List.mem_append.1 hx with hx | hx
        · exact this.2.2 x hx
        · obtain rfl : x = y := by simpa using hx
          omega

namespace Hul
variable {h : Hul}
theorem setsL_mem {s : Int} : s ∈ h.setsL ↔ ∃ t ∈ h.truths h.every, leaksT t = s := by
  unfold setsL
  rw [(sortI_perm _).mem_iff]
  have := seenK_mem (h.truths h.every) (h.truths h.every).length s
  rwa [List.take_length] at this
theorem setsL_lt {i j : Nat} (hj : j < h.setsL.length) (hij : i < j) : h.setsL[i] < h.setsL[j] := by
  have hi : i < h.setsL.length := by omega
  have h1 := List.pairwise_iff_getElem.1 (sortI_sorted (seenK (h.truths h.every))) i j hi hj hij
  have hnd : h.setsL.Nodup := by
    unfold setsL
    rw [(sortI_perm _).nodup_iff]
    have := seenK_nodup (h.truths h.every) (h.truths h.every).length
    rwa [List.take_length] at this
  have h2 := List.pairwise_iff_getElem.1 hnd i j (by omega) hj hij
  have h3 : h.setsL[i] ≤ h.setsL[j] := h1
  omega
theorem setsL_ne (ht : h.truths h.every ≠ []) : h.setsL ≠ [] := by
  obtain ⟨t, l, hl⟩ := List.exists_cons_of_ne_nil ht
  have : leaksT t ∈ h.setsL := setsL_mem.2 ⟨t, by rw [hl]; simp, rfl⟩
  intro e; rw [e] at this; cases this
theorem leaks_can (hv : h.Valid) {t : List Int} (ht : t ∈ h.truths h.every) : bitI .andNot .i64 (leaksT t) (bits (canL (h.truths h.every)) 6) = 0 := by
  rw [← leaks6 hv ht]
  refine andNot_zero (by omega) fun i _ hi => ?_
  unfold canL
  rw [List.any_eq_true]
  exact ⟨t, ht, hi⟩
theorem sure_leaks (hv : h.Valid) {t : List Int} (ht : t ∈ h.truths h.every) : bitI .andNot .i64 (bits (sureL (h.truths h.every)) 6) (leaksT t) = 0 := by
  rw [← leaks6 hv ht]
  refine andNot_zero (by omega) fun i _ hi => ?_
  unfold sureL at hi
  rw [List.all_eq_true] at hi
  exact hi t ht
theorem sets_can (hv : h.Valid) {s : Int} (hs : s ∈ h.setsL) : bitI .andNot .i64 s (bits (canL (h.truths h.every)) 6) = 0 := by
  obtain ⟨t, ht, rfl⟩ := setsL_mem.1 hs
  exact leaks_can hv ht
theorem sure_sets (hv : h.Valid) {s : Int} (hs : s ∈ h.setsL) : bitI .andNot .i64 (bits (sureL (h.truths h.every)) 6) s = 0 := by
  obtain ⟨t, ht, rfl⟩ := setsL_mem.1 hs
  exact sure_leaks hv ht
end Hul
end Go.Cw
end

/- The law True. -/
section
set_option maxRecDepth 100000
set_option linter.unusedSimpArgs false
namespace Go.Cw
open Go Go.Proofs

theorem law01_LeakTrue_ok (l : List Int) (hl : U16ok l) : APure Pg fn_law01_LeakTrue [U16 l] (.bool true) := by
  refine law01_LeakTrue.pure (by simp) ?_
  simp
  refine FCall.cps [(900, .dead)] (fun s : Nat => drawV 900 s l) (fun s => [(900, .row [.int .i64 0] s)]) (fun _ => True) (fun K' hK' => AInvoke.func (law01_draws_ok l 900 K' fun s => hK' s trivial)) (by simp) (fun _ => rfl) trivial (fun s _ => ⟨trivial, ?_⟩)
  simp
  refine FCall.cps (σ := {x : Hul × List Int × Nat // x.1.Valid ∧ x.2.1 ∈ x.1.truths x.1.every ∧ x.2.2 ≤ 1000}) [(900, .row [.int .i64 0] s)] (fun x => .tup [x.1.1.v, L x.1.2.1]) (fun x => [(900, .row [.int .i64 x.1.2.2] s)]) (fun _ => True) (fun K' hK' => AInvoke.func ?_) (by simp) (fun _ => rfl) trivial (fun x _ => ⟨trivial, ?_⟩)
  · have := law01_made_ok l hl 0 (by omega) 900 s K' (fun h t k' h1 h2 h3 => hK' ⟨(h, t, k'), h1, h2, by simpa using h3⟩ trivial)
    simpa using this
  obtain ⟨⟨h, t, k'⟩, hv, ht, hk'⟩ := x
  simp only at hv ht hk'
  have hs : h.Small := ⟨by have := hv.n6; unfold Hul.n at this; omega, by have := hv.k8; unfold Hul.k at this; omega⟩
  obtain ⟨T, hT⟩ : ∃ T, T = h.truths h.every := ⟨_, rfl⟩
  have hne : h.truths h.every ≠ [] := by intro e; rw [e] at ht; cases ht
  have hn6 := hv.n6
  have hin := truths_in hv ht
  have eL : h.leaksV = .tup [.int .i64 (bits (canL T) 6), .int .i64 (bits (sureL T) 6), .int .i64 0] := by rw [hT]; simp [Hul.leaksV, hv, hne]
  obtain ⟨few, hfew⟩ : ∃ few, few = bestI sizeS h.setsL := ⟨_, rfl⟩
  have eF : h.fewV = .tup [.int .i64 few.2, .int .i64 few.1, .int .i64 0] := by rw [hfew]; simp [Hul.fewV, hv, hne]
  have eS : h.setsV = .tup [L h.setsL, .int .i64 0] := by simp [Hul.setsV, hv, hne]
  have eC : h.clashV = .tup [.int .i64 0, .int .i64 4] := by simp [Hul.clashV, hv, hne]
  have hbest := bestI_spec sizeS (Hul.setsL_ne hne)
  rw [← hfew] at hbest
  have hfb := Hul.setsL_in hv hbest.1
  have hlk : leaksT t ∈ h.setsL := Hul.setsL_mem.2 ⟨t, ht, rfl⟩
  have hlb := Hul.setsL_in hv hlk
  simp
  intro s4
  refine PCallK.intro (PInv.func (leak_Leaks_ok h hs)) ?_
  rw [eL]
  simp [Hul.cells]
  refine PCallK.intro (PInv.func (leak_Fewest_ok h hs)) ?_
  rw [eF]
  simp
  refine PCallK.intro (PInv.func (leak_Sets_ok h hs)) ?_
  rw [eS]
  simp
  refine PCallK.intro (PInv.func (leak_Clash_ok h hs)) ?_
  rw [eC]
  simp
  refine PCallK.intro (PInv.func (ref01_Size_ok few.1 (by omega))) ?_
  rw [← hbest.2.1]
  simp
  refine PCallK.intro (PInv.func (ref01_LeaksOf_ok t (by omega))) ?_
  simp
  obtain ⟨S, hS⟩ : ∃ S, S = h.setsL := ⟨_, rfl⟩
  have hSl := Hul.setsL_len hv
  rw [← hS] at hlk hSl
  rw [← hS]
  refine Lp.intro (σ := Nat) (inv := fun k => k ≤ S.length) (vw := fun k => [(3, drawV 900 s l), (4, .ptr 4 0 (s4+1)), (5, L t), (6, .int .i64 (bits (canL T) 6)), (7, .int .i64 (bits (sureL T) 6)), (9, .int .i64 few.2), (12, L S), (16, .int .i64 (leaksT t)), (17, .bool (decide (leaksT t ∈ S.take k))), (82, L S), (83, .int .i64 S.length), (84, .int .i64 k)])
    (hp := fun _ => [(900, .row [.int .i64 k'] s), (4, .row h.cells (s4+1))]) (ms := fun k => S.length - k) 0 (by simp) (by simp) (by simp [Hul.cells]) ?_
  intro k hk J hJ
  by_cases hkc : k < S.length
  · have hmem : S[k] ∈ h.setsL := by rw [← hS]; simp
    have c1 := Hul.sets_can hv hmem
    have c2 := Hul.sure_sets hv hmem
    rw [← hT] at c1 c2
    have htk : (decide (leaksT t ∈ S.take k) || decide (S[k] = leaksT t)) = decide (leaksT t ∈ S.take (k + 1)) := by
      rw [← List.take_append_getElem hkc, Bool.eq_iff_iff]
      simp only [Bool.or_eq_true, decide_eq_true_eq, List.mem_append, List.mem_singleton]
      constructor <;> rintro (a | a) <;> simp_all
    have hord : ∀ m, k = m + 1 → ∃ hm : m < S.length, ¬ S[k] ≤ S[m] := by
      intro m hm
      subst hS
      exact ⟨by omega, by have := Hul.setsL_lt (h := h) (i := m) (j := k) hkc (by omega); omega⟩
    obtain ⟨b1, hb1⟩ : ∃ b1, b1 = decide (leaksT t ∈ S.take k) := ⟨_, rfl⟩
    obtain ⟨b2, hb2⟩ : ∃ b2, b2 = decide (S[k] = leaksT t) := ⟨_, rfl⟩
    have hk2 : k = 0 ∨ ∃ m, k = m + 1 := by cases k; exact .inl rfl; exact .inr ⟨_, rfl⟩
    rw [← hb1, ← hb2] at htk
    rcases hk2 with hk0 | ⟨m, hm⟩
    · have hnk : ¬ 0 < k := by omega
      cases b1 <;> cases b2
      all_goals simp [hkc, ← hb1, ← hb2, c1, c2, hnk]
      all_goals (repeat first | refine And.intro (by omega) ?_ | refine And.intro (Fits.of (by omega) (by omega)) ?_)
      all_goals exact hJ.next (k + 1) (by omega) (by omega) (by simp [← htk]) (by simp [Hul.cells])
    · obtain ⟨hml, hnle⟩ := hord m hm
      have hmi : ((k : Int) - 1) = (m : Int) := by omega
      have hkp : 0 < k := by omega
      cases b1 <;> cases b2
      all_goals simp [hkc, ← hb1, ← hb2, c1, c2, hml, hnle, hmi, hkp]
      all_goals (repeat first | refine And.intro (by omega) ?_ | refine And.intro (Fits.of (by omega) (by omega)) ?_)
      all_goals exact hJ.next (k + 1) (by omega) (by omega) (by simp [← htk]) (by simp [Hul.cells])
  obtain rfl : k = S.length := by omega
  have a1 := Hul.leaks_can hv ht
  have a2 := Hul.sure_leaks hv ht
  rw [← hT] at a1 a2
  have hsz := hbest.2.2 (leaksT t) (hS ▸ hlk)
  have hsz' : ¬ sizeS (leaksT t) < few.2 := by omega
  simp
  refine hJ.exit ?_
  simp [hlk, a1, a2]
  refine PCallK.intro (PInv.func (ref01_Size_ok (leaksT t) (by omega))) ?_
  simp [hsz']
  have htl := hin.1
  have hsum : ∀ (ok : Prop) [Decidable ok], ok → ∀ q, ∃ s : Int × Int, h.sumV ok q = .tup [SP2 s, .int .i64 0] ∧ s.1 ≤ Hul.sumT t q ∧ Hul.sumT t q ≤ s.2 := by
    intro ok _ hok q
    have h1 := span_in (l := (h.truths h.every).map (Hul.sumT · q)) (x := Hul.sumT t q) (List.mem_map.2 ⟨t, ht, rfl⟩)
    exact ⟨_, by simp only [Hul.sumV, hv, hok, if_true]; rw [if_neg hne], h1.1, h1.2⟩
  refine Lp.intro (σ := Nat) (inv := fun k => k ≤ t.length) (vw := fun k => [(3, drawV 900 s l), (4, .ptr 4 0 (s4+1)), (5, L t), (139, L t), (140, .int .i64 t.length), (141, .int .i64 k)])
    (hp := fun _ => [(900, .row [.int .i64 k'] s), (4, .row h.cells (s4+1))]) (ms := fun k => t.length - k) 0 (by simp) (by simp) (by simp [Hul.cells]) ?_
  intro k hk J2 hJ2
  by_cases hkc : k < t.length
  · obtain ⟨sp, hsp, hsp1⟩ := hsum (h.Seam k) (by unfold Hul.Seam; omega) (2 ^ (k : Int).toNat)
    have hrate := leak_Rate_ok h hs k
    rw [hsp] at hrate
    rw [show (2 : Int) ^ (k : Int).toNat = 2 ^ k by rfl, sumT_pow hkc, ← ofL_at t hkc] at hsp1
    simp [hkc, Hul.cells]
    refine PCallK.intro (PInv.func (first := []) (cap := []) (args := [h.v, .int .i64 k]) hrate) ?_
    simp [SP2]
    intro s22
    refine PCallK.intro (PInv.func (law01_inside_ok t[k] sp)) ?_
    simp [hsp1]
    (repeat first | refine And.intro (by omega) ?_ | refine And.intro (Fits.of (by omega) (by omega)) ?_)
    exact hJ2.next (k + 1) (by omega) (by omega) (by simp) (by simp [Hul.cells])
  obtain rfl : k = t.length := by omega
  simp
  refine hJ2.exit ?_
  simp
  have hp2 : (0 : Int) < 2 ^ t.length ∧ (2 : Int) ^ t.length ≤ 64 := by
    have h0 := two_pow_pos t.length
    have h1 := two_pow_le (show t.length ≤ 6 by omega)
    have : (2 : Int) ^ 6 = 64 := by decide
    omega
  refine ⟨by omega, by unfold Fits; omega, ?_⟩
  refine FCall.draw hl (by omega) (k := k') (by omega) (by simp) (by simp) fun q hq => ?_
  simp [Hul.cells]
  have hq62 : (0 : Int) ≤ q ∧ (q : Int) < 2 ^ 62 := by omega
  obtain ⟨sp, hsp, hsp1⟩ := hsum (h.Set q) (by unfold Hul.Set; rw [← htl]; omega) q
  have htot := leak_Total_ok h hs q
  rw [hsp] at htot
  refine PCallK.intro (PInv.func (first := []) (cap := []) (args := [h.v, .int .i64 q]) htot) ?_
  simp [SP2]
  intro s25
  have hin4 : In4 t := ⟨by omega, fun x hx => by
    obtain ⟨i, hi, rfl⟩ := List.getElem_of_mem hx
    rw [ofL_at t hi]
    have := hin.2 i
    omega⟩
  refine PCallK.intro (PInv.func (ref01_Sum_ok t hin4 q hq62)) ?_
  simp
  refine PCallK.intro (PInv.func (law01_inside_ok (Hul.sumT t q) sp)) ?_
  simp [hsp1]
  refine Lp.intro (σ := Nat) (inv := fun d => d ≤ 13) (vw := fun d => [(4, .ptr 4 0 (s4+1)), (5, L t), (182, .int .i64 d)])
    (hp := fun _ => [(4, .row h.cells (s4+1))]) (ms := fun d => 13 - d) 0 (by simp) (by simp) (by simp [Hul.cells]) ?_
  intro d hd J3 hJ3
  by_cases hdc : d < 13
  · have hdi : (d : Int) < 13 := by omega
    simp [hdi]
    refine Lp.intro (σ := Nat) (inv := fun j => j ≤ 7) (vw := fun j => [(4, .ptr 4 0 (s4+1)), (5, L t), (27, .int .i64 d), (28, .int .i64 ((j : Int) - 3)), (182, .int .i64 d)])
      (hp := fun _ => [(4, .row h.cells (s4+1))]) (ms := fun j => 7 - j) 0 (by simp) (by simp) (by simp [Hul.cells]) ?_
    intro j hj J4 hJ4
    by_cases hjc : j < 7
    · have hle : (j : Int) - 3 ≤ 3 := by omega
      have hat : Hul.At d ((j : Int) - 3) := by unfold Hul.At; omega
      obtain ⟨sp, hsp, hsp1⟩ := hsum (Hul.At d ((j : Int) - 3)) hat (h.wet d ((j : Int) - 3))
      have hfl := leak_Flow_ok h hs d ((j : Int) - 3)
      rw [hsp] at hfl
      simp [hle, Hul.cells]
      refine PCallK.intro (PInv.func (first := []) (cap := []) (args := [h.v, .int .i64 d, .int .i64 ((j : Int) - 3)]) hfl) ?_
      simp [SP2]
      intro s29
      refine PCallK.intro (PInv.func (law01_flow_ok h hn6 hv.sm t htl (fun i => by have := hin.2 i; omega) (LD h.snds) d ((j : Int) - 3) hat)) ?_
      simp
      refine PCallK.intro (PInv.func (law01_inside_ok (Hul.sumT t (h.wet d ((j : Int) - 3))) sp)) ?_
      simp [hsp1]
      (repeat first | refine And.intro (by omega) ?_ | refine And.intro (Fits.of (by omega) (by omega)) ?_)
      exact hJ4.next (j + 1) (by omega) (by omega) (by simp; omega) (by simp [Hul.cells])
    obtain rfl : j = 7 := by omega
    simp
    refine hJ4.exit ?_
    simp
    (repeat first | refine And.intro (by omega) ?_ | refine And.intro (Fits.of (by omega) (by omega)) ?_)
    exact hJ3.next (d + 1) (by omega) (by omega) (by simp) (by simp [Hul.cells])
  obtain rfl : d = 13 := by omega
  simp
  refine hJ3.exit ?_
  simp
  refine PCallK.intro (PInv.func law01_alive_ok) ?_
  simp
  exact RetV.refl rfl
end Go.Cw
end
