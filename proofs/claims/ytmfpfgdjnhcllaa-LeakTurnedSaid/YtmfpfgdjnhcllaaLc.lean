/-
  Laws of layer 1; how a hull is read as an argument.
-/
import Derived.Test.YtmfpfgdjnhcllaaLb
import Derived.Test.YtmfpfgdjnhcllaaAe
import Derived.Test.YtmfpfgdjnhcllaaAf
import Derived.Test.YtmfpfgdjnhcllaaRows
set_option linter.unusedVariables false
set_option linter.unusedSimpArgs false
set_option linter.unusedSectionVars false

/- The laws Clashes and Names. -/
section
set_option maxRecDepth 100000
set_option linter.unusedSimpArgs false
namespace Go.Cw
open Go Go.Proofs

end Go.Cw
end

/- How a hull is read as an argument. -/
section
set_option maxRecDepth 100000
namespace Go.Cw
open Go Go.Proofs

section
variable {w : World} {μ : Mu}

theorem opens_int : Opens Pg w μ 3 fun av => ∃ n, (Lit.int .i64 n).wf = true ∧ av = [.int .i64 n] := Opens.int Try.underlying3 (by kernel_rfl)
theorem opens_span : Opens Pg w μ 37 fun av => ∃ p : Int × Int, av = [.int .i64 p.1, .int .i64 p.2] := by
  refine (Opens.struct (Vs := [_, _]) Try.underlying37 (by kernel_rfl) ⟨rfl, opens_int, by kernel_rfl, opens_int, trivial⟩).mono ?_
  rintro av ⟨ass, h, rfl⟩
  obtain ⟨a, b, rfl, ⟨n, _, rfl⟩, ⟨m, _, rfl⟩⟩ := h.two
  exact ⟨(n, m), rfl⟩
theorem opens_seam : Opens Pg w μ 59 fun av => ∃ a : Sm, av = a.c := by
  refine (Opens.struct (Vs := [_, _, _]) Try.underlying59 (by kernel_rfl) ⟨rfl, opens_int, by kernel_rfl, opens_int, by kernel_rfl, opens_int, trivial⟩).mono ?_
  rintro av ⟨ass, h, rfl⟩
  obtain ⟨a, b, c, rfl, ⟨n, _, rfl⟩, ⟨m, _, rfl⟩, ⟨k, _, rfl⟩⟩ := h.three
  exact ⟨⟨n, m, k⟩, rfl⟩
theorem opens_sounding : Opens Pg w μ 63 fun av => ∃ a : Sd, av = a.c := by
  refine (Opens.struct (Vs := [_, _, _]) Try.underlying63 (by kernel_rfl) ⟨rfl, opens_int, by kernel_rfl, opens_int, by kernel_rfl, opens_span, trivial⟩).mono ?_
  rintro av ⟨ass, h, rfl⟩
  obtain ⟨a, b, c, rfl, ⟨n, _, rfl⟩, ⟨m, _, rfl⟩, ⟨p, rfl⟩⟩ := h.three
  exact ⟨⟨n, m, p.1, p.2⟩, rfl⟩
theorem c59 : 0 < Pg.cellsOf 59 := by rw [show Pg.cellsOf 59 = 3 by kernel_rfl]; omega
theorem c63 : 0 < Pg.cellsOf 63 := by rw [show Pg.cellsOf 63 = 4 by kernel_rfl]; omega
theorem opens_hull : Opens Pg w μ 25 fun av => ∃ h : Hul, av = h.cells := by
  refine (Opens.struct (Vs := [_, _]) Try.underlying25 (by kernel_rfl) ⟨rfl, Opens.fl Try.underlying22 (by kernel_rfl) c59 opens_seam, by kernel_rfl, Opens.fl Try.underlying23 (by kernel_rfl) c63 opens_sounding, trivial⟩).mono ?_
  rintro av ⟨ass, h, rfl⟩
  obtain ⟨a, b, rfl, ⟨n, rfl⟩, ⟨m, rfl⟩⟩ := h.two
  exact ⟨⟨n, m⟩, rfl⟩
theorem opens_u16 : Opens Pg w μ 43 fun av => ∃ l : List Int, U16ok l ∧ av = [U16 l] :=
  (Opens.intsK (k := .u16) Try.underlying43 (by kernel_rfl) Try.underlying94 (by kernel_rfl)).mono fun av ⟨l, h1, h2, h3⟩ =>
    ⟨l, ⟨Nat.le_trans h1 (by decide +kernel), fun x hx => bounds_u16 (h2 x hx)⟩, h3⟩
theorem opens_u8 : Opens Pg w μ 5 fun av => ∃ n : Int, (0 ≤ n ∧ n ≤ 255) ∧ av = [.int .u8 n] :=
  (Opens.int Try.underlying5 (by kernel_rfl)).mono fun av ⟨n, h1, h2⟩ => ⟨n, bounds_u8 h1, h2⟩
end

theorem kids : Kids Pg (· < Pg.types.size) := kids_rows (by kernel_rfl) (by kernel_rfl)
theorem slices_full : ∀ t e, t < Pg.types.size → Pg.underlying t = some (.slice e) → 0 < Pg.cellsOf e := slices_full_of Pg (by kernel_rfl)
theorem ownKnobNone : ownKnob Pg.godebug = none := by kernel_rfl

end Go.Cw
end

/- Numbers that are drawn; what comes in; a hull that is made, with a truth. -/
section
set_option maxRecDepth 100000
set_option linter.unusedSimpArgs false
namespace Go.Cw
open Go Go.Proofs

/-- The function that draws. -/
def drawV (ra s : Nat) (l : List Int) : AVal := .func (.func fn_law01_draws_1) [] [.ptr ra 0 s, .pv [U16 l]]
@[simp] theorem frz_drawV (r s : Nat) (cells : List AVal) (ra s' : Nat) (l : List Int) (h : ¬ ra = r) : frz r s cells (drawV ra s' l) = drawV ra s' l := by simp [drawV, h]

theorem law01_draws_ok (l : List Int) (ra : Nat) (K : AEnd → Heap → Prop) (hK : ∀ s, K (.ret (drawV ra s l)) (hpV [(ra, .row [.int .i64 0] s)])) : ACalls Pg fn_law01_draws [U16 l] (hpV [(ra, .dead)]) K := by
  obtain ⟨F, hF⟩ : ∃ F, ra < F := ⟨ra + 1, by omega⟩
  have e1 : ∀ k, ¬ F + k = ra := fun k => by omega
  have e2 : ∀ k, ¬ ra = F + k := fun k => by omega
  refine law01_draws.enter F (by simp) ?_
  simp [e1, e2]
  intro s s1
  refine RetV.frz (F + 1) (cells := [U16 l]) (s := s + 1) (by simp [e1, e2]) (RetV.move (F + 3) ra (RetV.view [(ra, .row [.int .i64 0] (s1 + 1))] (by simp [e1, e2]) ?_))
  simpa [drawV] using hK (s1 + 1)

theorem law01_draws_1_ok (l : List Int) (hl : U16ok l) (n : Int) (hn : 0 < n ∧ n ≤ 1000000) (k : Nat) (hk : k ≤ 1000000) (ra s : Nat) (K : AEnd → Heap → Prop)
    (hK : ∀ r : Nat, (r : Int) < n → K (.ret (.int .i64 r)) (hpV [(ra, .row [.int .i64 (k + 1 : Nat)] s)])) : ACalls Pg fn_law01_draws_1 [.int .i64 n, .ptr ra 0 s, .pv [U16 l]] (hpV [(ra, .row [.int .i64 k] s)]) K := by
  obtain ⟨F, hF⟩ : ∃ F, ra < F := ⟨ra + 1, by omega⟩
  have e1 : ∀ k, ¬ F + k = ra := fun k => by omega
  have e2 : ∀ k, ¬ ra = F + k := fun k => by omega
  have fin : ∀ r : Int, 0 ≤ r → r < n → RetV K (hpV [(ra, .row [.int .i64 (k + 1 : Nat)] s)]) (.int .i64 r) := fun r h0 h1 => by
    obtain ⟨r', rfl⟩ := Int.eq_ofNat_of_zero_le h0
    exact RetV.refl (hK r' h1)
  refine law01_draws_1.enter F (by simp) ?_
  simp [e1, e2]
  (repeat first | refine And.intro (by omega) ?_ | refine And.intro (Fits.of (by omega) (by omega)) ?_)
  by_cases h0 : l = []
  · subst h0
    simp [e1, e2]
    (repeat first | refine And.intro (by omega) ?_ | refine And.intro (Fits.of (by omega) (by omega)) ?_)
    have h1 := Int.tmod_nonneg (a := (k : Int) + 1) n (by omega)
    have h2 := Int.tmod_lt_of_pos ((k : Int) + 1) hn.1
    rw [upd_upd]
    simpa using fin _ h1 h2
  · have hpos : 0 < l.length := List.length_pos_iff.2 h0
    have hlen := hl.len
    have h1 := Int.tmod_nonneg (a := (k : Int) + 1) (l.length : Int) (by omega)
    have h2 := Int.tmod_lt_of_pos ((k : Int) + 1) (show (0 : Int) < l.length by omega)
    obtain ⟨i, hi⟩ := Int.eq_ofNat_of_zero_le h1
    have hil : i < l.length := by omega
    have hx := hl.rng l[i] (by simp)
    simp [h0, e1, e2, hi, hil]
    have h3 := Int.tmod_nonneg (a := l[i] + 71 * ((k : Int) + 1)) n (by omega)
    have h4 := Int.tmod_lt_of_pos (l[i] + 71 * ((k : Int) + 1)) hn.1
    refine ⟨Fits.of (by omega) (by omega), Fits.of (by omega) (by omega), Fits.of (by omega) (by omega), by omega, ?_⟩
    rw [upd_upd]
    simpa using fin _ h3 h4

/-- A number is drawn. -/
theorem FCall.draw {F n₀ : Nat} {inr : Bool} {keep : List Nat} {fa fl : List It} {d : Option Nat} {K : KT} {Q : Post} {tm : TM} {df : DF} {h : Heap} {l : List Int} (hl : U16ok l) {n : Int} (hn : 0 < n ∧ n ≤ 1000000) {k : Nat} (hk : k ≤ 1000000) {ra s : Nat} (hr : h ra = .row [.int .i64 k] s) (f : FaOk F fa tm h)
    (next : ∀ r : Nat, (r : Int) < n → FlOk fl (putD tm d (.int .i64 r)) (upd h ra (.row [.int .i64 (k + 1 : Nat)] s)) ∧ K (putD tm d (.int .i64 r)) df (upd h ra (.row [.int .i64 (k + 1 : Nat)] s))) :
    FCall ⟨Pg, F, n₀, inr, keep⟩ (drawV ra s l) [.int .i64 n] fa fl d K Q tm df h := by
  refine FCall.cps [(ra, .row [.int .i64 k] s)] (fun r : Nat => .int .i64 r) (fun _ => [(ra, .row [.int .i64 (k + 1 : Nat)] s)]) (fun r => (r : Int) < n) (fun K' hK' => AInvoke.func ?_) (by simpa using hr) (fun _ => rfl) f (fun r hr => by simpa using next r hr)
  exact law01_draws_1_ok l hl n hn k hk ra s K' hK'

theorem law01_inside_ok (n : Int) (s : Int × Int) : APure Pg fn_law01_inside [.int .i64 n, SP2 s] (.bool (decide (s.1 ≤ n ∧ n ≤ s.2))) := by
  refine law01_inside.pure (by simp) ?_
  by_cases h : s.1 ≤ n <;> simp [h, SP2]
  all_goals intro s1
  all_goals exact RetV.refl (by simp)

theorem law01_wet_ok (a : Sm) (ha : Hul.OkS a) (d l : Int) (hd : Hul.At d l) : APure Pg fn_law01_wet [.agg a.c, .int .i64 d, .int .i64 l] (.bool (decide (a.h ≤ d + a.s * l))) := by
  unfold Hul.OkS at ha
  unfold Hul.At at hd
  have hmul : -3 ≤ a.s * l ∧ a.s * l ≤ 3 := by
    have : a.s = -1 ∨ a.s = 0 ∨ a.s = 1 := by omega
    rcases this with e | e | e <;> rw [e] <;> omega
  refine law01_wet.pure (by simp) ?_
  simp [Sm.c]
  intro s
  (repeat first | refine And.intro (by omega) ?_ | refine And.intro (Fits.of (by omega) (by omega)) ?_)
  exact RetV.refl rfl

theorem sumT_wet {h : Hul} {t : List Int} (ht : t.length = h.n) (d l : Int) : Hul.sumT t (h.wet d l) = sumN h.n fun i => if h.wetP d l i then ofL t i else 0 := by
  unfold Hul.sumT
  rw [ht]
  refine sumN_congr fun j hj => ?_
  unfold Hul.wet
  rw [inS_bits _ hj]

theorem law01_flow_ok (h : Hul) (hn : h.n ≤ 6) (hs : ∀ a ∈ h.seams, Hul.OkS a) (t : List Int) (ht : t.length = h.n) (hb : ∀ i, 0 ≤ ofL t i ∧ ofL t i ≤ 100) (X : AVal) (d l : Int) (hd : Hul.At d l) :
    APure Pg fn_law01_flow [.agg [LS h.seams, X], L t, .int .i64 d, .int .i64 l] (.int .i64 (Hul.sumT t (h.wet d l))) := by
  have hl : h.seams.length = h.n := rfl
  rw [sumT_wet ht]
  refine law01_flow.pure (by simp) ?_
  simp
  intro s4
  refine Lp.intro (σ := Nat) (inv := fun k => k ≤ h.n) (vw := fun k => [(1, L t), (2, .int .i64 d), (3, .int .i64 l), (8, .int .i64 (sumN k fun i => if h.wetP d l i then ofL t i else 0)), (12, LS h.seams), (13, .int .i64 h.n), (14, .int .i64 k)])
    (hp := fun _ => []) (ms := fun k => h.n - k) 0 (by simp) (by simp [sumN, hl]) (by simp) ?_
  intro k hk J hJ
  by_cases hkc : k < h.n
  · have hkl : k < h.seams.length := hkc
    have hkt : k < t.length := by omega
    obtain ⟨a, hak⟩ : ∃ a, h.seams[k] = a := ⟨_, rfl⟩
    have hok := hs a (by rw [← hak]; simp)
    have hp : h.wetP d l k = decide (a.h ≤ d + a.s * l) := by simp [Hul.wetP, hkl, hak]
    have hw := law01_wet_ok a hok d l hd
    have hbk := hb k
    rw [← ofL_at t hkt] at hbk
    have hsum : ∀ k, k ≤ 6 → 0 ≤ (sumN k fun i => if h.wetP d l i then ofL t i else 0) ∧ (sumN k fun i => if h.wetP d l i then ofL t i else 0) ≤ 600 := by
      intro k hk6
      have h1 : ∀ j, j < k → 0 ≤ (if h.wetP d l j then ofL t j else 0) ∧ (if h.wetP d l j then ofL t j else 0) ≤ 100 := fun j _ => by have := hb j; split <;> omega
      have h2 := sumN_nonneg fun j hj => (h1 j hj).1
      have h3 := sumN_le fun j hj => (h1 j hj).2
      constructor
      · exact h2
      · omega
    have hsk := hsum k (by omega)
    simp [hkc, hkl, hak]
    refine ⟨by omega, fun s10 => ?_⟩
    refine PCallK.intro (PInv.func hw) ?_
    by_cases hwk : a.h ≤ d + a.s * l
    · simp [hwk, hkt]
      (repeat first | refine And.intro (by omega) ?_ | refine And.intro (Fits.of (by omega) (by omega)) ?_)
      exact hJ.next (k + 1) (by omega) (by omega) (by simp [sumN, hp, hwk, ofL_at t hkt]) (by simp)
    · simp [hwk, hkt]
      (repeat first | refine And.intro (by omega) ?_ | refine And.intro (Fits.of (by omega) (by omega)) ?_)
      exact hJ.next (k + 1) (by omega) (by omega) (by simp [sumN, hp, hwk, ofL_at t hkt]) (by simp)
  obtain rfl : k = h.n := by omega
  simp
  refine hJ.exit ?_
  simp
  exact RetV.refl rfl
end Go.Cw
end

/- A hull that is made, with a truth. -/
section
set_option maxRecDepth 100000
set_option linter.unusedSimpArgs false
namespace Go.Cw
open Go Go.Proofs

theorem allT_push {ms t : List Int} {m n : Int} (ht : t ∈ allT ms) (hn : 0 ≤ n ∧ n ≤ m) : t ++ [n] ∈ allT (ms ++ [m]) := by
  rw [mem_allT] at ht ⊢
  refine ⟨by simp [ht.1], fun i hi => ?_⟩
  rw [List.length_append] at hi
  by_cases h : i < ms.length
  · have := ht.2 i h
    rw [ofL_push, ofL_push, upd_ne _ _ (by omega), upd_ne _ _ (by omega)]
    exact this
  · obtain rfl : i = ms.length := by simp at hi; omega
    rw [ofL_push, ofL_push, upd_same, ← ht.1, upd_same]
    exact hn

theorem sms_push (S : List Sm) (a : Sm) : sms S ++ a.c = sms (S ++ [a]) := fl_one S a
theorem sds_push (D : List Sd) (a : Sd) : sds D ++ a.c = sds (D ++ [a]) := fl_one D a

theorem law01_made_ok (l : List Int) (hl : U16ok l) (k : Nat) (hk : k ≤ 1000) (ra s : Nat) (K : AEnd → Heap → Prop)
    (hK : ∀ (h : Hul) (t : List Int) (k' : Nat), h.Valid → t ∈ h.truths h.every → k' ≤ k + 1000 → K (.ret (.tup [h.v, L t])) (hpV [(ra, .row [.int .i64 k'] s)])) :
    ACalls Pg fn_law01_made [drawV ra s l] (hpV [(ra, .row [.int .i64 k] s)]) K := by
  obtain ⟨F, hF⟩ : ∃ F, ra < F := ⟨ra + 1, by omega⟩
  have e1 : ∀ k, ¬ F + k = ra := fun k => by omega
  have e2 : ∀ k, ¬ ra = F + k := fun k => by omega
  refine law01_made.enter F (by simp) ?_
  simp [e1, e2]
  intro s2
  refine FCall.draw hl (by omega) (k := k) (by omega) (by simp [e1, e2]) (by simp [e1, e2]) fun r0 hr0 => ?_
  simp [e1, e2]
  (repeat first | refine And.intro (by omega) ?_ | refine And.intro (Fits.of (by omega) (by omega)) ?_)
  refine Lp.intro' (σ := List Sm × List Int × Nat × Nat × Nat) (inv := fun x => x.1.length ≤ r0 + 1 ∧ (∀ a ∈ x.1, Hul.OkS a) ∧ x.2.1 ∈ allT (x.1.map (·.m)) ∧ x.2.2.2.2 ≤ k + 1 + 5 * x.1.length)
    (vw := fun x => [(0, drawV ra s l), (2, .ptr (F+2) 0 (s2+1)), (3, gS 1 (F+38) x.1.length x.2.2.2.1), (11, .int .i64 (1 + r0)), (12, .int .i64 x.1.length)])
    (hp := fun x => [(ra, .row [.int .i64 x.2.2.2.2] s), (F+2, .row [gS 3 (F+34) x.1.length x.2.2.1, .nils] (s2+1)), (F+34, gO x.1.length (sms x.1) x.2.2.1), (F+38, gO x.1.length (ints x.2.1) x.2.2.2.1)])
    (ms := fun x => r0 + 1 - x.1.length) ([], [], 0, 0, k + 1) (by simp [allT])
    (Sl.wk 3 .es (by simpa using ALe.nils_es) (Sl.rowLe (cells := [.nils, .nils]) (s := s2 + 1) (F+2) [.es, .nils] (by simp [e1, e2]) ⟨ALe.nils_es, ALe.refl _, trivial⟩ (Sl.refl ⟨rfl, by simp, by simp [e1, e2]⟩))) ?_
  rintro ⟨S, t, st1, st2, k1⟩ ⟨hS, hok, ht, hk1⟩ J hJ
  simp only at hS hok ht hk1
  have htl : t.length = S.length := by have := (mem_allT.1 ht).1; simpa using this
  by_cases hc : S.length < r0 + 1
  · have hci : (S.length : Int) < 1 + r0 := by omega
    simp [hci, e1, e2]
    refine FCall.draw hl (by omega) (k := k1) (by omega) (by simp [e1, e2]) (by simp [e1, e2]) fun r1 hr1 => ?_
    simp [e1, e2]
    refine FCall.draw hl (by omega) (k := k1 + 1) (by omega) (by simp [e1, e2]) (by simp [e1, e2]) fun r2 hr2 => ?_
    simp [e1, e2]
    (repeat first | refine And.intro (by omega) ?_ | refine And.intro (Fits.of (by omega) (by omega)) ?_)
    refine FCall.draw hl (by omega) (k := k1 + 1 + 1) (by omega) (by simp [e1, e2]) (by simp [e1, e2]) fun r3 hr3 => ?_
    simp [e1, e2]
    intro s4
    have hsp : sms S ++ [AVal.int .i64 r1, .int .i64 ((r2 : Int) - 1), .int .i64 r3] = sms (S ++ [⟨r1, (r2 : Int) - 1, r3⟩]) := sms_push S ⟨r1, (r2 : Int) - 1, r3⟩
    have hoka : Hul.OkS ⟨r1, (r2 : Int) - 1, r3⟩ := by unfold Hul.OkS; simp only []; omega
    refine FCall.draw hl (by omega) (k := k1 + 1 + 1 + 1) (by omega) (by simp [e1, e2]) (by simp [e1, e2]) fun r4 hr4 => ?_
    by_cases h4 : r4 = 0
    · subst h4
      simp [e1, e2]
      (repeat first | refine And.intro (by omega) ?_ | refine And.intro (Fits.of (by omega) (by omega)) ?_)
      refine FCall.draw hl (by omega) (k := k1 + 1 + 1 + 1 + 1) (by omega) (by simp [e1, e2]) (by simp [e1, e2]) fun r5 hr5 => ?_
      simp [e1, e2]
      intro s33 s34
      refine xApN_gS (cells := sms S) (by simp [e1, e2]) (by simp) (by omega) (by omega) ?_
      rw [hsp]
      simp [e1, e2]
      intro s37 s38
      refine xApN_gS (cells := ints t) (by simp [e1, e2]) (by simp [htl]) (by omega) (by omega) ?_
      simp [e1, e2]
      (repeat first | refine And.intro (by omega) ?_ | refine And.intro (Fits.of (by omega) (by omega)) ?_)
      refine hJ.next (S ++ [⟨r1, (r2 : Int) - 1, r3⟩], t ++ [(r5 : Int)], s34 + 1, s38 + 1, k1 + 1 + 1 + 1 + 1 + 1) ⟨by simp; omega, ?_, ?_, by simp; omega⟩ (by simp; omega) (by simp [e1, e2]) (by simp [e1, e2])
      · intro b hb
        rcases List.mem_append.1 hb with hb | hb
        · exact hok b hb
        · obtain rfl : b = ⟨r1, (r2 : Int) - 1, r3⟩ := by simpa using hb
          exact hoka
      · rw [List.map_append]
        exact allT_push ht ⟨by omega, by simp only []; omega⟩
    · simp [h4, e1, e2]
      intro s33 s34
      refine xApN_gS (cells := sms S) (by simp [e1, e2]) (by simp) (by omega) (by omega) ?_
      rw [hsp]
      simp [e1, e2]
      intro s37 s38
      refine xApN_gS (cells := ints t) (by simp [e1, e2]) (by simp [htl]) (by omega) (by omega) ?_
      simp [e1, e2]
      (repeat first | refine And.intro (by omega) ?_ | refine And.intro (Fits.of (by omega) (by omega)) ?_)
      refine hJ.next (S ++ [⟨r1, (r2 : Int) - 1, r3⟩], t ++ [0], s34 + 1, s38 + 1, k1 + 1 + 1 + 1 + 1) ⟨by simp; omega, ?_, ?_, by simp; omega⟩ (by simp; omega) (by simp [e1, e2]) (by simp [e1, e2])
      · intro b hb
        rcases List.mem_append.1 hb with hb | hb
        · exact hok b hb
        · obtain rfl : b = ⟨r1, (r2 : Int) - 1, r3⟩ := by simpa using hb
          exact hoka
      · rw [List.map_append]
        exact allT_push ht ⟨by omega, by simp only []; omega⟩
  have hSl : S.length = r0 + 1 := by omega
  have hci : ¬ (S.length : Int) < 1 + r0 := by omega
  have hS0 : 0 < S.length := by omega
  have htb : ∀ i, 0 ≤ ofL t i ∧ ofL t i ≤ 4 := by
    intro i
    by_cases hi : i < S.length
    · have h1 := (mem_allT.1 ht).2 i (by simpa using hi)
      have h2 := hok S[i] (by simp)
      unfold Hul.OkS at h2
      have : ofL (S.map (·.m)) i = S[i].m := by rw [← ofL_at _ (by simpa using hi)]; simp
      omega
    · rw [ofL_none _ (by omega)]; omega
  have hsb : ∀ w : Int, 0 ≤ Hul.sumT t w ∧ Hul.sumT t w ≤ 24 := by
    intro w
    unfold Hul.sumT
    have h1 : ∀ j, j < t.length → 0 ≤ (if inS w j then ofL t j else 0) ∧ (if inS w j then ofL t j else 0) ≤ 4 := fun j _ => by have := htb j; split <;> omega
    have h2 := sumN_nonneg fun j hj => (h1 j hj).1
    have h3 := sumN_le fun j hj => (h1 j hj).2
    constructor
    · exact h2
    · omega
  simp [hci]
  refine hJ.exitS (Sl.gSH (F+34) (m := S.length) (cells := sms S) (s := st1) hS0 (by simp [e1, e2]) (Sl.gSH (F+38) (m := S.length) (cells := ints t) (s := st2) hS0 (by simp [e1, e2]) (Sl.refl ?_)))
  simp [e1, e2, gS_pos hS0]
  refine FCall.draw hl (by omega) (k := k1) (by omega) (by simp [e1, e2]) (by simp [e1, e2]) fun r9 hr9 => ?_
  simp [e1, e2]
  refine Lp.intro' (σ := List Sd × Nat × Nat) (inv := fun x => x.1.length ≤ r9 ∧ (∀ a ∈ x.1, Hul.OkD a ∧ a.lo ≤ Hul.sumT t ((⟨S, []⟩ : Hul).wet a.d a.l) ∧ Hul.sumT t ((⟨S, []⟩ : Hul).wet a.d a.l) ≤ a.hi) ∧ x.2.2 ≤ k1 + 1 + 4 * x.1.length)
    (vw := fun x => [(0, drawV ra s l), (2, .ptr (F+2) 0 (s2+1)), (3, L t), (42, .int .i64 r9), (43, .int .i64 x.1.length)])
    (hp := fun x => [(ra, .row [.int .i64 x.2.2] s), (F+2, .row [LS S, gS 4 (F+72) x.1.length x.2.1] (s2+1)), (F+72, gO x.1.length (sds x.1) x.2.1)])
    (ms := fun x => r9 - x.1.length) ([], 0, k1 + 1) (by simp)
    (Sl.rowLe (cells := [LS S, .nils]) (s := s2 + 1) (F+2) [LS S, .es] (by simp [e1, e2, LS]) ⟨ALe.refl _, ALe.nils_es, trivial⟩ (Sl.refl ⟨rfl, by simp [L, htl, e1, e2], by simp [e1, e2]⟩)) ?_
  rintro ⟨D, st3, k2⟩ ⟨hD, hokD, hk2⟩ J2 hJ2
  simp only at hD hokD hk2
  by_cases hc9 : D.length < r9
  · simp [hc9, e1, e2]
    refine FCall.draw hl (by omega) (k := k2) (by omega) (by simp [e1, e2]) (by simp [e1, e2]) fun r1 hr1 => ?_
    simp [e1, e2]
    refine FCall.draw hl (by omega) (k := k2 + 1) (by omega) (by simp [e1, e2]) (by simp [e1, e2]) fun r2 hr2 => ?_
    simp [e1, e2]
    (repeat first | refine And.intro (by omega) ?_ | refine And.intro (Fits.of (by omega) (by omega)) ?_)
    have hat : Hul.At r1 ((r2 : Int) - 3) := by unfold Hul.At; omega
    refine PCallK.intro (PInv.func (law01_flow_ok ⟨S, []⟩ (by show S.length ≤ 6; omega) hok t htl (fun i => by have := htb i; omega) _ r1 ((r2 : Int) - 3) hat)) ?_
    obtain ⟨n, hn⟩ : ∃ n, n = Hul.sumT t ((⟨S, []⟩ : Hul).wet r1 ((r2 : Int) - 3)) := ⟨_, rfl⟩
    have hnb := hsb ((⟨S, []⟩ : Hul).wet r1 ((r2 : Int) - 3))
    rw [← hn] at hnb ⊢
    simp [e1, e2]
    refine FCall.draw hl (by omega) (k := k2 + 1 + 1) (by omega) (by simp [e1, e2]) (by simp [e1, e2]) fun r3 hr3 => ?_
    simp [e1, e2]
    (repeat first | refine And.intro (by omega) ?_ | refine And.intro (Fits.of (by omega) (by omega)) ?_)
    refine FCall.draw hl (by omega) (k := k2 + 1 + 1 + 1) (by omega) (by simp [e1, e2]) (by simp [e1, e2]) fun r4 hr4 => ?_
    simp [e1, e2]
    (repeat first | refine And.intro (by omega) ?_ | refine And.intro (Fits.of (by omega) (by omega)) ?_)
    refine PCallK.intro (PInv.func (law01_span_ok _ _)) ?_
    simp [SP2]
    refine ⟨by simp [e1, e2], fun s71 s72 => ?_⟩
    refine xApN_gS (cells := sds D) (by simp [e1, e2]) (by simp) (by omega) (by omega) ?_
    have hdp : sds D ++ [AVal.int .i64 r1, .int .i64 ((r2 : Int) - 3), .int .i64 (max 0 (n - r3)), .int .i64 (min 24 (n + r4))] = sds (D ++ [⟨r1, (r2 : Int) - 3, max 0 (n - r3), min 24 (n + r4)⟩]) := sds_push D ⟨r1, (r2 : Int) - 3, max 0 (n - r3), min 24 (n + r4)⟩
    rw [hdp]
    simp [e1, e2]
    (repeat first | refine And.intro (by omega) ?_ | refine And.intro (Fits.of (by omega) (by omega)) ?_)
    refine hJ2.next (D ++ [⟨r1, (r2 : Int) - 3, max 0 (n - r3), min 24 (n + r4)⟩], s72 + 1, k2 + 1 + 1 + 1 + 1) ⟨by simp; omega, ?_, by simp; omega⟩ (by simp; omega) (by simp [e1, e2]) (by simp [e1, e2])
    intro b hb
    rcases List.mem_append.1 hb with hb | hb
    · exact hokD b hb
    · obtain rfl : b = ⟨r1, (r2 : Int) - 3, max 0 (n - r3), min 24 (n + r4)⟩ := by simpa using hb
      simp only [← hn]
      unfold Hul.OkD
      simp only []
      refine ⟨⟨hat, ?_⟩, ?_⟩ <;> omega
  simp [hc9]
  refine hJ2.exit ?_
  simp [e1, e2]
  refine RetV.le (VLe.tup (LLe.cons (VLe.agg (LLe.cons (VLe.refl _ _) (LLe.cons (VLe.gS (cells := sds D) (by simp [e1, e2]) (by simp)) (LLe.nil _))) rfl) (LLe.cons (VLe.refl _ _) (LLe.nil _))) rfl) ?_
  refine RetV.view [(ra, .row [.int .i64 k2] s)] (by simp [e1, e2]) ?_
  have hva : (⟨S, D⟩ : Hul).Valid := ⟨hS0, by show S.length ≤ 6; omega, by show D.length ≤ 8; omega, hok, fun a ha => (hokD a ha).1⟩
  refine hK ⟨S, D⟩ t k2 hva ?_ (by omega)
  unfold Hul.truths
  rw [List.mem_filter]
  refine ⟨ht, Hul.right_at.2 fun j a hj _ => ?_⟩
  exact (hokD a (List.mem_of_getElem? hj)).2
end Go.Cw
end

/- Plain reckoning on sets and truths. -/
section
set_option maxRecDepth 100000
set_option linter.unusedSimpArgs false
namespace Go.Cw
open Go Go.Proofs

theorem bitsI_andNot (p q : Nat → Bool) {n : Nat} (hn : n ≤ 60) : bitI .andNot .i64 (bits p n) (bits q n) = bits (fun i => p i && !q i) n := by
  have ha := natB_lt62 p hn
  have hb := natB_lt62 q hn
  have hc := natB_lt62 (fun i => p i && !q i) hn
  rw [bits_natB, bits_natB, bits_natB]
  have key : (BitVec.ofNat 64 (natB p n) &&& ~~~(BitVec.ofNat 64 (natB q n))).toNat = natB (fun i => p i && !q i) n := by
    apply Nat.eq_of_testBit_eq
    intro i
    rw [← BitVec.getLsbD, BitVec.getLsbD_and, BitVec.getLsbD_not, BitVec.getLsbD_ofNat, BitVec.getLsbD_ofNat, natB_bit, natB_bit, natB_bit]
    by_cases hi : i < n
    · have : i < 64 := by omega
      simp [hi, this]
    · simp [hi]
  show IntKind.i64.wrap (Int.ofNat (BitVec.ofInt 64 (natB p n : Nat) &&& ~~~(BitVec.ofInt 64 (natB q n : Nat))).toNat) = _
  rw [BitVec.ofInt_natCast, BitVec.ofInt_natCast, key]
  have hh : ((natB (fun i => p i && !q i) n : Nat) : Int) < 2 ^ 62 := by exact_mod_cast hc
  refine wrap_fits ?_
  unfold Fits
  simp only [Int.ofNat_eq_natCast]
  omega

theorem andNot_zero {p q : Nat → Bool} {n : Nat} (hn : n ≤ 60) (h : ∀ i, i < n → p i = true → q i = true) : bitI .andNot .i64 (bits p n) (bits q n) = 0 := by
  rw [bitsI_andNot p q hn, bits_zero]
  intro i hi
  cases hp : p i
  · simp
  · simp [h i hi hp]

theorem bits_pow {i n : Nat} (hi : i < n) : bits (fun j => decide (j = i)) n = 2 ^ i := by
  induction n with
  | zero => omega
  | succ n ih =>
    simp only [bits]
    by_cases h : i = n
    · subst h
      have : bits (fun j => decide (j = i)) i = 0 := bits_zero.2 fun j hj => by simp; omega
      rw [this]; simp
    · rw [ih (by omega)]
      have : ¬ n = i := fun e => h e.symm
      simp [this]
theorem inS_pow {i j n : Nat} (hi : i < n) (hj : j < n) : inS (2 ^ i) j = decide (j = i) := by
  rw [← bits_pow hi, inS_bits _ hj]

theorem sumN_one {n i : Nat} {c : Nat → Int} (hi : i < n) : (sumN n fun j => if j = i then c j else 0) = c i := by
  induction n with
  | zero => omega
  | succ n ih =>
    simp only [sumN]
    by_cases h : i = n
    · subst h
      have : (sumN i fun j => if j = i then c j else 0) = 0 := by
        rw [sumN_congr (c' := fun _ => 0) fun j hj => by rw [if_neg (by omega)]]
        clear ih
        induction i with
        | zero => rfl
        | succ i ih => simp only [sumN]; rw [ih (by omega)]; rfl
      rw [this]; simp
    · rw [ih (by omega), if_neg (fun e => h e.symm)]; simp

theorem sumT_pow {t : List Int} {i : Nat} (hi : i < t.length) : Hul.sumT t (2 ^ i) = ofL t i := by
  unfold Hul.sumT
  rw [← sumN_one (c := ofL t) hi]
  refine sumN_congr fun j hj => ?_
  rw [inS_pow hi hj]
  simp

theorem span_in {l : List Int} {x : Int} (hx : x ∈ l) : (spanOf l).1 ≤ x ∧ x ≤ (spanOf l).2 := by
  have hne : l ≠ [] := by rintro rfl; cases hx
  exact (spanOf_mem hne).2.2 x hx

theorem bestI_spec (g : Int → Int) {l : List Int} (hl : l ≠ []) : (bestI g l).1 ∈ l ∧ (bestI g l).2 = g (bestI g l).1 ∧ ∀ x ∈ l, (bestI g l).2 ≤ g x := by
  induction l using list_push_ind with
  | h0 => exact absurd rfl hl
  | h1 l y ih =>
    by_cases h : l = []
    · subst h; simp [bestI]
    · have := ih h
      rw [bestI_push g l y h]
      split
      · rename_i hlt
        refine ⟨by simp, rfl, fun x hx => ?_⟩
        rcases List.mem_append.1 hx with hx | hx
        · have := this.2.2 x hx; simp only []; omega
        · obtain rfl : x = y := by simpa using hx
          exact Int.le_refl _
      · rename_i hlt
        refine ⟨List.mem_append_left _ this.1, this.2.1, fun x hx => ?_⟩
        rcases List.mem_append.1 hx with hx | hx
        · exact this.2.2 x hx
        · obtain rfl : x = y := by simpa using hx
          omega

namespace Hul
variable {h : Hul}
theorem setsL_mem {s : Int} : s ∈ h.setsL ↔ ∃ t ∈ h.truths h.every, leaksT t = s := by
  unfold setsL
  rw [(sortI_perm _).mem_iff]
  have := seenK_mem (h.truths h.every) (h.truths h.every).length s
  rwa [List.take_length] at this
theorem setsL_lt {i j : Nat} (hj : j < h.setsL.length) (hij : i < j) : h.setsL[i] < h.setsL[j] := by
  have hi : i < h.setsL.length := by omega
  have h1 := List.pairwise_iff_getElem.1 (sortI_sorted (seenK (h.truths h.every))) i j hi hj hij
  have hnd : h.setsL.Nodup := by
    unfold setsL
    rw [(sortI_perm _).nodup_iff]
    have := seenK_nodup (h.truths h.every) (h.truths h.every).length
    rwa [List.take_length] at this
  have h2 := List.pairwise_iff_getElem.1 hnd i j (by omega) hj hij
  have h3 : h.setsL[i] ≤ h.setsL[j] := h1
  omega
theorem setsL_ne (ht : h.truths h.every ≠ []) : h.setsL ≠ [] := by
  obtain ⟨t, l, hl⟩ := List.exists_cons_of_ne_nil ht
  have : leaksT t ∈ h.setsL := setsL_mem.2 ⟨t, by rw [hl]; simp, rfl⟩
  intro e; rw [e] at this; cases this
theorem leaks_can (hv : h.Valid) {t : List Int} (ht : t ∈ h.truths h.every) : bitI .andNot .i64 (leaksT t) (bits (canL (h.truths h.every)) 6) = 0 := by
  rw [← leaks6 hv ht]
  refine andNot_zero (by omega) fun i _ hi => ?_
  unfold canL
  rw [List.any_eq_true]
  exact ⟨t, ht, hi⟩
theorem sure_leaks (hv : h.Valid) {t : List Int} (ht : t ∈ h.truths h.every) : bitI .andNot .i64 (bits (sureL (h.truths h.every)) 6) (leaksT t) = 0 := by
  rw [← leaks6 hv ht]
  refine andNot_zero (by omega) fun i _ hi => ?_
  unfold sureL at hi
  rw [List.all_eq_true] at hi
  exact hi t ht
theorem sets_can (hv : h.Valid) {s : Int} (hs : s ∈ h.setsL) : bitI .andNot .i64 s (bits (canL (h.truths h.every)) 6) = 0 := by
  obtain ⟨t, ht, rfl⟩ := setsL_mem.1 hs
  exact leaks_can hv ht
theorem sure_sets (hv : h.Valid) {s : Int} (hs : s ∈ h.setsL) : bitI .andNot .i64 (bits (sureL (h.truths h.every)) 6) s = 0 := by
  obtain ⟨t, ht, rfl⟩ := setsL_mem.1 hs
  exact sure_leaks hv ht
end Hul
end Go.Cw
end

/- The law True. -/
section
set_option maxRecDepth 100000
set_option linter.unusedSimpArgs false
namespace Go.Cw
open Go Go.Proofs

end Go.Cw
end

/- A hull with a sounding more. -/
section
set_option maxRecDepth 100000
set_option linter.unusedSimpArgs false
namespace Go.Cw
open Go Go.Proofs

namespace Hul
/-- Is a sounding right? -/
def okT (h : Hul) (t : List Int) (a : Sd) : Bool := decide (a.lo ≤ sumT t (h.wet a.d a.l) ∧ sumT t (h.wet a.d a.l) ≤ a.hi)
theorem inS_every {h : Hul} {j : Nat} (hj : j < h.k) : inS h.every j = true := by
  have : h.every = bits (fun _ => true) h.k := by
    unfold every
    generalize h.k = n
    induction n with
    | zero => rfl
    | succ n ih => simp only [bits, if_true]; rw [← ih, Int.pow_succ]; omega
  rw [this, inS_bits _ hj]
theorem right_every {h : Hul} {t : List Int} : h.right h.every t = h.snds.all (h.okT t) := by
  rw [Bool.eq_iff_iff, right_at, List.all_eq_true]
  constructor
  · intro H a ha
    obtain ⟨j, hj, rfl⟩ := List.getElem_of_mem ha
    have := H j h.snds[j] (List.getElem?_eq_getElem hj) (inS_every hj)
    simp [okT, this]
  · intro H j a hj _
    have := H a (List.mem_of_getElem? hj)
    simpa [okT] using this
theorem mem_truths {h : Hul} {t : List Int} : t ∈ h.truths h.every ↔ t ∈ allT h.mosts ∧ ∀ a ∈ h.snds, a.lo ≤ sumT t (h.wet a.d a.l) ∧ sumT t (h.wet a.d a.l) ≤ a.hi := by
  unfold truths
  rw [List.mem_filter, right_every, List.all_eq_true]
  simp [okT]

/-- With a sounding more. -/
def more (h : Hul) (a : Sd) : Hul := ⟨h.seams, h.snds ++ [a]⟩
theorem truths_more (h : Hul) (a : Sd) : (h.more a).truths (h.more a).every = (h.truths h.every).filter fun t => decide (a.lo ≤ sumT t (h.wet a.d a.l) ∧ sumT t (h.wet a.d a.l) ≤ a.hi) := by
  unfold truths
  rw [List.filter_filter]
  refine List.filter_congr fun t _ => ?_
  rw [right_every, right_every]
  show (h.snds ++ [a]).all ((h.more a).okT t) = _
  rw [List.all_append]
  have : (h.more a).okT t = h.okT t := rfl
  rw [this, Bool.and_comm]
  simp [okT]
theorem Valid.more {h : Hul} (hv : h.Valid) (hk : h.k < 8) {a : Sd} (ha : OkD a) : (h.more a).Valid :=
  ⟨hv.n1, hv.n6, by show (h.snds ++ [a]).length ≤ 8; rw [List.length_append]; unfold k at hk; simp; omega, hv.sm, fun b hb => by
    rcases List.mem_append.1 hb with hb | hb
    · exact hv.sd b hb
    · obtain rfl : b = a := by simpa using hb
      exact ha⟩
theorem Valid.small {h : Hul} (hv : h.Valid) : h.Small := ⟨by have := hv.n6; unfold n at this; omega, by have := hv.k8; unfold k at this; omega⟩
end Hul

theorem law01_with_ok (h : Hul) (hk : h.snds.length ≤ 1000) (a : Sd) : APure Pg fn_law01_with [h.v, .agg a.c] (h.more a).v := by
  refine law01_with.pure (by simp) ?_
  simp [Sd.c]
  intro s1 s2 s3
  intro s5 s10 s8
  refine xAp_cp (by simp) (by simp) (by omega) ?_
  simp
  intro s11
  refine xApN_cp (n := h.snds.length) (cs := sds h.snds) (by simp) (by simp) (by simp) (by omega) (by omega) ?_
  have hp : sds h.snds ++ [AVal.int .i64 a.d, .int .i64 a.l, .int .i64 a.lo, .int .i64 a.hi] = sds (h.snds ++ [a]) := fl_one h.snds a
  rw [hp]
  simp
  refine RetV.frz 11 rfl (RetV.refl ?_)
  simp [Hul.more, LD]
end Go.Cw
end

/- The law Ends. -/
section
set_option maxRecDepth 100000
set_option linter.unusedSimpArgs false
namespace Go.Cw
open Go Go.Proofs

namespace Hul
/-- The span of what is told of each truth. -/
def spanT (h : Hul) (q : Int) : Int × Int := spanOf ((h.truths h.every).map (sumT · q))
variable {h : Hul}
theorem spanT_lo (hne : h.truths h.every ≠ []) (q : Int) : ∃ t ∈ h.truths h.every, sumT t q = (h.spanT q).1 := List.mem_map.1 (spanOf_mem (by simpa using hne)).1
theorem spanT_hi (hne : h.truths h.every ≠ []) (q : Int) : ∃ t ∈ h.truths h.every, sumT t q = (h.spanT q).2 := List.mem_map.1 (spanOf_mem (by simpa using hne)).2.1
theorem spanT_in {t : List Int} (ht : t ∈ h.truths h.every) (q : Int) : (h.spanT q).1 ≤ sumT t q ∧ sumT t q ≤ (h.spanT q).2 := span_in (List.mem_map.2 ⟨t, ht, rfl⟩)
theorem sumT_in (hv : h.Valid) {t : List Int} (ht : t ∈ h.truths h.every) (q : Int) : 0 ≤ sumT t q ∧ sumT t q ≤ 24 := by
  have hin := truths_in hv ht
  have hn6 := hv.n6
  unfold sumT
  have h1 : ∀ j, j < t.length → 0 ≤ (if inS q j then ofL t j else 0) ∧ (if inS q j then ofL t j else 0) ≤ 4 := fun j _ => by have := hin.2 j; split <;> omega
  have h2 := sumN_nonneg fun j hj => (h1 j hj).1
  have h3 := sumN_le fun j hj => (h1 j hj).2
  constructor
  · exact h2
  · have := hin.1; omega
theorem one_in (hv : h.Valid) {t : List Int} (ht : t ∈ h.truths h.every) {i : Nat} (hi : i < h.seams.length) : sumT t (2 ^ i) = ofL t i ∧ 0 ≤ ofL t i ∧ ofL t i ≤ h.seams[i].m := by
  have hin := truths_in hv ht
  refine ⟨sumT_pow (by rw [hin.1]; exact hi), (hin.2 i).1, ?_⟩
  have h1 := (mem_allT.1 (mem_truths.1 ht).1).2 i (by rw [mosts_length]; exact hi)
  have : ofL h.mosts i = h.seams[i].m := by rw [← ofL_at _ (by rw [mosts_length]; exact hi)]; simp [mosts]
  omega
theorem sumV_none (hv : h.Valid) {ok : Prop} [Decidable ok] (hok : ok) (hne : h.truths h.every = []) (q : Int) : h.sumV ok q = .tup [SP2 (0, 0), .int .i64 10] := by
  simp [sumV, hv, hok, hne]
theorem sumV_some (hv : h.Valid) {ok : Prop} [Decidable ok] (hok : ok) (hne : h.truths h.every ≠ []) (q : Int) : h.sumV ok q = .tup [SP2 (h.spanT q), .int .i64 0] := by
  simp [sumV, hv, hok, hne, spanT]

/-- What comes in with a sounding of just so much. -/
theorem flow_more (hv : h.Valid) (hk : h.k < 8) {d l : Int} (hat : At d l) {n : Int} (hn : 0 ≤ n ∧ n ≤ 24) :
    (h.more ⟨d, l, n, n⟩).sumV (At d l) ((h.more ⟨d, l, n, n⟩).wet d l) = if ∃ t ∈ h.truths h.every, sumT t (h.wet d l) = n then .tup [SP2 (n, n), .int .i64 0] else .tup [SP2 (0, 0), .int .i64 10] := by
  have hv' : (h.more ⟨d, l, n, n⟩).Valid := hv.more hk ⟨hat, by simp only []; omega⟩
  have hmem : ∀ t, t ∈ (h.more ⟨d, l, n, n⟩).truths (h.more ⟨d, l, n, n⟩).every ↔ t ∈ h.truths h.every ∧ sumT t (h.wet d l) = n := by
    intro t
    rw [truths_more, List.mem_filter]
    simp only [decide_eq_true_eq]
    constructor <;> rintro ⟨a, b⟩ <;> exact ⟨a, by omega⟩
  by_cases hne : (h.more ⟨d, l, n, n⟩).truths (h.more ⟨d, l, n, n⟩).every = []
  · rw [sumV_none hv' hat hne, if_neg]
    rintro ⟨t, h1, h2⟩
    have := (hmem t).2 ⟨h1, h2⟩
    rw [hne] at this
    cases this
  · rw [sumV_some hv' hat hne]
    obtain ⟨t, h1, h2⟩ := spanT_lo hne ((h.more ⟨d, l, n, n⟩).wet d l)
    obtain ⟨u, h3, h4⟩ := spanT_hi hne ((h.more ⟨d, l, n, n⟩).wet d l)
    have a := (hmem t).1 h1
    have b := (hmem u).1 h3
    have e : (h.more ⟨d, l, n, n⟩).wet d l = h.wet d l := rfl
    rw [e] at h2 h4 ⊢
    rw [if_pos ⟨t, a⟩]
    have : (h.more ⟨d, l, n, n⟩).spanT (h.wet d l) = (n, n) := Prod.ext (by rw [← h2]; exact a.2) (by rw [← h4]; exact b.2)
    rw [this]
end Hul

end Go.Cw
end

/- Sets of a hull of which some seams let in nothing. -/
section
set_option maxRecDepth 100000
set_option linter.unusedSimpArgs false
namespace Go.Cw
open Go Go.Proofs

namespace Hul
/-- Of the first k seams only some can let in. -/
def onlyL (p : Nat → Bool) (k : Nat) (l : List Sm) : List Sm := l.mapIdx fun i a => if decide (i < k) && !p i then { a with m := 0 } else a
@[simp] theorem onlyL_length (p : Nat → Bool) (k : Nat) (l : List Sm) : (onlyL p k l).length = l.length := by simp [onlyL]
theorem onlyL_zero (p : Nat → Bool) (l : List Sm) : onlyL p 0 l = l := by
  apply List.ext_getElem (by simp)
  intro i h1 h2
  simp [onlyL]
theorem onlyL_get (p : Nat → Bool) (k : Nat) (l : List Sm) {i : Nat} (hi : i < l.length) : (onlyL p k l)[i]'(by simpa using hi) = if decide (i < k) && !p i then { l[i] with m := 0 } else l[i] := by simp [onlyL]
theorem onlyL_keep {p : Nat → Bool} {k : Nat} (hp : p k = true) (l : List Sm) : onlyL p (k + 1) l = onlyL p k l := by
  apply List.ext_getElem (by simp)
  intro i h1 h2
  rw [onlyL_get _ _ _ (by simpa using h1), onlyL_get _ _ _ (by simpa using h1)]
  by_cases h : i = k
  · subst h; simp [hp]
  · have : decide (i < k + 1) = decide (i < k) := by rw [decide_eq_decide]; omega
    rw [this]
theorem onlyL_step {p : Nat → Bool} {k : Nat} (hp : p k = false) (l : List Sm) (hk : k < l.length) : (onlyL p k l).set k { l[k] with m := 0 } = onlyL p (k + 1) l := by
  apply List.ext_getElem (by simp)
  intro i h1 h2
  have hi : i < l.length := by simpa using h2
  rw [onlyL_get _ _ _ hi, List.getElem_set]
  by_cases h : k = i
  · subst h; simp [hp]
  · rw [if_neg h, onlyL_get _ _ _ hi]
    have : decide (i < k + 1) = decide (i < k) := by rw [decide_eq_decide]; omega
    rw [this]

def only (h : Hul) (p : Nat → Bool) : Hul := ⟨onlyL p h.n h.seams, h.snds⟩
variable {h : Hul} {p : Nat → Bool}
theorem only_n : (h.only p).n = h.n := by simp [only, n]
theorem only_wet (d l : Int) : (h.only p).wet d l = h.wet d l := by
  unfold wet
  rw [only_n]
  refine bits_congr fun i hi => ?_
  have hi' : i < h.seams.length := hi
  have h1 : h.seams[i]? = some h.seams[i] := List.getElem?_eq_getElem hi'
  have h2 : (h.only p).seams[i]? = some (if decide (i < h.n) && !p i then { h.seams[i] with m := 0 } else h.seams[i]) := by
    show (onlyL p h.n h.seams)[i]? = _
    rw [List.getElem?_eq_getElem (by simpa using hi'), onlyL_get _ _ _ hi']
  unfold wetP
  rw [h1, h2]
  simp only []
  split <;> rfl
theorem only_valid (hv : h.Valid) : (h.only p).Valid := by
  refine ⟨by rw [only_n]; exact hv.n1, by rw [only_n]; exact hv.n6, hv.k8, fun a ha => ?_, hv.sd⟩
  obtain ⟨i, hi, rfl⟩ := List.getElem_of_mem ha
  have hi' : i < h.seams.length := by have := hi; simp only [only, onlyL_length] at this; exact this
  have e : (h.only p).seams[i] = if decide (i < h.n) && !p i then { h.seams[i] with m := 0 } else h.seams[i] := onlyL_get _ _ _ hi'
  rw [e]
  have ho := hv.sm h.seams[i] (by simp)
  split
  · unfold OkS at ho ⊢
    simp only []
    omega
  · exact ho
theorem only_most {i : Nat} (hi : i < h.n) : ofL (h.only p).mosts i = if p i then ofL h.mosts i else 0 := by
  have hi' : i < h.seams.length := hi
  rw [← ofL_at _ (show i < (h.only p).mosts.length by rw [mosts_length, only_n]; exact hi), ← ofL_at _ (show i < h.mosts.length by rw [mosts_length]; exact hi)]
  have e : (h.only p).mosts[i]'(by rw [mosts_length, only_n]; exact hi) = ((onlyL p h.n h.seams)[i]'(by simpa using hi')).m := by simp [mosts, only]
  rw [e, onlyL_get _ _ _ hi']
  cases hp : p i
  · simp [hi]
  · simp [mosts]
theorem only_truths (hv : h.Valid) {t : List Int} : t ∈ (h.only p).truths (h.only p).every ↔ t ∈ h.truths h.every ∧ ∀ i, i < h.n → p i = false → ofL t i = 0 := by
  rw [mem_truths, mem_truths, mem_allT, mem_allT, mosts_length, mosts_length, only_n]
  simp only [only_wet]
  show (_ ∧ ∀ a ∈ h.snds, _) ↔ _
  constructor
  · rintro ⟨⟨h1, h2⟩, h3⟩
    refine ⟨⟨⟨h1, fun i hi => ?_⟩, h3⟩, fun i hi hp => ?_⟩
    · have := h2 i hi
      rw [only_most hi] at this
      have hm := hv.most (List.getElem?_eq_getElem (show i < h.mosts.length by rw [mosts_length]; exact hi))
      rw [ofL_at] at hm
      split at this <;> omega
    · have := h2 i hi
      rw [only_most hi, hp] at this
      simp at this
      omega
  · rintro ⟨⟨⟨h1, h2⟩, h3⟩, h4⟩
    refine ⟨⟨h1, fun i hi => ?_⟩, h3⟩
    have := h2 i hi
    rw [only_most hi]
    cases hp : p i
    · have := h4 i hi hp; simp; omega
    · simpa using this
theorem inS_leaks {t : List Int} (ht : t.length = h.n) {i : Nat} (hi : i < h.n) : inS (leaksT t) i = decide (0 < ofL t i) := by
  unfold leaksT
  rw [inS_bits _ (by omega)]
theorem only_sets (hv : h.Valid) {s : Int} : s ∈ (h.only p).setsL ↔ s ∈ h.setsL ∧ ∀ i, i < h.n → inS s i = true → p i = true := by
  rw [setsL_mem, setsL_mem]
  constructor
  · rintro ⟨t, ht, rfl⟩
    rw [only_truths hv] at ht
    refine ⟨⟨t, ht.1, rfl⟩, fun i hi hs => ?_⟩
    have hl := (truths_in hv ht.1).1
    rw [inS_leaks hl hi] at hs
    cases hp : p i
    · have := ht.2 i hi hp
      simp [this] at hs
    · rfl
  · rintro ⟨⟨t, ht, rfl⟩, hs⟩
    have hin := truths_in hv ht
    refine ⟨t, (only_truths hv).2 ⟨ht, fun i hi hp => ?_⟩, rfl⟩
    have h1 := hs i hi
    rw [inS_leaks hin.1 hi, hp] at h1
    have := (hin.2 i).1
    by_cases h0 : 0 < ofL t i
    · simp [h0] at h1
    · omega
theorem setsL_nil (he : h.truths h.every = []) : h.setsL = [] := by
  unfold setsL
  rw [he]
  exact List.eq_nil_of_length_eq_zero (by rw [sortI_length]; rfl)
/-- Sets, whether there is a truth or not. -/
theorem setsV_eq (hv : h.Valid) : h.setsV = .tup [L h.setsL, .int .i64 (if h.truths h.every = [] then 10 else 0)] := by
  by_cases he : h.truths h.every = []
  · simp [setsV, hv, he, setsL_nil he]
  · simp [setsV, hv, he]
theorem leaks_lt {t : List Int} (ht : t.length = h.n) : 0 ≤ leaksT t ∧ leaksT t < 2 ^ h.n := by
  unfold leaksT
  rw [ht]
  exact bits_lt _ _
end Hul
end Go.Cw
end

/- The law Sets. -/
section
set_option maxRecDepth 100000
set_option linter.unusedSimpArgs false
namespace Go.Cw
open Go Go.Proofs

end Go.Cw
end

/- The law Next. -/
section
set_option maxRecDepth 100000
set_option linter.unusedSimpArgs false
namespace Go.Cw
open Go Go.Proofs

theorem bestP_spec (g : Int × Int → Int) {l : List (Int × Int)} (hl : l ≠ []) : ∃ i, ∃ hi : i < l.length, (bestP g l).1 = l[i] ∧ (bestP g l).2 = g l[i] ∧ (∀ j, (hj : j < l.length) → (bestP g l).2 ≤ g l[j]) ∧ ∀ j, (hj : j < i) → (bestP g l).2 < g (l[j]'(by omega)) := by
  induction l using list_push_ind with
  | h0 => exact absurd rfl hl
  | h1 l y ih =>
    by_cases h : l = []
    · subst h
      exact ⟨0, by simp, by simp [bestP], by simp [bestP], fun j hj => by simp [bestP], fun j hj => by omega⟩
    · obtain ⟨i, hi, h1, h2, h3, h4⟩ := ih h
      rw [bestP_push g l y h]
      by_cases hlt : g y < (bestP g l).2
      · rw [if_pos hlt]
        refine ⟨l.length, by simp, by simp, by simp, fun j hj => ?_, fun j hj => ?_⟩
        · by_cases hjl : j < l.length
          · rw [List.getElem_append_left hjl]; have := h3 j hjl; simp only []; omega
          · obtain rfl : j = l.length := by simp at hj; omega
            simp
        · rw [List.getElem_append_left hj]; have := h3 j hj; simp only []; omega
      · rw [if_neg hlt]
        refine ⟨i, by simp; omega, by rw [List.getElem_append_left hi]; exact h1, by rw [List.getElem_append_left hi]; exact h2, fun j hj => ?_, fun j hj => ?_⟩
        · by_cases hjl : j < l.length
          · rw [List.getElem_append_left hjl]; exact h3 j hjl
          · obtain rfl : j = l.length := by simp at hj; omega
            simp; omega
        · rw [List.getElem_append_left (by omega)]; exact h4 j hj

theorem count_filter (T : List (List Int)) (w n : Int) : ((T.filter fun t => decide (n ≤ Hul.sumT t w ∧ Hul.sumT t w ≤ n)).length : Int) = ((T.map (Hul.sumT · w)).count n : Nat) := by
  induction T with
  | nil => rfl
  | cons t T ih =>
    rw [List.map_cons, List.count_cons]
    by_cases h : Hul.sumT t w = n
    · have h1 : decide (n ≤ Hul.sumT t w ∧ Hul.sumT t w ≤ n) = true := by simp; omega
      rw [List.filter_cons, if_pos h1]
      have h2 : (Hul.sumT t w == n) = true := by simpa using h
      rw [h2]
      simp only [List.length_cons, if_true]
      omega
    · have h1 : ¬ decide (n ≤ Hul.sumT t w ∧ Hul.sumT t w ≤ n) = true := by simp; omega
      rw [List.filter_cons, if_neg h1]
      have : (Hul.sumT t w == n) = false := by simpa using h
      rw [this]
      simpa using ih

end Go.Cw
end

/- The law Next: the walk. -/
section
set_option maxRecDepth 100000
set_option linter.unusedSimpArgs false
namespace Go.Cw
open Go Go.Proofs

theorem worst_pos {T : List (List Int)} (hT : T ≠ []) (w : Int) : 1 ≤ worstT T w := by
  obtain ⟨t, l, rfl⟩ := List.exists_cons_of_ne_nil hT
  unfold worstT mostL
  have h1 : (((t :: l).map (Hul.sumT · w)).count (Hul.sumT t w) : Int) ≤ maxL (((t :: l).map (Hul.sumT · w)).map fun n => (((t :: l).map (Hul.sumT · w)).count n : Int)) :=
    maxL_le _ (List.mem_map.2 ⟨_, by simp, rfl⟩)
  have h2 : 0 < ((t :: l).map (Hul.sumT · w)).count (Hul.sumT t w) := List.count_pos_iff.2 (by simp)
  omega

end Go.Cw
end

/- Soundings that clash: what the law asks of a set. -/
section
set_option maxRecDepth 100000
set_option linter.unusedSimpArgs false
namespace Go.Cw
open Go Go.Proofs

namespace Hul
/-- Of the first soundings those of a set. -/
def part (h : Hul) (q : Int) : Nat → List Sd
  | 0 => []
  | k + 1 => match h.snds[k]? with
    | some a => if inS q k then h.part q k ++ [a] else h.part q k
    | none => h.part q k
def partH (h : Hul) (q : Int) : Hul := ⟨h.seams, h.part q h.k⟩
variable {h : Hul} {q : Int}
theorem part_len (k : Nat) : (h.part q k).length ≤ k := by
  induction k with
  | zero => simp [part]
  | succ k ih =>
    unfold part
    split
    · split
      · rw [List.length_append]; simp; omega
      · omega
    · omega
theorem part_mem {k : Nat} {a : Sd} : a ∈ h.part q k ↔ ∃ j, j < k ∧ h.snds[j]? = some a ∧ inS q j = true := by
  induction k with
  | zero => simp [part]
  | succ k ih =>
    unfold part
    constructor
    · intro ha
      split at ha
      · rename_i b hb
        split at ha
        · rename_i hi
          rcases List.mem_append.1 ha with h1 | h1
          · obtain ⟨j, h2, h3⟩ := ih.1 h1
            exact ⟨j, by omega, h3⟩
          · obtain rfl : a = b := by simpa using h1
            exact ⟨k, by omega, hb, hi⟩
        · obtain ⟨j, h2, h3⟩ := ih.1 ha
          exact ⟨j, by omega, h3⟩
      · obtain ⟨j, h2, h3⟩ := ih.1 ha
        exact ⟨j, by omega, h3⟩
    · rintro ⟨j, h1, h2, h3⟩
      by_cases hj : j = k
      · subst hj
        rw [h2]
        simp only [h3, if_true]
        simp
      · have := ih.2 ⟨j, by omega, h2, h3⟩
        split
        · split
          · exact List.mem_append_left _ this
          · exact this
        · exact this
theorem part_valid (hv : h.Valid) (q : Int) : (h.partH q).Valid := by
  refine ⟨hv.n1, hv.n6, ?_, hv.sm, fun a ha => ?_⟩
  · have := part_len (h := h) (q := q) h.k
    have := hv.k8
    show (h.part q h.k).length ≤ 8
    omega
  · obtain ⟨j, _, h2, _⟩ := part_mem.1 ha
    exact hv.sd a (List.mem_of_getElem? h2)
theorem part_truths (h : Hul) (q : Int) : (h.partH q).truths (h.partH q).every = h.truths q := by
  unfold truths
  refine List.filter_congr fun t _ => ?_
  have e : ∀ a, (h.partH q).okT t a = h.okT t a := fun _ => rfl
  rw [right_every, Bool.eq_iff_iff, List.all_eq_true, right_at]
  constructor
  · intro H j a hj hi
    have hjk : j < h.k := (List.getElem?_eq_some_iff.1 hj).1
    have h1 := H a (part_mem.2 ⟨j, hjk, hj, hi⟩)
    rw [e] at h1; simpa [okT] using h1
  · intro H a ha
    obtain ⟨j, _, h2, h3⟩ := part_mem.1 ha
    rw [e]; simpa [okT] using H j a h2 h3
end Hul

end Go.Cw
end

/- The law Clash. -/
section
set_option maxRecDepth 100000
set_option linter.unusedSimpArgs false
namespace Go.Cw
open Go Go.Proofs

theorem sumN_lt {n : Nat} {c c' : Nat → Int} (h : ∀ j, j < n → c j ≤ c' j) (i : Nat) (hi : i < n) (h1 : c i < c' i) : sumN n c < sumN n c' := by
  induction n with
  | zero => omega
  | succ n ih =>
    simp only [sumN]
    have h2 := h n (by omega)
    by_cases hin : i = n
    · subst hin
      have := sumN_mono (n := i) (c := c) (c' := c') fun j hj => h j (by omega)
      omega
    · have := ih (fun j hj => h j (by omega)) (by omega)
      omega
theorem sizeS_bits (p : Nat → Bool) {n : Nat} (hn : n ≤ 60) : sizeS (bits p n) = sumN n fun i => if p i then 1 else 0 := by
  unfold sizeS
  rw [sumN_ext hn]
  · exact sumN_congr fun j hj => by rw [inS_bits p hj]
  · intro i hi
    have hb := bits_lt p n
    have h2 : (2 : Int) ^ n ≤ 2 ^ i := two_pow_le hi
    have : bits p n / 2 ^ i = 0 := Int.ediv_eq_zero_of_lt hb.1 (by omega)
    rw [if_neg]; unfold inS; rw [this]; simp
theorem bits_inS {q : Int} {n : Nat} (hq : 0 ≤ q ∧ q < 2 ^ n) : bits (inS q) n = q := bits_of hq.1 hq.2

namespace Hul
variable {h : Hul}
theorem every_bits (hv : h.Valid) : h.every = bits (fun _ => true) h.k := by
  have he : 0 ≤ h.every ∧ h.every < 2 ^ h.k := by
    have := Hul.every62 hv
    unfold every at this ⊢
    omega
  rw [← bits_inS he]
  exact bits_congr fun j hj => inS_every hj
theorem size_every (hv : h.Valid) {q : Int} (hq : 0 ≤ q ∧ q < 2 ^ h.k) (hne : q ≠ h.every) : sizeS q < sizeS h.every := by
  have hk8 := hv.k8
  by_cases hall : ∀ j, j < h.k → inS q j = true
  · exact absurd (by rw [every_bits hv, ← bits_inS hq]; exact bits_congr fun j hj => hall j hj) hne
  · obtain ⟨j, hj⟩ := Classical.not_forall.1 hall
    obtain ⟨hjk, hj⟩ := Classical.not_imp.1 hj
    rw [every_bits hv, ← bits_inS hq, sizeS_bits _ (by omega), sizeS_bits _ (by omega)]
    refine sumN_lt (fun i _ => ?_) j hjk ?_
    · split <;> simp
    · rw [if_neg hj]; simp
theorem size_less (hv : h.Valid) {q : Int} (hq : 0 ≤ q ∧ q < 2 ^ h.k) {j : Nat} (hj : j < h.k) (hi : inS q j = true) :
    ∃ r, bitI .andNot .i64 q (2 ^ j) = r ∧ (0 ≤ r ∧ r < 2 ^ h.k) ∧ sizeS r < sizeS q := by
  have hk8 := hv.k8
  refine ⟨_, rfl, ?_⟩
  have e : bitI .andNot .i64 q (2 ^ j) = bits (fun i => inS q i && !decide (i = j)) h.k := by
    rw [← bitsI_andNot _ _ (by omega), bits_inS hq, bits_pow hj]
  rw [e]
  refine ⟨bits_lt _ _, ?_⟩
  conv => rhs; rw [← bits_inS hq]
  rw [sizeS_bits _ (by omega), sizeS_bits _ (by omega)]
  refine sumN_lt (fun i _ => ?_) j hj ?_
  · cases inS q i <;> simp
    split <;> simp
  · simp [hi]
theorem truths_zero (hv : h.Valid) : h.truths 0 ≠ [] := by
  have : (List.replicate h.n (0 : Int)) ∈ h.truths 0 := by
    unfold truths
    refine List.mem_filter.2 ⟨mem_allT.2 ⟨by simp, fun i hi => ?_⟩, ?_⟩
    · have hi' : i < h.n := by simpa using hi
      have hm : h.mosts[i]? = some h.mosts[i] := List.getElem?_eq_getElem hi
      have := hv.most hm
      have e1 : ofL (List.replicate h.n (0 : Int)) i = 0 := by simp [ofL, hi']
      have e2 : ofL h.mosts i = h.mosts[i] := by unfold ofL; rw [List.getD_eq_getElem?_getD, hm]; rfl
      rw [e1, e2]; omega
    · unfold right
      rw [List.all_eq_true]
      intro j hj
      unfold sndB
      split
      · simp [inS]
      · rfl
  intro e; rw [e] at this; cases this
theorem clashB_spec (hv : h.Valid) (hne : h.truths h.every = []) (k : Nat) (hk : k ≤ 2 ^ h.k) :
    h.truths (h.clashB k) = [] ∧ (h.clashB k < k ∨ h.clashB k = h.every) ∧ ∀ q : Int, 0 ≤ q → q < k → h.truths q = [] → sizeS (h.clashB k) < sizeS q ∨ (sizeS (h.clashB k) = sizeS q ∧ h.clashB k ≤ q) := by
  induction k with
  | zero => exact ⟨hne, .inr rfl, fun q h1 h2 => by omega⟩
  | succ k ih =>
    obtain ⟨i1, i2, i3⟩ := ih (by omega)
    have hsz := h.clashB_size k
    have hkk : ((k + 1 : Nat) : Int) ≤ ((2 ^ h.k : Nat) : Int) := by exact_mod_cast hk
    rw [Int.natCast_pow] at hkk
    unfold clashB
    split
    · rename_i hc
      refine ⟨hc.2, .inl (by omega), fun q h1 h2 h3 => ?_⟩
      by_cases hqk : q = k
      · subst hqk; exact .inr ⟨rfl, Int.le_refl _⟩
      · rcases i3 q h1 (by omega) h3 with h4 | ⟨h4, h5⟩
        · left; omega
        · left; omega
    · rename_i hc
      refine ⟨i1, by omega, fun q h1 h2 h3 => ?_⟩
      by_cases hqk : q = k
      · subst hqk
        have h4 : ¬ sizeS k < sizeS (h.clashB k) := fun h4 => hc ⟨h4, h3⟩
        by_cases h5 : sizeS (h.clashB k) < sizeS k
        · exact .inl h5
        · refine .inr ⟨by omega, ?_⟩
          rcases i2 with h6 | h6
          · omega
          · rw [h6]
            have : (k : Int) = h.every := by
              by_cases h7 : (k : Int) = h.every
              · exact h7
              · have := size_every hv (q := k) ⟨by omega, by simp at hkk; omega⟩ h7
                rw [h6] at h4
                omega
            omega
      · exact i3 q h1 (by omega) h3
theorem mask_in (hv : h.Valid) {m : Int} (hm : 0 ≤ m ∧ m ≤ 255) : ∃ o, bitI .and .i64 m h.every = o ∧ (0 ≤ o ∧ o ≤ h.every) := by
  have he := Hul.every62 hv
  obtain ⟨a, ha⟩ : ∃ a : Nat, m = a := ⟨m.toNat, by omega⟩
  obtain ⟨b, hb⟩ : ∃ b : Nat, h.every = b := ⟨h.every.toNat, by omega⟩
  refine ⟨_, rfl, ?_⟩
  rw [hb, ha, bitI_and a b (by omega) (by omega)]
  have : a &&& b ≤ b := Nat.and_le_right
  omega
end Hul

end Go.Cw
end

/- A hull seen in a mirror; a hull told from its end: truths, flows, sets. -/
section
set_option maxRecDepth 100000
set_option linter.unusedSimpArgs false
namespace Go.Cw
open Go Go.Proofs

theorem sumN_succ' {n : Nat} {c : Nat → Int} : sumN (n + 1) c = c 0 + sumN n (fun i => c (i + 1)) := by
  induction n with
  | zero => simp [sumN]
  | succ n ih => rw [sumN, ih, sumN]; omega
theorem sumN_rev : ∀ {n : Nat} {c : Nat → Int}, sumN n (fun i => c (n - 1 - i)) = sumN n c
  | 0, _ => rfl
  | n + 1, c => by
    rw [sumN_succ', sumN]
    have := sumN_rev (n := n) (c := c)
    have e : sumN n (fun i => c (n + 1 - 1 - (i + 1))) = sumN n (fun i => c (n - 1 - i)) := sumN_congr fun j hj => by congr 1; omega
    rw [e, this]
    simp
    omega
theorem spanOf_ext {l m : List Int} (hl : l ≠ []) (h : ∀ x, x ∈ l ↔ x ∈ m) : spanOf l = spanOf m := by
  have hm : m ≠ [] := by
    obtain ⟨a, t, rfl⟩ := List.exists_cons_of_ne_nil hl
    intro e
    have := (h a).1 (by simp)
    rw [e] at this; cases this
  obtain ⟨a1, a2, a3⟩ := spanOf_mem hl
  obtain ⟨b1, b2, b3⟩ := spanOf_mem hm
  have c1 := a3 _ ((h _).2 b1)
  have c2 := a3 _ ((h _).2 b2)
  have d1 := b3 _ ((h _).1 a1)
  have d2 := b3 _ ((h _).1 a2)
  exact Prod.ext (by omega) (by omega)

/-- A set of so many told from its end. -/
def rvS (n : Nat) (q : Int) : Int := bits (fun i => inS q (n - 1 - i)) n
theorem rvS_lt (n : Nat) (q : Int) : 0 ≤ rvS n q ∧ rvS n q < 2 ^ n := bits_lt _ _
theorem rvS_bits (n : Nat) (p : Nat → Bool) : rvS n (bits p n) = bits (fun i => p (n - 1 - i)) n :=
  bits_congr fun i hi => inS_bits p (by omega)
theorem rvS_rvS {n : Nat} {q : Int} (hq : 0 ≤ q ∧ q < 2 ^ n) : rvS n (rvS n q) = q := by
  show rvS n (bits (fun i => inS q (n - 1 - i)) n) = q
  rw [rvS_bits]
  refine Eq.trans (bits_congr fun i hi => ?_) (bits_inS hq)
  congr 1; omega
theorem rvS_pow {n i : Nat} (hi : i < n) : rvS n (2 ^ i) = 2 ^ (n - 1 - i) := by
  rw [← bits_pow hi, rvS_bits, ← bits_pow (show n - 1 - i < n by omega)]
  refine bits_congr fun j hj => ?_
  rw [Bool.eq_iff_iff, decide_eq_true_eq, decide_eq_true_eq]
  omega
theorem ofL_rev {t : List Int} {i : Nat} (hi : i < t.length) : ofL t.reverse i = ofL t (t.length - 1 - i) := by
  unfold ofL
  rw [List.getD_eq_getElem?_getD, List.getD_eq_getElem?_getD, List.getElem?_reverse hi]
theorem sumT_rev {t : List Int} {n : Nat} (ht : t.length = n) (q : Int) : Hul.sumT t.reverse (rvS n q) = Hul.sumT t q := by
  unfold Hul.sumT
  rw [List.length_reverse, ht, ← sumN_rev (n := n) (c := fun i => if inS q i then ofL t i else 0)]
  refine sumN_congr fun j hj => ?_
  rw [ofL_rev (by omega), ht]
  unfold rvS
  rw [inS_bits _ hj]
theorem leaksT_rev {t : List Int} {n : Nat} (ht : t.length = n) : leaksT t.reverse = rvS n (leaksT t) := by
  unfold leaksT
  rw [List.length_reverse, ht, rvS_bits]
  refine bits_congr fun j hj => ?_
  rw [ofL_rev (by omega), ht]

namespace Hul
/-- The other side. -/
def turnS (a : Sm) : Sm := ⟨a.h, -a.s, a.m⟩
def turnD (a : Sd) : Sd := ⟨a.d, -a.l, a.lo, a.hi⟩
def turn (h : Hul) : Hul := ⟨h.seams.map turnS, h.snds.map turnD⟩
def back (h : Hul) : Hul := ⟨h.seams.reverse, h.snds.reverse⟩
variable {h : Hul}
theorem turn_n : h.turn.n = h.n := by simp [turn, n]
theorem back_n : h.back.n = h.n := by simp [back, n]
theorem turn_small (hs : h.Small) : h.turn.Small := ⟨by simpa [turn] using hs.1, by simpa [turn] using hs.2⟩
theorem back_small (hs : h.Small) : h.back.Small := ⟨by simpa [back] using hs.1, by simpa [back] using hs.2⟩
theorem turn_valid (hv : h.Valid) : h.turn.Valid := by
  refine ⟨by rw [turn_n]; exact hv.n1, by rw [turn_n]; exact hv.n6, by have := hv.k8; simpa [turn, k] using this, ?_, ?_⟩
  · intro a ha
    obtain ⟨b, hb, rfl⟩ := List.mem_map.1 ha
    have := hv.sm b hb
    unfold OkS turnS at *
    simp only at *
    omega
  · intro a ha
    obtain ⟨b, hb, rfl⟩ := List.mem_map.1 ha
    have := hv.sd b hb
    unfold OkD At turnD at *
    simp only at *
    omega
theorem back_valid (hv : h.Valid) : h.back.Valid := by
  refine ⟨by rw [back_n]; exact hv.n1, by rw [back_n]; exact hv.n6, by have := hv.k8; simpa [back, k] using this, ?_, ?_⟩
  · intro a ha
    exact hv.sm a (by simpa [back] using ha)
  · intro a ha
    exact hv.sd a (by simpa [back] using ha)
theorem turn_wet (d l : Int) : h.turn.wet d (-l) = h.wet d l := by
  unfold wet
  rw [turn_n]
  refine bits_congr fun i hi => ?_
  unfold wetP turn
  simp only [List.getElem?_map]
  cases h.seams[i]? with
  | none => rfl
  | some a =>
    show decide (a.h ≤ d + -a.s * -l) = decide (a.h ≤ d + a.s * l)
    rw [Int.neg_mul_neg]
theorem turn_truths : h.turn.truths h.turn.every = h.truths h.every := by
  unfold truths
  have hm : h.turn.mosts = h.mosts := by unfold mosts turn; simp [Function.comp_def, turnS]
  rw [hm]
  refine List.filter_congr fun t _ => ?_
  rw [right_every, right_every]
  show (h.snds.map turnD).all _ = _
  rw [List.all_map]
  congr 1
  funext a
  show h.turn.okT t (turnD a) = h.okT t a
  unfold okT
  show decide (a.lo ≤ sumT t (h.turn.wet a.d (-a.l)) ∧ sumT t (h.turn.wet a.d (-a.l)) ≤ a.hi) = _
  rw [turn_wet]
theorem turn_setsL : h.turn.setsL = h.setsL := by unfold setsL; rw [turn_truths]
theorem turn_spanT (q : Int) : h.turn.spanT q = h.spanT q := by unfold spanT; rw [turn_truths]
theorem back_wet (d l : Int) : h.back.wet d l = rvS h.n (h.wet d l) := by
  unfold wet
  rw [back_n, rvS_bits]
  refine bits_congr fun i hi => ?_
  unfold wetP back
  have hi' : i < h.seams.length := hi
  simp only [List.getElem?_reverse hi']
  rfl
theorem allT_rev {t : List Int} : t ∈ allT h.back.mosts ↔ t.reverse ∈ allT h.mosts := by
  rw [mem_allT, mem_allT]
  have hm : h.back.mosts = h.mosts.reverse := by unfold mosts back; simp
  rw [hm, List.length_reverse, List.length_reverse]
  constructor
  · rintro ⟨h1, h2⟩
    refine ⟨h1, fun i hi => ?_⟩
    have := h2 (h.mosts.length - 1 - i) (by omega)
    rw [ofL_rev (by omega)] at this
    rw [ofL_rev (by omega), h1]
    rwa [show h.mosts.length - 1 - (h.mosts.length - 1 - i) = i by omega] at this
  · rintro ⟨h1, h2⟩
    refine ⟨h1, fun i hi => ?_⟩
    have := h2 (h.mosts.length - 1 - i) (by omega)
    rw [ofL_rev (by omega)] at this
    rw [ofL_rev (by omega)]
    rwa [h1, show h.mosts.length - 1 - (h.mosts.length - 1 - i) = i by omega] at this
theorem back_mem {t : List Int} : t ∈ h.back.truths h.back.every ↔ t.reverse ∈ h.truths h.every := by
  rw [mem_truths, mem_truths, allT_rev]
  refine and_congr_right fun ht => ?_
  have hl : t.reverse.length = h.n := by have := (mem_allT.1 ht).1; rwa [mosts_length] at this
  have hs : h.back.snds = h.snds.reverse := rfl
  rw [hs]
  refine ⟨fun H a ha => ?_, fun H a ha => ?_⟩
  · have := H a (by simpa using ha)
    rw [back_wet] at this
    have e := sumT_rev hl (h.wet a.d a.l)
    rw [List.reverse_reverse] at e
    rwa [e] at this
  · have := H a (by simpa using ha)
    rw [back_wet]
    have e := sumT_rev hl (h.wet a.d a.l)
    rw [List.reverse_reverse] at e
    rwa [e]
theorem back_mem' {t : List Int} (ht : t ∈ h.truths h.every) : t.reverse ∈ h.back.truths h.back.every := back_mem.2 (by rwa [List.reverse_reverse])
theorem back_ne : h.back.truths h.back.every = [] ↔ h.truths h.every = [] := by
  constructor
  · intro e
    refine List.eq_nil_iff_forall_not_mem.2 fun t ht => ?_
    have := back_mem' ht
    rw [e] at this; cases this
  · intro e
    refine List.eq_nil_iff_forall_not_mem.2 fun t ht => ?_
    have := back_mem.1 ht
    rw [e] at this; cases this
theorem back_spanT (hv : h.Valid) (hne : h.truths h.every ≠ []) (q : Int) : h.back.spanT (rvS h.n q) = h.spanT q := by
  unfold spanT
  refine spanOf_ext (by simpa using fun e => hne (back_ne.1 e)) fun x => ?_
  rw [List.mem_map, List.mem_map]
  constructor
  · rintro ⟨t, ht, rfl⟩
    have h1 := back_mem.1 ht
    refine ⟨t.reverse, h1, ?_⟩
    have := sumT_rev (truths_in hv h1).1 q
    rwa [List.reverse_reverse, eq_comm] at this
  · rintro ⟨t, ht, rfl⟩
    exact ⟨t.reverse, back_mem' ht, sumT_rev (truths_in hv ht).1 q⟩
theorem canL_out (hv : h.Valid) {i : Nat} (hi : h.n ≤ i) : canL (h.truths h.every) i = false := by
  unfold canL
  rw [List.any_eq_false]
  intro t ht
  rw [ofL_none t (by rw [(truths_in hv ht).1]; exact hi)]
  simp
theorem sureL_out (hv : h.Valid) (hne : h.truths h.every ≠ []) {i : Nat} (hi : h.n ≤ i) : sureL (h.truths h.every) i = false := by
  unfold sureL
  rw [List.all_eq_false]
  obtain ⟨t, l, hl⟩ := List.exists_cons_of_ne_nil hne
  have ht : t ∈ h.truths h.every := by rw [hl]; simp
  refine ⟨t, ht, ?_⟩
  rw [ofL_none t (by rw [(truths_in hv ht).1]; exact hi)]
  simp
theorem can_n (hv : h.Valid) : bits (canL (h.truths h.every)) 6 = bits (canL (h.truths h.every)) h.n := bits_more hv.n6 fun i hi _ => canL_out hv hi
theorem sure_n (hv : h.Valid) (hne : h.truths h.every ≠ []) : bits (sureL (h.truths h.every)) 6 = bits (sureL (h.truths h.every)) h.n := bits_more hv.n6 fun i hi _ => sureL_out hv hne hi
theorem back_can (hv : h.Valid) : bits (canL (h.back.truths h.back.every)) 6 = rvS h.n (bits (canL (h.truths h.every)) 6) := by
  rw [can_n hv, can_n (back_valid hv), back_n, rvS_bits]
  refine bits_congr fun i hi => ?_
  unfold canL
  rw [Bool.eq_iff_iff, List.any_eq_true, List.any_eq_true]
  constructor
  · rintro ⟨t, ht, h1⟩
    have h2 := back_mem.1 ht
    have hl := (truths_in hv h2).1
    rw [List.length_reverse] at hl
    refine ⟨t.reverse, h2, ?_⟩
    rw [ofL_rev (by omega), hl]
    rwa [show h.n - 1 - (h.n - 1 - i) = i by omega]
  · rintro ⟨t, ht, h1⟩
    refine ⟨t.reverse, back_mem' ht, ?_⟩
    have hl := (truths_in hv ht).1
    rwa [ofL_rev (by omega), hl]
theorem back_sure (hv : h.Valid) (hne : h.truths h.every ≠ []) : bits (sureL (h.back.truths h.back.every)) 6 = rvS h.n (bits (sureL (h.truths h.every)) 6) := by
  rw [sure_n hv hne, sure_n (back_valid hv) (fun e => hne (back_ne.1 e)), back_n, rvS_bits]
  refine bits_congr fun i hi => ?_
  unfold sureL
  rw [Bool.eq_iff_iff, List.all_eq_true, List.all_eq_true]
  constructor
  · intro H t ht
    have h1 := H _ (back_mem' ht)
    have hl := (truths_in hv ht).1
    rwa [ofL_rev (by omega), hl] at h1
  · intro H t ht
    have h2 := back_mem.1 ht
    have hl := (truths_in hv h2).1
    rw [List.length_reverse] at hl
    have h1 := H _ h2
    rw [ofL_rev (by omega), hl] at h1
    rwa [show h.n - 1 - (h.n - 1 - i) = i by omega] at h1
theorem setsL_nodup : h.setsL.Nodup := by
  rw [List.nodup_iff_pairwise_ne, List.pairwise_iff_getElem]
  intro i j hi hj hij e
  have := setsL_lt (h := h) hj hij
  omega
theorem setsL_in2 (hv : h.Valid) {s : Int} (hs : s ∈ h.setsL) : 0 ≤ s ∧ s < 2 ^ h.n := by
  obtain ⟨t, ht, rfl⟩ := setsL_mem.1 hs
  exact leaks_lt (truths_in hv ht).1
theorem back_sets (hv : h.Valid) {s : Int} : s ∈ h.back.setsL ↔ ∃ q ∈ h.setsL, rvS h.n q = s := by
  rw [setsL_mem]
  constructor
  · rintro ⟨t, ht, rfl⟩
    have h1 := back_mem.1 ht
    refine ⟨leaksT t.reverse, setsL_mem.2 ⟨_, h1, rfl⟩, ?_⟩
    have := leaksT_rev (truths_in hv h1).1
    rwa [List.reverse_reverse, eq_comm] at this
  · rintro ⟨q, hq, rfl⟩
    obtain ⟨t, ht, rfl⟩ := setsL_mem.1 hq
    exact ⟨t.reverse, back_mem' ht, leaksT_rev (truths_in hv ht).1⟩
theorem back_sets_len (hv : h.Valid) : h.back.setsL.length = h.setsL.length := by
  have hp : h.back.setsL.Perm (h.setsL.map (rvS h.n)) := by
    refine (List.perm_ext_iff_of_nodup setsL_nodup ?_).2 fun a => by rw [back_sets hv, List.mem_map]
    rw [List.nodup_iff_pairwise_ne, List.pairwise_map, List.pairwise_iff_getElem]
    intro i j hi hj hij e
    have h1 := setsL_lt (h := h) hj hij
    have h2 := congrArg (rvS h.n) e
    rw [rvS_rvS (setsL_in2 hv (List.getElem_mem hi)), rvS_rvS (setsL_in2 hv (List.getElem_mem hj))] at h2
    omega
  rw [hp.length_eq, List.length_map]
end Hul
end Go.Cw
end

/- A set told from its end: the law's closure. -/
section
set_option maxRecDepth 100000
set_option linter.unusedSimpArgs false
namespace Go.Cw
open Go Go.Proofs

/-- Of a set, told from its end, the first so many. -/
def rvK (n : Nat) (q : Int) (k : Nat) : Int := bits (fun j => inS q (n - 1 - j) && decide (n - 1 - j < k)) n
theorem rvK_zero (n : Nat) (q : Int) : rvK n q 0 = 0 := bits_zero.2 fun j _ => by simp
theorem rvK_all (n : Nat) (q : Int) : rvK n q n = rvS n q := bits_congr fun j hj => by simp; intro _; omega
theorem rvK_one {n : Nat} (hn : n ≤ 60) {q : Int} {k : Nat} (hk : k < n) (h : inS q k = true) : bitI .or .i64 (rvK n q k) (2 ^ (n - 1 - k)) = rvK n q (k + 1) := by
  unfold rvK
  rw [← bits_pow (show n - 1 - k < n by omega), bitsI_or _ _ hn]
  refine bits_congr fun j hj => ?_
  by_cases hjk : j = n - 1 - k
  · subst hjk
    rw [show n - 1 - (n - 1 - k) = k by omega, h]
    simp
  · have h1 : decide (j = n - 1 - k) = false := by simpa using hjk
    rw [h1, Bool.or_false]
    congr 1
    rw [Bool.eq_iff_iff, decide_eq_true_eq, decide_eq_true_eq]
    omega
theorem rvK_not {n : Nat} {q : Int} {k : Nat} (hk : k < n) (h : inS q k = false) : rvK n q (k + 1) = rvK n q k := by
  refine bits_congr fun j hj => ?_
  by_cases hjk : n - 1 - j = k
  · rw [hjk, h]; simp
  · congr 1
    rw [Bool.eq_iff_iff, decide_eq_true_eq, decide_eq_true_eq]
    omega
theorem bitI_or_zero {a : Int} (ha : 0 ≤ a ∧ a < 2 ^ 62) : bitI .or .i64 a 0 = a := by
  obtain ⟨b, hb⟩ : ∃ b : Nat, a = b := ⟨a.toNat, by omega⟩
  subst hb
  have := bitI_or b 0 (by omega) (by omega)
  simpa using this

namespace Hul
variable {h : Hul}
theorem rvS_zero (n : Nat) : rvS n 0 = 0 := bits_zero.2 fun i _ => by simp [inS]
theorem turned_flow (hv : h.Valid) {d b : Int} (hat : At d b) : ∃ (sp : Int × Int) (e can sure c1 c2 t : Int),
    h.sumV (At d b) (h.wet d b) = .tup [SP2 sp, .int .i64 e] ∧ h.turn.sumV (At d (-b)) (h.turn.wet d (-b)) = .tup [SP2 sp, .int .i64 e] ∧ h.back.sumV (At d b) (h.back.wet d b) = .tup [SP2 sp, .int .i64 e] ∧
    h.leaksV = .tup [.int .i64 can, .int .i64 sure, .int .i64 e] ∧ h.turn.leaksV = .tup [.int .i64 can, .int .i64 sure, .int .i64 e] ∧ h.back.leaksV = .tup [.int .i64 (rvS h.n can), .int .i64 (rvS h.n sure), .int .i64 e] ∧
    h.clashV = .tup [.int .i64 c1, .int .i64 t] ∧ h.back.clashV = .tup [.int .i64 c2, .int .i64 t] ∧ (0 ≤ can ∧ can < 2 ^ h.n) ∧ (0 ≤ sure ∧ sure < 2 ^ h.n) := by
  have tv := turn_valid hv
  have bv := back_valid hv
  have hat2 : At d (-b) := by unfold At at *; omega
  have pz : (0 : Int) < 2 ^ h.n := two_pow_pos _
  by_cases hne : h.truths h.every = []
  · have t0 : h.turn.truths h.turn.every = [] := by rw [turn_truths]; exact hne
    have b0 : h.back.truths h.back.every = [] := back_ne.2 hne
    refine ⟨(0, 0), 10, 0, 0, h.clashB (2 ^ h.k), h.back.clashB (2 ^ h.back.k), 0, sumV_none hv hat hne _, sumV_none tv hat2 t0 _, sumV_none bv hat b0 _, by simp only [leaksV, hv, hne, if_true], by simp only [leaksV, tv, t0, if_true], by simp only [leaksV, bv, b0, if_true, rvS_zero],
      by simp only [clashV, hv, hne, if_true], by simp only [clashV, bv, b0, if_true], ⟨Int.le_refl _, pz⟩, Int.le_refl _, pz⟩
  · have t0 : h.turn.truths h.turn.every ≠ [] := by rw [turn_truths]; exact hne
    have b0 : h.back.truths h.back.every ≠ [] := fun e => hne (back_ne.1 e)
    refine ⟨h.spanT (h.wet d b), 0, bits (canL (h.truths h.every)) 6, bits (sureL (h.truths h.every)) 6, 0, 0, 4, sumV_some hv hat hne _, ?_, ?_, ?_, ?_, ?_, ?_, ?_, ?_, ?_⟩
    · rw [sumV_some tv hat2 t0, turn_wet, turn_spanT]
    · rw [sumV_some bv hat b0, back_wet, back_spanT hv hne]
    · unfold leaksV; rw [if_pos hv, if_neg hne]
    · unfold leaksV; rw [if_pos tv, if_neg t0, turn_truths]
    · unfold leaksV; rw [if_pos bv, if_neg b0, back_can hv, back_sure hv hne]
    · unfold clashV; rw [if_pos hv, if_neg hne]
    · unfold clashV; rw [if_pos bv, if_neg b0]
    · rw [can_n hv]; exact bits_lt _ _
    · rw [sure_n hv hne]; exact bits_lt _ _
theorem turned_rate (hv : h.Valid) {i : Nat} (hi : i < h.n) : ∃ (sp : Int × Int) (e : Int),
    h.sumV (h.Seam i) (2 ^ (i : Int).toNat) = .tup [SP2 sp, .int .i64 e] ∧ h.turn.sumV (h.turn.Seam i) (2 ^ (i : Int).toNat) = .tup [SP2 sp, .int .i64 e] ∧
    h.back.sumV (h.back.Seam ((h.n : Int) - 1 - i)) (2 ^ ((h.n : Int) - 1 - i).toNat) = .tup [SP2 sp, .int .i64 e] := by
  have tv := turn_valid hv
  have bv := back_valid hv
  have s1 : h.Seam i := ⟨by omega, by omega⟩
  have s2 : h.turn.Seam i := ⟨by omega, by rw [turn_n]; omega⟩
  have s3 : h.back.Seam ((h.n : Int) - 1 - i) := ⟨by omega, by rw [back_n]; omega⟩
  have e1 : (i : Int).toNat = i := rfl
  have e2 : ((h.n : Int) - 1 - i).toNat = h.n - 1 - i := by omega
  rw [e1, e2]
  by_cases hne : h.truths h.every = []
  · have t0 : h.turn.truths h.turn.every = [] := by rw [turn_truths]; exact hne
    have b0 : h.back.truths h.back.every = [] := back_ne.2 hne
    exact ⟨(0, 0), 10, sumV_none hv s1 hne _, sumV_none tv s2 t0 _, sumV_none bv s3 b0 _⟩
  · have t0 : h.turn.truths h.turn.every ≠ [] := by rw [turn_truths]; exact hne
    have b0 : h.back.truths h.back.every ≠ [] := fun e => hne (back_ne.1 e)
    refine ⟨h.spanT (2 ^ i), 0, sumV_some hv s1 hne _, ?_, ?_⟩
    · rw [sumV_some tv s2 t0, turn_spanT]
    · rw [sumV_some bv s3 b0, ← rvS_pow hi, back_spanT hv hne]
end Hul

/-- Two lists of numbers, of which one is in memory, are compared. -/
theorem ref01_Ints_row_ok (r : Nat) (a b : List Int) (ha : a.length ≤ 100000) (hb : b.length ≤ 100000) (s : Nat) (K : AEnd → Heap → Prop)
    (hK : K (.ret (.bool (decide (a = b)))) (hpV [(r, .row (ints a) s)])) : ACalls Pg fn_ref01_Ints [.sl r 0 s a.length (.ex a.length), L b] (hpV [(r, .row (ints a) s)]) K := by
  refine ref01_Ints.enter 0 (by simp) ?_
  by_cases h : a.length = b.length
  · simp [h]
    refine Lp.intro (σ := Nat) (inv := fun k => k ≤ a.length ∧ a.take k = b.take k) (vw := fun k => [(0, .sl r 0 s a.length (.ex a.length)), (1, L b), (5, .int .i64 k)]) (hp := fun _ => [(r, .row (ints a) s)]) (ms := fun k => a.length - k) 0 (by simp) (by simp [h]) (by simp) ?_
    rintro k ⟨hk, inv⟩ J hJ
    by_cases hkc : k < a.length
    · have hkb : k < b.length := by omega
      by_cases q : a[k] = b[k]
      · simp [hkc, hkb, q]
        (repeat first | refine And.intro (by omega) ?_ | refine And.intro (Fits.of (by omega) (by omega)) ?_)
        refine hJ.next (k + 1) ⟨by omega, ?_⟩ (by omega) (by simp) (by simp)
        rw [← List.take_append_getElem hkc, ← List.take_append_getElem hkb, inv, q]
      · simp [hkc, hkb, q]
        refine hJ.ret ?_
        simp
        refine RetV.view [(r, .row (ints a) s)] (by simp) ?_
        have : ¬ a = b := by rintro rfl; exact q rfl
        simpa [this] using hK
    · simp [hkc, h, show ¬ k < b.length by omega]
      refine hJ.exit ?_
      simp
      refine RetV.view [(r, .row (ints a) s)] (by simp) ?_
      rw [List.take_of_length_le (by omega), List.take_of_length_le (by omega)] at inv
      simpa [inv] using hK
  · simp [h]
    refine RetV.view [(r, .row (ints a) s)] (by simp) ?_
    have : ¬ a = b := by rintro rfl; exact h rfl
    simpa [this] using hK

theorem law01_LeakTurned_1_ok (n : Nat) (hn : 1 ≤ n ∧ n ≤ 6) (q : Int) (hq : 0 ≤ q ∧ q < 2 ^ n) (s : Nat) (K : AEnd → Heap → Prop)
    (hK : K (.ret (.int .i64 (rvS n q))) (hpV [(7, .row [.int .i64 n] s)])) : ACalls Pg fn_law01_LeakTurned_1 [.int .i64 q, .ptr 7 0 s] (hpV [(7, .row [.int .i64 n] s)]) K := by
  refine law01_LeakTurned_1.enter 500 (by simp) ?_
  simp
  have h64 : (2 : Int) ^ n ≤ 64 := by have := two_pow_le hn.2; have e : (2 : Int) ^ 6 = 64 := by decide
                                      omega
  refine Lp.intro (σ := Nat) (inv := fun k => k ≤ n) (vw := fun k => [(0, .int .i64 q), (1, .ptr 7 0 s), (3, .int .i64 (rvK n q k)), (5, .int .i64 n), (6, .int .i64 k)])
    (hp := fun _ => [(7, .row [.int .i64 n] s)]) (ms := fun k => n - k) 0 (by simp) (by simp [rvK_zero]) (by simp) ?_
  intro k hk J hJ
  by_cases hkc : k < n
  · have hb1 : bitI .and .i64 (q / 2 ^ k) 1 = if inS q k then 1 else 0 := by
      have := bits_and1 (inS q) (n := n) (i := k) (by omega) hkc
      rwa [bits_inS hq] at this
    have hlt := bits_lt (fun j => inS q (n - 1 - j) && decide (n - 1 - j < k)) n
    have hp := two_pow_le (show n - 1 - k ≤ 6 by omega)
    have e6 : (2 : Int) ^ 6 = 64 := by decide
    have hpp := two_pow_pos (n - 1 - k)
    have e1 : ((n : Int) - 1 - k) = ((n - 1 - k : Nat) : Int) := by omega
    have e2 : ((n : Int) - 1 - k).toNat = n - 1 - k := by omega
    cases hi : inS q k with
    | true =>
      have hor := rvK_one (by omega) hkc hi
      simp [hkc, hb1, hi, e2, hor]
      refine ⟨by omega, by unfold Fits; omega, by unfold Fits; omega, by omega, by unfold Fits; omega, by unfold Fits; omega, ?_⟩
      exact hJ.next (k + 1) (by omega) (by omega) (by simp) (by simp)
    | false =>
      have hnot := rvK_not hkc hi
      have hoz : bitI .or .i64 (rvK n q k) 0 = rvK n q k := bitI_or_zero ⟨hlt.1, by have := hlt.2; show bits _ _ < _; omega⟩
      simp [hkc, hb1, hi, e2, hoz]
      refine ⟨by omega, by unfold Fits; omega, by unfold Fits; omega, by omega, by unfold Fits; omega, by unfold Fits; omega, ?_⟩
      exact hJ.next (k + 1) (by omega) (by omega) (by simp [hnot]) (by simp)
  obtain rfl : k = n := by omega
  simp
  refine hJ.exit ?_
  simp [rvK_all]
  exact RetV.view [(7, .row [.int .i64 k] s)] (by simp) hK
end Go.Cw
end

/- The law Turned: rounds of its last loops. -/
section
set_option maxRecDepth 100000
set_option linter.unusedSimpArgs false
namespace Go.Cw
open Go Go.Proofs

namespace law01_LeakTurned
noncomputable def bodyR : IR := (.seq (.ops law01_LeakTurned.r53) (.seq (.cond (.t 382) .skip (.exit 8)) (.seq (.block 9 (.seq (.ops law01_LeakTurned.r54) (.seq (.ops law01_LeakTurned.r55) (.seq (.ops law01_LeakTurned.r56) (.seq (.ops law01_LeakTurned.r57) (.seq (.ops law01_LeakTurned.r58) (.cond (.t 422) (.seq (.ops law01_LeakTurned.r59) .ret) .skip))))))) (.ops law01_LeakTurned.r60))))
noncomputable def bodyS : IR := (.seq (.ops law01_LeakTurned.r71) (.seq (.cond (.t 453) .skip (.exit 12)) (.seq (.block 13 (.seq (.ops law01_LeakTurned.r72) (.seq (.ops law01_LeakTurned.r73) (.cond (.t 464) (.seq (.ops law01_LeakTurned.r74) .ret) .skip)))) (.ops law01_LeakTurned.r75))))
noncomputable def bodyD : IR := (.seq (.ops law01_LeakTurned.r77) (.seq (.cond (.t 469) .skip (.exit 14)) (.seq (.block 15 (.seq (.ops law01_LeakTurned.r78) (.seq (.ops law01_LeakTurned.r79) (.cond (.t 480) (.seq (.ops law01_LeakTurned.r80) .ret) .skip)))) (.ops law01_LeakTurned.r81))))
end law01_LeakTurned

theorem law01_LeakTurned_roundR (h : Hul) (hs : h.Small) (hv : h.Valid) (V : AVal) (O : AObj) (p : Int) (s3 s7 s8 s9 s150 k : Nat) (hk : k < h.n) (J : Post)
    (next : ∀ tm h', Vw [(3, .ptr 3 0 (s3+1)), (7, .ptr 7 0 (s7+1)), (8, .ptr 8 0 (s8+1)), (9, .ptr 9 0 (s9+1)), (15, .sl 150 0 (s150+1) h.n (.gr 3)), (16, LD h.snds), (40, V), (41, .int .i64 p), (380, .int .i64 h.n), (381, .int .i64 (k+1 : Nat))] tm → Hw [(3, .row h.cells (s3+1)), (7, .row [.int .i64 h.n] (s7+1)), (8, .row h.turn.cells (s8+1)), (9, .row h.back.cells (s9+1)), (150, .row (sms h.seams) (s150+1)), (900, O)] h' → J .normal tm [] h') :
    AW { P := Pg, F := 0, n := 483 } law01_LeakTurned.bodyR J (tmV [(3, .ptr 3 0 (s3+1)), (7, .ptr 7 0 (s7+1)), (8, .ptr 8 0 (s8+1)), (9, .ptr 9 0 (s9+1)), (15, .sl 150 0 (s150+1) h.n (.gr 3)), (16, LD h.snds), (40, V), (41, .int .i64 p), (380, .int .i64 h.n), (381, .int .i64 k)]) [] (hpV [(3, .row h.cells (s3+1)), (7, .row [.int .i64 h.n] (s7+1)), (8, .row h.turn.cells (s8+1)), (9, .row h.back.cells (s9+1)), (150, .row (sms h.seams) (s150+1)), (900, O)]) := by
  have hn6 := hv.n6
  obtain ⟨sp, e, r1, r2, r3⟩ := Hul.turned_rate hv hk
  have k1 := leak_Rate_ok h hs k
  rw [r1] at k1
  have k2 := leak_Rate_ok h.turn (Hul.turn_small hs) k
  rw [r2] at k2
  have k3 := leak_Rate_ok h.back (Hul.back_small hs) ((h.n : Int) - 1 - k)
  rw [r3] at k3
  unfold law01_LeakTurned.bodyR
  simp [hk, Hul.cells]
  refine PCallK.intro (PInv.func (first := []) (cap := []) (args := [h.v, .int .i64 k]) k1) ?_
  simp [SP2]
  intro s56
  refine PCallK.intro (PInv.func (first := []) (cap := []) (args := [h.turn.v, .int .i64 k]) k2) ?_
  simp [SP2]
  intro s58
  refine ⟨by unfold Fits; omega, by unfold Fits; omega, ?_⟩
  refine PCallK.intro (PInv.func (first := []) (cap := []) (args := [h.back.v, .int .i64 ((h.n : Int) - 1 - k)]) k3) ?_
  simp [SP2]
  intro s60
  (repeat first | refine And.intro (by omega) ?_ | refine And.intro (Fits.of (by omega) (by omega)) ?_)
  exact next _ _ (by simp) (by simp [Hul.cells])

theorem law01_LeakTurned_roundS (h : Hul) (hv : h.Valid) (s3 s150 k : Nat) (hk : k < h.n) (J : Post)
    (next : ∀ tm h', Vw [(3, .ptr 3 0 (s3+1)), (15, .sl 150 0 (s150+1) h.n (.gr 3)), (16, LD h.snds), (451, .int .i64 h.n), (452, .int .i64 (k+1 : Nat))] tm → Hw [(3, .row h.cells (s3+1)), (150, .row (sms h.seams) (s150+1))] h' → J .normal tm [] h') :
    AW { P := Pg, F := 0, n := 483 } law01_LeakTurned.bodyS J (tmV [(3, .ptr 3 0 (s3+1)), (15, .sl 150 0 (s150+1) h.n (.gr 3)), (16, LD h.snds), (451, .int .i64 h.n), (452, .int .i64 k)]) [] (hpV [(3, .row h.cells (s3+1)), (150, .row (sms h.seams) (s150+1))]) := by
  have hn6 := hv.n6
  have hkn : k < h.seams.length := hk
  obtain ⟨a, ha⟩ : ∃ a, h.seams[k] = a := ⟨_, rfl⟩
  unfold law01_LeakTurned.bodyS
  simp [hk, hkn, ha, Hul.cells]
  (repeat first | refine And.intro (by omega) ?_ | refine And.intro (Fits.of (by omega) (by omega)) ?_)
  exact next _ _ (by simp) (by simp [Hul.cells])

theorem law01_LeakTurned_roundD (h : Hul) (hv : h.Valid) (s3 k : Nat) (hk : k < h.k) (J : Post)
    (next : ∀ tm h', Vw [(3, .ptr 3 0 (s3+1)), (16, LD h.snds), (467, .int .i64 h.k), (468, .int .i64 (k+1 : Nat))] tm → Hw [(3, .row h.cells (s3+1))] h' → J .normal tm [] h') :
    AW { P := Pg, F := 0, n := 483 } law01_LeakTurned.bodyD J (tmV [(3, .ptr 3 0 (s3+1)), (16, LD h.snds), (467, .int .i64 h.k), (468, .int .i64 k)]) [] (hpV [(3, .row h.cells (s3+1))]) := by
  have hk8 := hv.k8
  have hkn : k < h.snds.length := hk
  obtain ⟨a, ha⟩ : ∃ a, h.snds[k] = a := ⟨_, rfl⟩
  unfold law01_LeakTurned.bodyD
  simp [hk, hkn, ha, Hul.cells]
  (repeat first | refine And.intro (by omega) ?_ | refine And.intro (Fits.of (by omega) (by omega)) ?_)
  exact next _ _ (by simp) (by simp [Hul.cells])
end Go.Cw
end

/- The law Turned: the two other hulls are made. -/
section
set_option maxRecDepth 100000
set_option linter.unusedSimpArgs false
namespace Go.Cw
open Go Go.Proofs

theorem Sl.toV {n : Nat} {K : KT} {tm : TM} {df : DF} {h : Heap} (l : List (Nat × AVal)) (k : List (Nat × AObj)) (en : Sl n (fun tm' df' h' => df' = df ∧ Vw l tm' ∧ Hw k h') tm df h) (hK : K (tmV l) df (hpV k)) : Sl n K tm df h := by
  obtain ⟨tm₁, df₁, h₁, a, rfl, hv, hh⟩ := en
  exact ⟨_, _, _, a.trans (SLe.view hv hh), hK⟩

@[simp] theorem frzL_sms (r s : Nat) (cells : List AVal) (l : List Sm) : frzL r s cells (sms l) = sms l := by
  induction l with
  | nil => rfl
  | cons a l ih =>
    show frzL r s cells (a.c ++ sms l) = a.c ++ sms l
    simp [Sm.c, ih]
@[simp] theorem frzL_sds (r s : Nat) (cells : List AVal) (l : List Sd) : frzL r s cells (sds l) = sds l := by
  induction l with
  | nil => rfl
  | cons a l ih =>
    show frzL r s cells (a.c ++ sds l) = a.c ++ sds l
    simp [Sd.c, ih]
namespace Hul
def turnSL (h : Hul) : List Sm := h.seams.map turnS
def turnDL (h : Hul) : List Sd := h.snds.map turnD
theorem turnSL_step {h : Hul} {k : Nat} (hk : k < h.seams.length) : (h.turn.seams.take k ++ [turnS h.seams[k]]) = h.turn.seams.take (k + 1) := by
  have hk' : k < h.turn.seams.length := by simpa [turn] using hk
  rw [← List.take_append_getElem hk']
  simp [turn]
theorem turnDL_step {h : Hul} {k : Nat} (hk : k < h.snds.length) : (h.turn.snds.take k ++ [turnD h.snds[k]]) = h.turn.snds.take (k + 1) := by
  have hk' : k < h.turn.snds.length := by simpa [turn] using hk
  rw [← List.take_append_getElem hk']
  simp [turn]
theorem backSL_step {h : Hul} {k : Nat} (hk : k < h.seams.length) : (h.back.seams.take k ++ [h.seams[h.seams.length - 1 - k]'(by omega)]) = h.back.seams.take (k + 1) := by
  have hk' : k < h.back.seams.length := by simpa [back] using hk
  rw [← List.take_append_getElem hk']
  simp [back]
theorem backDL_step {h : Hul} {k : Nat} (hk : k < h.snds.length) : (h.back.snds.take k ++ [h.snds[h.snds.length - 1 - k]'(by omega)]) = h.back.snds.take (k + 1) := by
  have hk' : k < h.back.snds.length := by simpa [back] using hk
  rw [← List.take_append_getElem hk']
  simp [back]
end Hul

theorem law01_LeakTurned_ok (h : Hul) (dr : Int) (hdr : 0 ≤ dr ∧ dr ≤ 255) (li : Int) (hli : 0 ≤ li ∧ li ≤ 255) : APure Pg fn_law01_LeakTurned [h.v, .int .u8 dr, .int .u8 li] (.bool true) := by
  refine law01_LeakTurned.pure (by simp) ?_
  simp
  intro s3
  refine PCallK.intro (PInv.func (law01_long_ok h)) ?_
  cases hlo : h.longB with
  | true =>
    simp
    refine PCallK.intro (PInv.func law01_alive_ok) ?_
    simp
    exact RetV.refl rfl
  | false =>
  have hs := Hul.longB_iff.1 hlo
  simp
  refine PCallK.intro (PInv.func (ref01_Hull_ok h hs)) ?_
  by_cases hv : ¬ h.Valid
  · simp [hv]
    refine PCallK.intro (PInv.func law01_alive_ok) ?_
    simp
    exact RetV.refl rfl
  replace hv := Classical.not_not.1 hv
  have hk8 := hv.k8
  have hn1 := hv.n1
  have hn6 := hv.n6
  have hkl : h.snds.length = h.k := rfl
  have hnl : h.seams.length = h.n := rfl
  simp [hv]
  intro s7 s8 s9
  refine Lp.intro' (σ := Nat × Nat × Nat) (inv := fun x => x.1 ≤ h.n) (vw := fun x => [(1, .int .u8 dr), (2, .int .u8 li), (3, .ptr 3 0 (s3+1)), (7, .ptr 7 0 (s7+1)), (8, .ptr 8 0 (s8+1)), (9, .ptr 9 0 (s9+1)), (81, LS h.seams), (82, .int .i64 h.n), (83, .int .i64 x.1)])
    (hp := fun x => [(3, .row h.cells (s3+1)), (7, .row [.int .i64 h.n] (s7+1)), (8, .row [gS 3 109 x.1 x.2.1, .nils] (s8+1)), (9, .row [gS 3 99 x.1 x.2.2, .nils] (s9+1)), (109, gO x.1 (sms (h.turn.seams.take x.1)) x.2.1), (99, gO x.1 (sms (h.back.seams.take x.1)) x.2.2)]) (ms := fun x => h.n - x.1) (0, 0, 0) (by simp)
    (Sl.rowLe (cells := [.nils, .nils]) (s := s8 + 1) 8 [.es, .nils] (by simp) ⟨ALe.nils_es, ALe.refl _, trivial⟩ (Sl.rowLe (cells := [.nils, .nils]) (s := s9 + 1) 9 [.es, .nils] (by simp) ⟨ALe.nils_es, ALe.refl _, trivial⟩ (Sl.refl ⟨rfl, by simp [hnl], by simp [hnl, Hul.cells]⟩))) ?_
  · rintro ⟨k, st1, st2⟩ hk0 J hJ
    simp only at hk0
    by_cases hkc : k < h.n
    · have hkn : k < h.seams.length := hkc
      obtain ⟨a, ha⟩ : ∃ a, h.seams[k] = a := ⟨_, rfl⟩
      have hj : h.seams.length - 1 - k < h.seams.length := by omega
      obtain ⟨b, hb⟩ : ∃ b, h.seams[h.seams.length - 1 - k] = b := ⟨_, rfl⟩
      have e2 : ((h.n : Int) - 1 - k).toNat = h.seams.length - 1 - k := by omega
      have hoks := hv.sm a (by rw [← ha]; exact List.getElem_mem hkn)
      have hok2 := hoks.2.1
      have htk : (h.turn.seams.take k).length = k := by simp [Hul.turn]; omega
      have hbk : (h.back.seams.take k).length = k := by simp [Hul.back]; omega
      have htk1 : (h.turn.seams.take (k+1)).length = k + 1 := by simp [Hul.turn]; omega
      have hbk1 : (h.back.seams.take (k+1)).length = k + 1 := by simp [Hul.back]; omega
      have hdb : sms (h.back.seams.take k) ++ [AVal.int .i64 b.h, .int .i64 b.s, .int .i64 b.m] = sms (h.back.seams.take (k + 1)) := by rw [← Hul.backSL_step hkn, hb]; exact fl_one _ b
      have hdt : sms (h.turn.seams.take k) ++ [AVal.int .i64 a.h, .int .i64 (-a.s), .int .i64 a.m] = sms (h.turn.seams.take (k + 1)) := by rw [← Hul.turnSL_step hkn, ha]; exact fl_one _ (Hul.turnS a)
      simp [hkc, hkn, ha, Hul.cells, e2, hj, hb]
      refine ⟨by omega, fun s11 => ⟨by unfold Fits; omega, by unfold Fits; omega, by omega, by omega, fun s98 s99 => ?_⟩⟩
      refine xApN_gS (cells := sms (h.back.seams.take k)) (by simp) (by simp [hbk]) (by omega) (by omega) ?_
      rw [hdb]
      simp
      refine ⟨by unfold Fits; omega, fun s108 s109 => ?_⟩
      refine xApN_gS (cells := sms (h.turn.seams.take k)) (by simp) (by simp [htk]) (by omega) (by omega) ?_
      rw [hdt]
      simp
      (repeat first | refine And.intro (by omega) ?_ | refine And.intro (Fits.of (by omega) (by omega)) ?_)
      exact hJ.next (k + 1, s109 + 1, s99 + 1) (by simp; omega) (by simp; omega) (by simp) (by simp [Hul.cells])
    obtain rfl : k = h.n := by omega
    have htl : h.turn.seams.take h.n = h.turn.seams := List.take_of_length_le (by rw [show h.turn.seams.length = h.turn.n from rfl, Hul.turn_n]; exact Nat.le_refl _)
    have hbl : h.back.seams.take h.n = h.back.seams := List.take_of_length_le (by rw [show h.back.seams.length = h.back.n from rfl, Hul.back_n]; exact Nat.le_refl _)
    have htlen : h.turn.seams.length = h.n := Hul.turn_n
    have hblen : h.back.seams.length = h.n := Hul.back_n
    have htlen2 : h.turn.snds.length = h.k := by simp [Hul.turn, Hul.k]
    have hblen2 : h.back.snds.length = h.k := by simp [Hul.back, Hul.k]
    simp
    refine hJ.exitS (Sl.gSH 109 (m := h.n) (cells := sms h.turn.seams) (s := st1) (by omega) (by simp [htl]) (Sl.gSH 99 (m := h.n) (cells := sms h.back.seams) (s := st2) (by omega) (by simp [hbl]) (Sl.toV [(1, .int .u8 dr), (2, .int .u8 li), (3, .ptr 3 0 (s3+1)), (7, .ptr 7 0 (s7+1)), (8, .ptr 8 0 (s8+1)), (9, .ptr 9 0 (s9+1))]
      [(3, .row h.cells (s3+1)), (7, .row [.int .i64 h.n] (s7+1)), (8, .row [LS h.turn.seams, .nils] (s8+1)), (9, .row [LS h.back.seams, .nils] (s9+1))] (Sl.refl ⟨rfl, by simp, by simp [Hul.cells, gS_pos (show 0 < h.n by omega), LS, htlen, hblen]⟩) ?_)))
    simp [Hul.cells]
    refine Lp.intro' (σ := Nat × Nat × Nat) (inv := fun x => x.1 ≤ h.k) (vw := fun x => [(1, .int .u8 dr), (2, .int .u8 li), (3, .ptr 3 0 (s3+1)), (7, .ptr 7 0 (s7+1)), (8, .ptr 8 0 (s8+1)), (9, .ptr 9 0 (s9+1)), (113, LD h.snds), (114, .int .i64 h.k), (115, .int .i64 x.1)])
      (hp := fun x => [(3, .row h.cells (s3+1)), (7, .row [.int .i64 h.n] (s7+1)), (8, .row [LS h.turn.seams, gS 4 143 x.1 x.2.1] (s8+1)), (9, .row [LS h.back.seams, gS 4 133 x.1 x.2.2] (s9+1)), (143, gO x.1 (sds (h.turn.snds.take x.1)) x.2.1), (133, gO x.1 (sds (h.back.snds.take x.1)) x.2.2)]) (ms := fun x => h.k - x.1) (0, 0, 0) (by simp)
      (Sl.rowLe (cells := [LS h.turn.seams, .nils]) (s := s8 + 1) 8 [LS h.turn.seams, .es] (by simp) ⟨ALe.refl _, ALe.nils_es, trivial⟩ (Sl.rowLe (cells := [LS h.back.seams, .nils]) (s := s9 + 1) 9 [LS h.back.seams, .es] (by simp) ⟨ALe.refl _, ALe.nils_es, trivial⟩ (Sl.refl ⟨rfl, by simp [hkl], by simp [Hul.cells]⟩))) ?_
    rintro ⟨k, st1, st2⟩ hk0 J2 hJ2
    simp only at hk0
    by_cases hkc : k < h.k
    · have hkn : k < h.snds.length := hkc
      obtain ⟨a, ha⟩ : ∃ a, h.snds[k] = a := ⟨_, rfl⟩
      have hj : h.snds.length - 1 - k < h.snds.length := by omega
      obtain ⟨b, hb⟩ : ∃ b, h.snds[h.snds.length - 1 - k] = b := ⟨_, rfl⟩
      have e2 : ((h.snds.length : Int) - 1 - k).toNat = h.snds.length - 1 - k := by omega
      have hoks := hv.sd a (by rw [← ha]; exact List.getElem_mem hkn)
      have hok2 := hoks.1.2
      have htk : (h.turn.snds.take k).length = k := by simp [Hul.turn]; omega
      have hbk : (h.back.snds.take k).length = k := by simp [Hul.back]; omega
      have htk1 : (h.turn.snds.take (k+1)).length = k + 1 := by simp [Hul.turn]; omega
      have hbk1 : (h.back.snds.take (k+1)).length = k + 1 := by simp [Hul.back]; omega
      have hdb : sds (h.back.snds.take k) ++ [AVal.int .i64 b.d, .int .i64 b.l, .int .i64 b.lo, .int .i64 b.hi] = sds (h.back.snds.take (k + 1)) := by rw [← Hul.backDL_step hkn, hb]; exact fl_one _ b
      have hdt : sds (h.turn.snds.take k) ++ [AVal.int .i64 a.d, .int .i64 (-a.l), .int .i64 a.lo, .int .i64 a.hi] = sds (h.turn.snds.take (k + 1)) := by rw [← Hul.turnDL_step hkn, ha]; exact fl_one _ (Hul.turnD a)
      simp [hkc, hkn, ha, Hul.cells, e2, hj, hb]
      refine ⟨by omega, fun s13 => ⟨by unfold Fits; omega, by unfold Fits; omega, by omega, by omega, fun s132 s133 => ?_⟩⟩
      refine xApN_gS (cells := sds (h.back.snds.take k)) (by simp) (by simp [hbk]) (by omega) (by omega) ?_
      rw [hdb]
      simp
      refine ⟨by unfold Fits; omega, fun s142 s143 => ?_⟩
      refine xApN_gS (cells := sds (h.turn.snds.take k)) (by simp) (by simp [htk]) (by omega) (by omega) ?_
      rw [hdt]
      simp
      (repeat first | refine And.intro (by omega) ?_ | refine And.intro (Fits.of (by omega) (by omega)) ?_)
      exact hJ2.next (k + 1, s143 + 1, s133 + 1) (by simp; omega) (by simp; omega) (by simp) (by simp [Hul.cells])
    obtain rfl : k = h.k := by omega
    have htl2 : h.turn.snds.take h.k = h.turn.snds := List.take_of_length_le (by simp [Hul.turn, Hul.k])
    have hbl2 : h.back.snds.take h.k = h.back.snds := List.take_of_length_le (by simp [Hul.back, Hul.k])
    simp
    refine hJ2.exitS (Sl.toV [(1, .int .u8 dr), (2, .int .u8 li), (3, .ptr 3 0 (s3+1)), (7, .ptr 7 0 (s7+1)), (8, .ptr 8 0 (s8+1)), (9, .ptr 9 0 (s9+1))]
      [(3, .row h.cells (s3+1)), (7, .row [.int .i64 h.n] (s7+1)), (8, .row h.turn.cells (s8+1)), (9, .row h.back.cells (s9+1))] ?_ ?_)
    · by_cases hk0 : h.k = 0
      · have hsn : h.snds = [] := List.eq_nil_of_length_eq_zero hk0
        refine Sl.rowLe (cells := [LS h.turn.seams, gS 4 143 h.k st1]) (s := s8 + 1) 8 [LS h.turn.seams, .vl 0 []] (by simp) ⟨ALe.refl _, by rw [hk0]; exact ALe.es_vl, trivial⟩ (Sl.rowLe (cells := [LS h.back.seams, gS 4 133 h.k st2]) (s := s9 + 1) 9 [LS h.back.seams, .vl 0 []] (by simp) ⟨ALe.refl _, by rw [hk0]; exact ALe.es_vl, trivial⟩ (Sl.refl ⟨rfl, by simp, ?_⟩))
        simp [Hul.cells, Hul.turn, Hul.back, hsn, LD, sds]
      · have hk1 : 0 < h.k := by omega
        refine Sl.gSH 143 (m := h.k) (cells := sds h.turn.snds) (s := st1) (by omega) (by simp [htl2]) (Sl.gSH 133 (m := h.k) (cells := sds h.back.snds) (s := st2) (by omega) (by simp [hbl2]) (Sl.refl ⟨rfl, by simp, ?_⟩))
        simp [Hul.cells, gS_pos hk1, LD, htlen2, hblen2]
    obtain ⟨d, hd, hd13⟩ := rem_u8 hdr (n := 13) (by omega)
    obtain ⟨a0, ha0, ha7⟩ := rem_u8 hli (n := 7) (by omega)
    have hd' : dr.tmod 13 = d := hd
    have ha' : li.tmod 7 = a0 := ha0
    obtain ⟨b, hb⟩ : ∃ b : Int, b = (a0 : Int) - 3 := ⟨_, rfl⟩
    have hat : Hul.At d b := by unfold Hul.At; omega
    have hat2 : Hul.At d (-b) := by unfold Hul.At; omega
    obtain ⟨sp, e, can, sure, c1, c2, t, fF, fX, fY, lF, lX, lY, cF, cY, hcan, hsure⟩ := Hul.turned_flow hv hat
    have tsm := Hul.turn_small hs
    have bsm := Hul.back_small hs
    have tv := Hul.turn_valid hv
    have bv := Hul.back_valid hv
    have k1 := leak_Flow_ok h hs d b
    rw [fF] at k1
    have k2 := leak_Flow_ok h.turn tsm d (-b)
    rw [fX] at k2
    have k3 := leak_Flow_ok h.back bsm d b
    rw [fY] at k3
    obtain ⟨w, hw⟩ : ∃ w, w = h.wet d b := ⟨_, rfl⟩
    have hwl := Hul.wet_lt h d b
    rw [← hw] at hwl
    have k4 := leak_Wet_ok h hs d b
    rw [show h.wetV d b = .tup [.int .i64 w, .int .i64 0] by simp [Hul.wetV, hv, hat, hw]] at k4
    have k5 := leak_Wet_ok h.turn tsm d (-b)
    rw [show h.turn.wetV d (-b) = .tup [.int .i64 w, .int .i64 0] by rw [hw, ← Hul.turn_wet]; simp [Hul.wetV, tv, hat2]] at k5
    have k6 := leak_Wet_ok h.back bsm d b
    rw [show h.back.wetV d b = .tup [.int .i64 (rvS h.n w), .int .i64 0] by rw [hw, ← Hul.back_wet]; simp [Hul.wetV, bv, hat]] at k6
    have k7 := leak_Leaks_ok h hs
    rw [lF] at k7
    have k8 := leak_Leaks_ok h.turn tsm
    rw [lX] at k8
    have k9 := leak_Leaks_ok h.back bsm
    rw [lY] at k9
    have hn0 : ¬ h.seams.length = 0 := by omega
    simp [Hul.cells]
    intro s147 s151 s150
    refine xAp_cp (by simp) (by simp) (by omega) ?_
    simp [cpV, cpO, hn0]
    intro s154
    refine xAp_cp (by simp) (by simp) (by omega) ?_
    simp [hd', ha', ← hb]
    refine ⟨by unfold Fits; omega, by unfold Fits; omega, by unfold Fits; omega, ?_⟩
    refine PCallK.intro (PInv.func (first := []) (cap := []) (args := [h.v, .int .i64 d, .int .i64 b]) k1) ?_
    simp [SP2]
    intro s19
    refine ⟨by unfold Fits; omega, ?_⟩
    refine PCallK.intro (PInv.func (first := []) (cap := []) (args := [h.turn.v, .int .i64 d, .int .i64 (-b)]) k2) ?_
    simp [SP2]
    intro s21
    refine PCallK.intro (PInv.func (first := []) (cap := []) (args := [h.back.v, .int .i64 d, .int .i64 b]) k3) ?_
    simp [SP2]
    intro s23
    refine PCallK.intro (PInv.func (first := []) (cap := []) (args := [h.v, .int .i64 d, .int .i64 b]) k4) ?_
    simp
    refine ⟨by unfold Fits; omega, ?_⟩
    refine PCallK.intro (PInv.func (first := []) (cap := []) (args := [h.turn.v, .int .i64 d, .int .i64 (-b)]) k5) ?_
    simp
    refine PCallK.intro (PInv.func (first := []) (cap := []) (args := [h.back.v, .int .i64 d, .int .i64 b]) k6) ?_
    simp
    refine PCallK.intro (PInv.func (first := []) (cap := []) (args := [h.v]) k7) ?_
    simp
    refine PCallK.intro (PInv.func (first := []) (cap := []) (args := [h.turn.v]) k8) ?_
    simp
    refine PCallK.intro (PInv.func (first := []) (cap := []) (args := [h.back.v]) k9) ?_
    simp
    refine FCall.cps [(7, .row [.int .i64 h.n] (s7+1))] (fun _ : Unit => .int .i64 (rvS h.n w)) (fun _ => [(7, .row [.int .i64 h.n] (s7+1))]) (fun _ => True) (fun K' hK' => AInvoke.func (law01_LeakTurned_1_ok h.n ⟨hn1, hn6⟩ w hwl (s7+1) K' (hK' () trivial))) (by simp) (fun _ => rfl) trivial (fun _ _ => ⟨trivial, ?_⟩)
    simp
    refine FCall.cps [(7, .row [.int .i64 h.n] (s7+1))] (fun _ : Unit => .int .i64 (rvS h.n can)) (fun _ => [(7, .row [.int .i64 h.n] (s7+1))]) (fun _ => True) (fun K' hK' => AInvoke.func (law01_LeakTurned_1_ok h.n ⟨hn1, hn6⟩ can hcan (s7+1) K' (hK' () trivial))) (by simp) (fun _ => rfl) trivial (fun _ _ => ⟨trivial, ?_⟩)
    simp
    refine FCall.cps [(7, .row [.int .i64 h.n] (s7+1))] (fun _ : Unit => .int .i64 (rvS h.n sure)) (fun _ => [(7, .row [.int .i64 h.n] (s7+1))]) (fun _ => True) (fun K' hK' => AInvoke.func (law01_LeakTurned_1_ok h.n ⟨hn1, hn6⟩ sure hsure (s7+1) K' (hK' () trivial))) (by simp) (fun _ => rfl) trivial (fun _ _ => ⟨trivial, ?_⟩)
    simp
    have q1 := leak_Sets_ok h.turn tsm
    have q2 := leak_Sets_ok h.back bsm
    have q3 := leak_Clash_ok h hs
    rw [cF] at q3
    have q4 := leak_Clash_ok h.back bsm
    rw [cY] at q4
    by_cases hne : h.truths h.every = []
    · have t0 : h.turn.truths h.turn.every = [] := by rw [Hul.turn_truths]; exact hne
      have b0 : h.back.truths h.back.every = [] := Hul.back_ne.2 hne
      have q0 := leak_Sets_ok h hs
      rw [show h.setsV = .tup [L [], .int .i64 10] by simp only [Hul.setsV, hv, hne, if_true]] at q0
      rw [show h.turn.setsV = .tup [L [], .int .i64 10] by simp only [Hul.setsV, tv, t0, if_true]] at q1
      rw [show h.back.setsV = .tup [L [], .int .i64 10] by simp only [Hul.setsV, bv, b0, if_true]] at q2
      have q5 := ref01_Ints_ok [] [] (by simp) (by simp)
      refine FCall.pure' (v := .tup [L [], .int .i64 10]) (PInv.func (first := []) (cap := []) (args := [h.v]) q0) (by simp) (by simp) ?_
      simp
      refine FCall.pure' (v := .tup [L [], .int .i64 10]) (PInv.func (first := []) (cap := []) (args := [h.turn.v]) q1) (by simp) (by simp) ?_
      simp
      refine FCall.pure' (v := .tup [L [], .int .i64 10]) (PInv.func (first := []) (cap := []) (args := [h.back.v]) q2) (by simp) (by simp) ?_
      simp
      refine PCallK.intro (PInv.func (first := []) (cap := []) (args := [h.v]) q3) ?_
      simp
      refine PCallK.intro (PInv.func (first := []) (cap := []) (args := [h.back.v]) q4) ?_
      simp
      refine FCall.pure' (v := .bool true) (PInv.func (first := []) (cap := []) (args := [L [], L []]) (by simpa using q5)) (by simp) (by simp) ?_
      simp
      refine Lp.intro' (σ := Unit) (inv := fun _ => True) (vw := fun _ => [(3, .ptr 3 0 (s3+1)), (7, .ptr 7 0 (s7+1)), (8, .ptr 8 0 (s8+1)), (9, .ptr 9 0 (s9+1)), (15, .sl 150 0 (s150+1) h.n (.gr 3)), (16, LD h.snds), (40, L []), (41, .int .i64 10), (356, L []), (357, .int .i64 0), (358, .int .i64 0)])
        (hp := fun _ => [(3, .row h.cells (s3+1)), (7, .row [.int .i64 h.n] (s7+1)), (8, .row h.turn.cells (s8+1)), (9, .row h.back.cells (s9+1)), (150, .row (sms h.seams) (s150+1)), (900, .dead)]) (ms := fun _ => 0) () trivial ?_ ?_
      · by_cases hk0 : h.k = 0
        · have hsn : h.snds = [] := List.eq_nil_of_length_eq_zero hk0
          exact Sl.frzHp 151 (cells := []) (s := s151 + 1) (by simp) (Sl.refl ⟨rfl, by simp [hsn, cpV, LD, sds, hnl], by simp [Hul.cells, hsn]⟩)
        · have hk1 : ¬ h.snds.length = 0 := hk0
          exact Sl.frzHp 154 (cells := sds h.snds) (s := s154 + 1) (by simp [cpO, hk1]) (Sl.refl ⟨rfl, by simp [hk1, cpV, LD, hnl], by simp [Hul.cells]⟩)
      intro _ _ J3 hJ3
      simp
      refine hJ3.exit ?_
      simp
      refine Lp.intro (σ := Nat) (inv := fun k => k ≤ h.n) (vw := fun k => [(3, .ptr 3 0 (s3+1)), (7, .ptr 7 0 (s7+1)), (8, .ptr 8 0 (s8+1)), (9, .ptr 9 0 (s9+1)), (15, .sl 150 0 (s150+1) h.n (.gr 3)), (16, LD h.snds), (40, L []), (41, .int .i64 10), (380, .int .i64 h.n), (381, .int .i64 k)])
        (hp := fun _ => [(3, .row h.cells (s3+1)), (7, .row [.int .i64 h.n] (s7+1)), (8, .row h.turn.cells (s8+1)), (9, .row h.back.cells (s9+1)), (150, .row (sms h.seams) (s150+1)), (900, .dead)]) (ms := fun k => h.n - k) 0 (by simp) (by simp) (by simp) ?_
      intro k hk J5 hJ5
      by_cases hkc : k < h.n
      · exact law01_LeakTurned_roundR h hs hv (L []) .dead 10 s3 s7 s8 s9 s150 k hkc J5 fun tm h' a b => hJ5.next (k + 1) (by omega) (by omega) a b
      obtain rfl : k = h.n := by omega
      simp
      refine hJ5.exit ?_
      simp
      intro s424
      refine Lp.intro (σ := Unit) (inv := fun _ => True) (vw := fun _ => [(3, .ptr 3 0 (s3+1)), (15, .sl 150 0 (s150+1) h.n (.gr 3)), (16, LD h.snds), (41, .int .i64 10), (62, .sl 424 0 (s424+1) 0 (.ex 0)), (428, .int .i64 0), (429, .int .i64 0)])
        (hp := fun _ => [(3, .row h.cells (s3+1)), (150, .row (sms h.seams) (s150+1)), (424, .row [] (s424+1))]) (ms := fun _ => 0) () trivial (by simp) (by simp) ?_
      intro _ _ J6 hJ6
      simp
      refine hJ6.exit ?_
      simp [Hul.cells]
      refine FCall.pure' (v := .tup [L [], .int .i64 10]) (PInv.func (first := []) (cap := []) (args := [h.v]) q0) (by simp) (by simp) ?_
      simp
      refine FCall.frz1 424 (cells := []) (s := s424 + 1) (by simp) (v := .bool true) ?_ trivial ?_
      · simp
        exact PInv.func (first := []) (cap := []) (args := [L [], L []]) (by simpa using q5)
      simp
      refine Lp.intro (σ := Nat) (inv := fun k => k ≤ h.n) (vw := fun k => [(3, .ptr 3 0 (s3+1)), (15, .sl 150 0 (s150+1) h.n (.gr 3)), (16, LD h.snds), (451, .int .i64 h.n), (452, .int .i64 k)])
        (hp := fun _ => [(3, .row h.cells (s3+1)), (150, .row (sms h.seams) (s150+1))]) (ms := fun k => h.n - k) 0 (by simp) (by simp) (by simp [Hul.cells]) ?_
      intro k hk J7 hJ7
      by_cases hkc : k < h.n
      · exact law01_LeakTurned_roundS h hv s3 s150 k hkc J7 fun tm h' a b => hJ7.next (k + 1) (by omega) (by omega) a b
      obtain rfl : k = h.n := by omega
      simp
      refine hJ7.exit ?_
      simp
      refine Lp.intro (σ := Nat) (inv := fun k => k ≤ h.k) (vw := fun k => [(3, .ptr 3 0 (s3+1)), (16, LD h.snds), (467, .int .i64 h.k), (468, .int .i64 k)])
        (hp := fun _ => [(3, .row h.cells (s3+1))]) (ms := fun k => h.k - k) 0 (by simp) (by simp [hkl]) (by simp [Hul.cells]) ?_
      intro k hk J8 hJ8
      by_cases hkc : k < h.k
      · exact law01_LeakTurned_roundD h hv s3 k hkc J8 fun tm h' a b => hJ8.next (k + 1) (by omega) (by omega) a b
      obtain rfl : k = h.k := by omega
      simp
      refine hJ8.exit ?_
      simp
      refine PCallK.intro (PInv.func law01_alive_ok) ?_
      simp
      exact RetV.refl rfl
    obtain ⟨S, hS⟩ : ∃ S, S = h.setsL := ⟨_, rfl⟩
    obtain ⟨B, hB⟩ : ∃ B, B = h.back.setsL := ⟨_, rfl⟩
    have hSl : S.length ≤ 15625 := by rw [hS]; exact Hul.setsL_len hv
    have hBl : B.length = S.length := by rw [hS, hB]; exact Hul.back_sets_len hv
    have hBS : ∀ s ∈ B, ∃ q ∈ S, rvS h.n q = s := by rw [hS, hB]; exact fun s hs => (Hul.back_sets hv).1 hs
    have hSb : ∀ x ∈ S, 0 ≤ x ∧ x < 2 ^ h.n := by rw [hS]; exact fun x hx => Hul.setsL_in2 hv hx
    have hS0 : S.length ≠ 0 := by rw [hS]; exact fun e => Hul.setsL_ne hne (List.eq_nil_of_length_eq_zero e)
    rw [show h.turn.setsV = .tup [L S, .int .i64 0] by rw [hS, ← Hul.turn_setsL]; simp only [Hul.setsV, tv, Hul.turn_truths, hne, if_true, if_false]] at q1
    rw [show h.back.setsV = .tup [L B, .int .i64 0] by rw [hB]; simp only [Hul.setsV, bv, Hul.back_ne, hne, if_true, if_false]] at q2
    refine FCall.cps [(900, .dead)] (fun s' : Nat => .tup [.sl 900 0 s' S.length (.ex S.length), .int .i64 0]) (fun s' => [(900, .row (ints S) s')]) (fun _ => True) (fun K' hK' => AInvoke.func ?_) (by simp) (fun _ => rfl) trivial (fun s900 _ => ⟨trivial, ?_⟩)
    · rw [hS] at hK'
      exact leak_Sets_gen h hs hv hne K' fun s' => RetV.view [(900, .row (ints h.setsL) s')] (by simp) (hK' s' trivial)
    simp
    refine FCall.pure' (v := .tup [L S, .int .i64 0]) (PInv.func (first := []) (cap := []) (args := [h.turn.v]) q1) (by simp) (by simp) ?_
    simp
    refine FCall.pure' (v := .tup [L B, .int .i64 0]) (PInv.func (first := []) (cap := []) (args := [h.back.v]) q2) (by simp) (by simp) ?_
    simp
    refine PCallK.intro (PInv.func (first := []) (cap := []) (args := [h.v]) q3) ?_
    simp
    refine PCallK.intro (PInv.func (first := []) (cap := []) (args := [h.back.v]) q4) ?_
    simp
    refine FCall.cps [(900, .row (ints S) s900)] (fun _ : Unit => .bool true) (fun _ => [(900, .row (ints S) s900)]) (fun _ => True) (fun K' hK' => AInvoke.func ?_) (by simp) (fun _ => rfl) trivial (fun _ _ => ⟨trivial, ?_⟩)
    · exact ref01_Ints_row_ok 900 S S (by omega) (by omega) s900 K' (by simpa using hK' () trivial)
    simp [hBl]
    obtain ⟨fo, hfo⟩ : ∃ fo : Int → Nat → Bool, fo = fun sv k => (S.take k).any fun q => decide (rvS h.n q = sv) := ⟨_, rfl⟩
    have fo0 : ∀ sv, fo sv 0 = false := by intro sv; rw [hfo]; simp
    have fo1 : ∀ sv k, (hk : k < S.length) → fo sv (k + 1) = (fo sv k || decide (rvS h.n S[k] = sv)) := by
      intro sv k hk; rw [hfo]; simp only [← List.take_append_getElem hk, List.any_append, List.any_cons, List.any_nil, Bool.or_false]
    have foE : ∀ sv ∈ B, fo sv S.length = true := by
      intro sv hsv
      obtain ⟨q, hq, e⟩ := hBS sv hsv
      rw [hfo]; simp only [List.take_length, List.any_eq_true, decide_eq_true_eq]
      exact ⟨q, hq, e⟩
    refine Lp.intro' (σ := Nat) (inv := fun j => j ≤ B.length) (vw := fun j => [(3, .ptr 3 0 (s3+1)), (7, .ptr 7 0 (s7+1)), (8, .ptr 8 0 (s8+1)), (9, .ptr 9 0 (s9+1)), (14, .func (.func fn_law01_LeakTurned_1) [] [.ptr 7 0 (s7+1)]), (15, .sl 150 0 (s150+1) h.n (.gr 3)), (16, LD h.snds), (40, .sl 900 0 s900 S.length (.ex S.length)), (41, .int .i64 0), (356, L B), (357, .int .i64 B.length), (358, .int .i64 j)])
      (hp := fun _ => [(3, .row h.cells (s3+1)), (7, .row [.int .i64 h.n] (s7+1)), (8, .row h.turn.cells (s8+1)), (9, .row h.back.cells (s9+1)), (150, .row (sms h.seams) (s150+1)), (900, .row (ints S) s900)]) (ms := fun j => B.length - j) 0 (by simp) ?_ ?_
    · by_cases hk0 : h.k = 0
      · have hsn : h.snds = [] := List.eq_nil_of_length_eq_zero hk0
        exact Sl.frzHp 151 (cells := []) (s := s151 + 1) (by simp) (Sl.refl ⟨rfl, by simp [hBl, hsn, cpV, LD, sds, hnl], by simp [Hul.cells, hsn]⟩)
      · have hk1 : ¬ h.snds.length = 0 := hk0
        exact Sl.frzHp 154 (cells := sds h.snds) (s := s154 + 1) (by simp [cpO, hk1]) (Sl.refl ⟨rfl, by simp [hBl, hk1, cpV, LD, hnl], by simp [Hul.cells]⟩)
    · intro j hj J3 hJ3
      by_cases hjc : j < B.length
      · obtain ⟨sv, hsv⟩ : ∃ sv, B[j] = sv := ⟨_, rfl⟩
        have hsm : sv ∈ B := by rw [← hsv]; exact List.getElem_mem hjc
        simp [hjc, hsv]
        refine Lp.intro (σ := Nat) (inv := fun k => k ≤ S.length) (vw := fun k => [(3, .ptr 3 0 (s3+1)), (7, .ptr 7 0 (s7+1)), (8, .ptr 8 0 (s8+1)), (9, .ptr 9 0 (s9+1)), (14, .func (.func fn_law01_LeakTurned_1) [] [.ptr 7 0 (s7+1)]), (15, .sl 150 0 (s150+1) h.n (.gr 3)), (16, LD h.snds), (40, .sl 900 0 s900 S.length (.ex S.length)), (41, .int .i64 0), (356, L B), (357, .int .i64 B.length), (358, .int .i64 j), (51, .int .i64 sv), (52, .bool (fo sv k)), (362, .sl 900 0 s900 S.length (.ex S.length)), (363, .int .i64 S.length), (364, .int .i64 k)])
          (hp := fun _ => [(3, .row h.cells (s3+1)), (7, .row [.int .i64 h.n] (s7+1)), (8, .row h.turn.cells (s8+1)), (9, .row h.back.cells (s9+1)), (150, .row (sms h.seams) (s150+1)), (900, .row (ints S) s900)]) (ms := fun k => S.length - k) 0 (by simp) (by simp [fo0]) (by simp) ?_
        intro k hk J4 hJ4
        by_cases hkc : k < S.length
        · have hf := fo1 sv k hkc
          obtain ⟨b1, hb1⟩ : ∃ b1, b1 = fo sv k := ⟨_, rfl⟩
          rw [← hb1] at hf
          have hin := hSb S[k] (List.getElem_mem hkc)
          obtain ⟨q, hq⟩ : ∃ q, S[k] = q := ⟨_, rfl⟩
          rw [hq] at hf hin
          cases b1 with
          | true =>
            simp [hkc, ← hb1, hq]
            (repeat first | refine And.intro (by omega) ?_ | refine And.intro (Fits.of (by omega) (by omega)) ?_)
            exact hJ4.next (k + 1) (by omega) (by omega) (by simp [hf]) (by simp)
          | false =>
            simp [hkc, ← hb1, hq]
            refine FCall.cps [(7, .row [.int .i64 h.n] (s7+1))] (fun _ : Unit => .int .i64 (rvS h.n q)) (fun _ => [(7, .row [.int .i64 h.n] (s7+1))]) (fun _ => True) (fun K' hK' => AInvoke.func (law01_LeakTurned_1_ok h.n ⟨hn1, hn6⟩ q hin (s7+1) K' (hK' () trivial))) (by simp) (fun _ => rfl) trivial (fun _ _ => ⟨trivial, ?_⟩)
            simp
            (repeat first | refine And.intro (by omega) ?_ | refine And.intro (Fits.of (by omega) (by omega)) ?_)
            exact hJ4.next (k + 1) (by omega) (by omega) (by simp [hf]) (by simp)
        obtain rfl : k = S.length := by omega
        simp
        refine hJ4.exit ?_
        simp [foE sv hsm]
        (repeat first | refine And.intro (by omega) ?_ | refine And.intro (Fits.of (by omega) (by omega)) ?_)
        exact hJ3.next (j + 1) (by omega) (by omega) (by simp) (by simp)
      obtain rfl : j = B.length := by omega
      simp
      refine hJ3.exit ?_
      simp
      refine Lp.intro (σ := Nat) (inv := fun k => k ≤ h.n) (vw := fun k => [(3, .ptr 3 0 (s3+1)), (7, .ptr 7 0 (s7+1)), (8, .ptr 8 0 (s8+1)), (9, .ptr 9 0 (s9+1)), (15, .sl 150 0 (s150+1) h.n (.gr 3)), (16, LD h.snds), (40, .sl 900 0 s900 S.length (.ex S.length)), (41, .int .i64 0), (380, .int .i64 h.n), (381, .int .i64 k)])
        (hp := fun _ => [(3, .row h.cells (s3+1)), (7, .row [.int .i64 h.n] (s7+1)), (8, .row h.turn.cells (s8+1)), (9, .row h.back.cells (s9+1)), (150, .row (sms h.seams) (s150+1)), (900, .row (ints S) s900)]) (ms := fun k => h.n - k) 0 (by simp) (by simp) (by simp) ?_
      intro k hk J5 hJ5
      by_cases hkc : k < h.n
      · exact law01_LeakTurned_roundR h hs hv (.sl 900 0 s900 S.length (.ex S.length)) (.row (ints S) s900) 0 s3 s7 s8 s9 s150 k hkc J5 fun tm h' a b => hJ5.next (k + 1) (by omega) (by omega) a b
      obtain rfl : k = h.n := by omega
      simp
      refine hJ5.exit ?_
      simp
      intro s424 s426
      refine xAp_cp (by simp) (by simp) (by omega) ?_
      simp [cpV, cpO, hS0]
      refine Lp.intro (σ := List Int × Nat) (inv := fun x => x.1.length = S.length ∧ x.2 ≤ S.length) (vw := fun x => [(3, .ptr 3 0 (s3+1)), (15, .sl 150 0 (s150+1) h.n (.gr 3)), (16, LD h.snds), (40, .sl 900 0 s900 S.length (.ex S.length)), (41, .int .i64 0), (62, .sl 426 0 (s426+1) S.length (.gr 1)), (428, .int .i64 S.length), (429, .int .i64 x.2)])
        (hp := fun x => [(3, .row h.cells (s3+1)), (150, .row (sms h.seams) (s150+1)), (900, .row (ints x.1) s900), (426, .row (ints S) (s426+1))]) (ms := fun x => S.length - x.2) (S, 0) (by simp) (by simp) (by simp) ?_
      rintro ⟨l, k⟩ ⟨hl, hk⟩ J6 hJ6
      simp only at hl hk
      by_cases hkc : k < S.length
      · have hkl : k < l.length := by omega
        have hst : setRange (ints l) k [.int .i64 (-9)] = ints (l.set k (-9)) := by
          rw [setRange_one _ _ _ (by simpa using hkl)]
          simp [ints, List.map_set]
        simp [hkc, hkl, hl, hst]
        refine ⟨by omega, by unfold Fits; omega, ?_⟩
        exact hJ6.next (l.set k (-9), k + 1) (by simp; omega) (by simp; omega) (by simp) (by simp [Hul.cells])
      obtain rfl : k = S.length := by omega
      simp
      refine hJ6.exit ?_
      have q0 := leak_Sets_ok h hs
      rw [show h.setsV = .tup [L S, .int .i64 0] by rw [hS]; simp only [Hul.setsV, hv, hne, if_true, if_false]] at q0
      simp [Hul.cells]
      refine FCall.pure' (v := .tup [L S, .int .i64 0]) (PInv.func (first := []) (cap := []) (args := [h.v]) q0) (by simp) (by simp) ?_
      simp
      refine FCall.frz1 426 (cells := ints S) (s := s426 + 1) (by simp) (v := .bool true) ?_ trivial ?_
      · have := ref01_Ints_ok S S (by omega) (by omega)
        simp
        exact PInv.func (first := []) (cap := []) (args := [L S, L S]) (by simpa using this)
      simp
      refine Lp.intro (σ := Nat) (inv := fun k => k ≤ h.n) (vw := fun k => [(3, .ptr 3 0 (s3+1)), (15, .sl 150 0 (s150+1) h.n (.gr 3)), (16, LD h.snds), (451, .int .i64 h.n), (452, .int .i64 k)])
        (hp := fun _ => [(3, .row h.cells (s3+1)), (150, .row (sms h.seams) (s150+1))]) (ms := fun k => h.n - k) 0 (by simp) (by simp) (by simp [Hul.cells]) ?_
      intro k hk J7 hJ7
      by_cases hkc : k < h.n
      · exact law01_LeakTurned_roundS h hv s3 s150 k hkc J7 fun tm h' a b => hJ7.next (k + 1) (by omega) (by omega) a b
      obtain rfl : k = h.n := by omega
      simp
      refine hJ7.exit ?_
      simp
      refine Lp.intro (σ := Nat) (inv := fun k => k ≤ h.k) (vw := fun k => [(3, .ptr 3 0 (s3+1)), (16, LD h.snds), (467, .int .i64 h.k), (468, .int .i64 k)])
        (hp := fun _ => [(3, .row h.cells (s3+1))]) (ms := fun k => h.k - k) 0 (by simp) (by simp [hkl]) (by simp [Hul.cells]) ?_
      intro k hk J8 hJ8
      by_cases hkc : k < h.k
      · exact law01_LeakTurned_roundD h hv s3 k hkc J8 fun tm h' a b => hJ8.next (k + 1) (by omega) (by omega) a b
      obtain rfl : k = h.k := by omega
      simp
      refine hJ8.exit ?_
      simp
      refine PCallK.intro (PInv.func law01_alive_ok) ?_
      simp
      exact RetV.refl rfl
end Go.Cw
end
