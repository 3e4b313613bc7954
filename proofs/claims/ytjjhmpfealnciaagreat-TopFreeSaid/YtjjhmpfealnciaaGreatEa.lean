/-
  What the law's own functions compute; the law.
-/
import Derived.Test.YtjjhmpfealnciaaGreatWb
import Derived.Test.YtjjhmpfealnciaaGreatAf
import Derived.Test.YtjjhmpfealnciaaGreatGa
import Derived.Test.YtjjhmpfealnciaaGreatTa
import Derived.Test.YtjjhmpfealnciaaGreatAe
import Derived.Test.YtjjhmpfealnciaaGreatRows
set_option linter.unusedVariables false
set_option linter.unusedSimpArgs false
set_option linter.unusedSectionVars false

/- Numbers that are drawn; a hull that is made, with a truth. -/
section
set_option maxRecDepth 100000
set_option linter.unusedSimpArgs false
namespace Go.Cw
open Go Go.Proofs

def drawV (ra s : Nat) (l : List Int) : AVal := .func (.func fn_top_draws03_1) [] [.ptr ra 0 s, .pv [U16 l]]
@[simp] theorem frz_drawV (r s : Nat) (cells : List AVal) (ra s' : Nat) (l : List Int) (h : ¬ ra = r) : frz r s cells (drawV ra s' l) = drawV ra s' l := by simp [drawV, h]

theorem top_draws03_ok (l : List Int) (ra : Nat) (K : AEnd → Heap → Prop) (hK : ∀ s, K (.ret (drawV ra s l)) (hpV [(ra, .row [.int .i64 0] s)])) : ACalls Pg fn_top_draws03 [U16 l] (hpV [(ra, .dead)]) K := by
  obtain ⟨F, hF⟩ : ∃ F, ra < F := ⟨ra + 1, by omega⟩
  have e1 : ∀ k, ¬ F + k = ra := fun k => by omega
  have e2 : ∀ k, ¬ ra = F + k := fun k => by omega
  refine top_draws03.enter F (by simp) ?_
  simp [e1, e2]
  intro s s1
  refine RetV.frz (F + 1) (cells := [U16 l]) (s := s + 1) (by simp [e1, e2]) (RetV.move (F + 3) ra (RetV.view [(ra, .row [.int .i64 0] (s1 + 1))] (by simp [e1, e2]) ?_))
  simpa [drawV] using hK (s1 + 1)

theorem top_draws03_1_ok (l : List Int) (hl : U16ok l) (n : Int) (hn : 0 < n ∧ n ≤ 1000000) (k : Nat) (hk : k ≤ 1000000) (ra s : Nat) (K : AEnd → Heap → Prop)
    (hK : ∀ r : Nat, (r : Int) < n → K (.ret (.int .i64 r)) (hpV [(ra, .row [.int .i64 (k + 1 : Nat)] s)])) : ACalls Pg fn_top_draws03_1 [.int .i64 n, .ptr ra 0 s, .pv [U16 l]] (hpV [(ra, .row [.int .i64 k] s)]) K := by
  obtain ⟨F, hF⟩ : ∃ F, ra < F := ⟨ra + 1, by omega⟩
  have e1 : ∀ k, ¬ F + k = ra := fun k => by omega
  have e2 : ∀ k, ¬ ra = F + k := fun k => by omega
  have fin : ∀ r : Int, 0 ≤ r → r < n → RetV K (hpV [(ra, .row [.int .i64 (k + 1 : Nat)] s)]) (.int .i64 r) := fun r h0 h1 => by
    obtain ⟨r', rfl⟩ := Int.eq_ofNat_of_zero_le h0
    exact RetV.refl (hK r' h1)
  refine top_draws03_1.enter F (by simp) ?_
  simp [e1, e2]
  (repeat first | refine And.intro (by omega) ?_ | refine And.intro (Fits.of (by omega) (by omega)) ?_)
  by_cases h0 : l = []
  · subst h0
    simp [e1, e2]
    (repeat first | refine And.intro (by omega) ?_ | refine And.intro (Fits.of (by omega) (by omega)) ?_)
    have h1 := Int.tmod_nonneg (a := (k : Int) + 1) n (by omega)
    have h2 := Int.tmod_lt_of_pos ((k : Int) + 1) hn.1
    rw [upd_upd]
    simpa using fin _ h1 h2
  · have hpos : 0 < l.length := List.length_pos_iff.2 h0
    have hlen := hl.len
    have h1 := Int.tmod_nonneg (a := (k : Int) + 1) (l.length : Int) (by omega)
    have h2 := Int.tmod_lt_of_pos ((k : Int) + 1) (show (0 : Int) < l.length by omega)
    obtain ⟨i, hi⟩ := Int.eq_ofNat_of_zero_le h1
    have hil : i < l.length := by omega
    have hx := hl.rng l[i] (by simp)
    simp [h0, e1, e2, hi, hil]
    have h3 := Int.tmod_nonneg (a := l[i] + 61 * ((k : Int) + 1)) n (by omega)
    have h4 := Int.tmod_lt_of_pos (l[i] + 61 * ((k : Int) + 1)) hn.1
    refine ⟨Fits.of (by omega) (by omega), Fits.of (by omega) (by omega), Fits.of (by omega) (by omega), by omega, ?_⟩
    rw [upd_upd]
    simpa using fin _ h3 h4

theorem FCall.draw {F n₀ : Nat} {inr : Bool} {keep : List Nat} {fa fl : List It} {d : Option Nat} {K : KT} {Q : Post} {tm : TM} {df : DF} {h : Heap} {l : List Int} (hl : U16ok l) {n : Int} (hn : 0 < n ∧ n ≤ 1000000) {k : Nat} (hk : k ≤ 1000000) {ra s : Nat} (hr : h ra = .row [.int .i64 k] s) (f : FaOk F fa tm h)
    (next : ∀ r : Nat, (r : Int) < n → FlOk fl (putD tm d (.int .i64 r)) (upd h ra (.row [.int .i64 (k + 1 : Nat)] s)) ∧ K (putD tm d (.int .i64 r)) df (upd h ra (.row [.int .i64 (k + 1 : Nat)] s))) :
    FCall ⟨Pg, F, n₀, inr, keep⟩ (drawV ra s l) [.int .i64 n] fa fl d K Q tm df h := by
  refine FCall.cps [(ra, .row [.int .i64 k] s)] (fun r : Nat => .int .i64 r) (fun _ => [(ra, .row [.int .i64 (k + 1 : Nat)] s)]) (fun r => (r : Int) < n) (fun K' hK' => AInvoke.func ?_) (by simpa using hr) (fun _ => rfl) f (fun r hr => by simpa using next r hr)
  exact top_draws03_1_ok l hl n hn k hk ra s K' hK'
theorem top_span03_ok (a b : Int) : APure Pg fn_top_span03 [.int .i64 a, .int .i64 b] (SP2 (a, b)) := by
  refine top_span03.pure (by simp) ?_
  simp
  intro s2
  exact RetV.refl rfl

theorem sumT_wet {h : Hul} {t : List Int} (ht : t.length = h.n) (d l : Int) : Hul.sumT t (h.wet d l) = sumN h.n fun i => if h.wetP d l i then ofL t i else 0 := by
  unfold Hul.sumT
  rw [ht]
  refine sumN_congr fun j hj => ?_
  unfold Hul.wet
  rw [inS_bits _ hj]
theorem allT_push {ms t : List Int} {m n : Int} (ht : t ∈ allT ms) (hn : 0 ≤ n ∧ n ≤ m) : t ++ [n] ∈ allT (ms ++ [m]) := by
  rw [mem_allT] at ht ⊢
  refine ⟨by simp [ht.1], fun i hi => ?_⟩
  rw [List.length_append] at hi
  by_cases h : i < ms.length
  · have := ht.2 i h
    rw [ofL_push, ofL_push, upd_ne _ _ (by omega), upd_ne _ _ (by omega)]
    exact this
  · obtain rfl : i = ms.length := by simp at hi; omega
    rw [ofL_push, ofL_push, upd_same, ← ht.1, upd_same]
    exact hn
theorem sms_push (S : List Sm) (a : Sm) : sms S ++ a.c = sms (S ++ [a]) := fl_one S a
theorem sds_push (D : List Sd) (a : Sd) : sds D ++ a.c = sds (D ++ [a]) := fl_one D a

theorem top_made03_ok (l : List Int) (hl : U16ok l) (k : Nat) (hk : k ≤ 1000) (m : Nat) (hm : m ≤ 8) (ra s : Nat) (K : AEnd → Heap → Prop)
    (hK : ∀ (h : Hul) (t : List Int) (k' : Nat), h.Valid → h.k ≤ m → t ∈ h.truths h.every → k' ≤ k + 1000 → K (.ret (.tup [h.v, L t])) (hpV [(ra, .row [.int .i64 k'] s)])) :
    ACalls Pg fn_top_made03 [drawV ra s l, .int .i64 m] (hpV [(ra, .row [.int .i64 k] s)]) K := by
  obtain ⟨F, hF⟩ : ∃ F, ra < F := ⟨ra + 1, by omega⟩
  have e1 : ∀ k, ¬ F + k = ra := fun k => by omega
  have e2 : ∀ k, ¬ ra = F + k := fun k => by omega
  refine top_made03.enter F (by simp) ?_
  simp [e1, e2]
  intro s4
  refine FCall.draw hl (by omega) (k := k) (by omega) (by simp [e1, e2]) (by simp [e1, e2]) fun r0 hr0 => ?_
  simp [e1, e2]
  (repeat first | refine And.intro (by omega) ?_ | refine And.intro (Fits.of (by omega) (by omega)) ?_)
  refine Lp.intro' (σ := List Sm × List Int × Nat × Nat × Nat) (inv := fun x => x.1.length ≤ r0 + 1 ∧ (∀ a ∈ x.1, Hul.OkS a) ∧ x.2.1 ∈ allT (x.1.map (·.m)) ∧ x.2.2.2.2 ≤ k + 1 + 5 * x.1.length)
    (vw := fun x => [(0, drawV ra s l), (1, .int .i64 m), (4, .ptr (F+4) 0 (s4+1)), (5, gS 1 (F+41) x.1.length x.2.2.2.1), (14, .int .i64 (1 + r0)), (15, .int .i64 x.1.length)])
    (hp := fun x => [(ra, .row [.int .i64 x.2.2.2.2] s), (F+4, .row [gS 3 (F+37) x.1.length x.2.2.1, .nils] (s4+1)), (F+37, gO x.1.length (sms x.1) x.2.2.1), (F+41, gO x.1.length (ints x.2.1) x.2.2.2.1)])
    (ms := fun x => r0 + 1 - x.1.length) ([], [], 0, 0, k + 1) (by simp [allT])
    (Sl.wk 5 .es (by simpa using ALe.nils_es) (Sl.rowLe (cells := [.nils, .nils]) (s := s4 + 1) (F+4) [.es, .nils] (by simp [e1, e2]) ⟨ALe.nils_es, ALe.refl _, trivial⟩ (Sl.refl ⟨rfl, by simp, by simp [e1, e2]⟩))) ?_
  rintro ⟨S, t, st1, st2, k1⟩ ⟨hS, hok, ht, hk1⟩ J hJ
  simp only at hS hok ht hk1
  have htl : t.length = S.length := by have := (mem_allT.1 ht).1; simpa using this
  by_cases hc : S.length < r0 + 1
  · have hci : (S.length : Int) < 1 + r0 := by omega
    simp [hci, e1, e2]
    refine FCall.draw hl (by omega) (k := k1) (by omega) (by simp [e1, e2]) (by simp [e1, e2]) fun r1 hr1 => ?_
    simp [e1, e2]
    refine FCall.draw hl (by omega) (k := k1 + 1) (by omega) (by simp [e1, e2]) (by simp [e1, e2]) fun r2 hr2 => ?_
    simp [e1, e2]
    (repeat first | refine And.intro (by omega) ?_ | refine And.intro (Fits.of (by omega) (by omega)) ?_)
    refine FCall.draw hl (by omega) (k := k1 + 1 + 1) (by omega) (by simp [e1, e2]) (by simp [e1, e2]) fun r3 hr3 => ?_
    simp [e1, e2]
    intro s6
    have hsp : sms S ++ [AVal.int .i64 r1, .int .i64 ((r2 : Int) - 1), .int .i64 r3] = sms (S ++ [⟨r1, (r2 : Int) - 1, r3⟩]) := sms_push S ⟨r1, (r2 : Int) - 1, r3⟩
    have hoka : Hul.OkS ⟨r1, (r2 : Int) - 1, r3⟩ := by unfold Hul.OkS; simp only []; omega
    refine FCall.draw hl (by omega) (k := k1 + 1 + 1 + 1) (by omega) (by simp [e1, e2]) (by simp [e1, e2]) fun r4 hr4 => ?_
    by_cases h4 : r4 = 0
    · subst h4
      simp [e1, e2]
      (repeat first | refine And.intro (by omega) ?_ | refine And.intro (Fits.of (by omega) (by omega)) ?_)
      refine FCall.draw hl (by omega) (k := k1 + 1 + 1 + 1 + 1) (by omega) (by simp [e1, e2]) (by simp [e1, e2]) fun r5 hr5 => ?_
      simp [e1, e2]
      intro s36 s37
      refine xApN_gS (cells := sms S) (by simp [e1, e2]) (by simp) (by omega) (by omega) ?_
      rw [hsp]
      simp [e1, e2]
      intro s40 s41
      refine xApN_gS (cells := ints t) (by simp [e1, e2]) (by simp [htl]) (by omega) (by omega) ?_
      simp [e1, e2]
      (repeat first | refine And.intro (by omega) ?_ | refine And.intro (Fits.of (by omega) (by omega)) ?_)
      refine hJ.next (S ++ [⟨r1, (r2 : Int) - 1, r3⟩], t ++ [(r5 : Int)], s37 + 1, s41 + 1, k1 + 1 + 1 + 1 + 1 + 1) ⟨by simp; omega, ?_, ?_, by simp; omega⟩ (by simp; omega) (by simp [e1, e2]) (by simp [e1, e2])
      · intro b hb
        rcases List.mem_append.1 hb with hb | hb
        · exact hok b hb
        · obtain rfl : b = ⟨r1, (r2 : Int) - 1, r3⟩ := by simpa using hb
          exact hoka
      · rw [List.map_append]
        exact allT_push ht ⟨by omega, by simp only []; omega⟩
    · simp [h4, e1, e2]
      intro s36 s37
      refine xApN_gS (cells := sms S) (by simp [e1, e2]) (by simp) (by omega) (by omega) ?_
      rw [hsp]
      simp [e1, e2]
      intro s40 s41
      refine xApN_gS (cells := ints t) (by simp [e1, e2]) (by simp [htl]) (by omega) (by omega) ?_
      simp [e1, e2]
      (repeat first | refine And.intro (by omega) ?_ | refine And.intro (Fits.of (by omega) (by omega)) ?_)
      refine hJ.next (S ++ [⟨r1, (r2 : Int) - 1, r3⟩], t ++ [0], s37 + 1, s41 + 1, k1 + 1 + 1 + 1 + 1) ⟨by simp; omega, ?_, ?_, by simp; omega⟩ (by simp; omega) (by simp [e1, e2]) (by simp [e1, e2])
      · intro b hb
        rcases List.mem_append.1 hb with hb | hb
        · exact hok b hb
        · obtain rfl : b = ⟨r1, (r2 : Int) - 1, r3⟩ := by simpa using hb
          exact hoka
      · rw [List.map_append]
        exact allT_push ht ⟨by omega, by simp only []; omega⟩
  have hSl : S.length = r0 + 1 := by omega
  have hci : ¬ (S.length : Int) < 1 + r0 := by omega
  have hS0 : 0 < S.length := by omega
  have htb : ∀ i, 0 ≤ ofL t i ∧ ofL t i ≤ 4 := by
    intro i
    by_cases hi : i < S.length
    · have h1 := (mem_allT.1 ht).2 i (by simpa using hi)
      have h2 := hok S[i] (by simp)
      unfold Hul.OkS at h2
      have : ofL (S.map (·.m)) i = S[i].m := by rw [← ofL_at _ (by simpa using hi)]; simp
      omega
    · rw [ofL_none _ (by omega)]; omega
  have hsb : ∀ w : Int, 0 ≤ Hul.sumT t w ∧ Hul.sumT t w ≤ 24 := by
    intro w
    unfold Hul.sumT
    have h1 : ∀ j, j < t.length → 0 ≤ (if inS w j then ofL t j else 0) ∧ (if inS w j then ofL t j else 0) ≤ 4 := fun j _ => by have := htb j; split <;> omega
    have h2 := sumN_nonneg fun j hj => (h1 j hj).1
    have h3 := sumN_le fun j hj => (h1 j hj).2
    constructor
    · exact h2
    · omega
  simp [hci]
  refine hJ.exitS (Sl.gSH (F+37) (m := S.length) (cells := sms S) (s := st1) hS0 (by simp [e1, e2]) (Sl.gSH (F+41) (m := S.length) (cells := ints t) (s := st2) hS0 (by simp [e1, e2]) (Sl.refl ?_)))
  simp [e1, e2, gS_pos hS0]
  (repeat first | refine And.intro (by omega) ?_ | refine And.intro (Fits.of (by omega) (by omega)) ?_)
  refine FCall.draw hl (by omega) (k := k1) (by omega) (by simp [e1, e2]) (by simp [e1, e2]) fun r9 hr9 => ?_
  simp [e1, e2]
  have hmul : ∀ (a : Sm) (r2 : Nat), Hul.OkS a → (r2 : Int) < 7 → -3 ≤ a.s * ((r2 : Int) - 3) ∧ a.s * ((r2 : Int) - 3) ≤ 3 := fun a r2 ha hr => by
    have : a.s = -1 ∨ a.s = 0 ∨ a.s = 1 := by unfold Hul.OkS at ha; omega
    rcases this with e | e | e <;> rw [e] <;> omega
  refine Lp.intro' (σ := List Sd × Nat × Nat) (inv := fun x => x.1.length ≤ r9 ∧ (∀ a ∈ x.1, Hul.OkD a ∧ a.lo ≤ Hul.sumT t ((⟨S, []⟩ : Hul).wet a.d a.l) ∧ Hul.sumT t ((⟨S, []⟩ : Hul).wet a.d a.l) ≤ a.hi) ∧ x.2.2 ≤ k1 + 1 + 4 * x.1.length)
    (vw := fun x => [(0, drawV ra s l), (4, .ptr (F+4) 0 (s4+1)), (5, L t), (47, .int .i64 r9), (48, .int .i64 x.1.length)])
    (hp := fun x => [(ra, .row [.int .i64 x.2.2] s), (F+4, .row [LS S, gS 4 (F+98) x.1.length x.2.1] (s4+1)), (F+98, gO x.1.length (sds x.1) x.2.1)])
    (ms := fun x => r9 - x.1.length) ([], 0, k1 + 1) (by simp)
    (Sl.rowLe (cells := [LS S, .nils]) (s := s4 + 1) (F+4) [LS S, .es] (by simp [e1, e2, LS]) ⟨ALe.refl _, ALe.nils_es, trivial⟩ (Sl.refl ⟨rfl, by simp [L, htl, e1, e2], by simp [e1, e2]⟩)) ?_
  rintro ⟨D, st3, k2⟩ ⟨hD, hokD, hk2⟩ J2 hJ2
  simp only at hD hokD hk2
  by_cases hc9 : D.length < r9
  · simp [hc9, e1, e2]
    refine FCall.draw hl (by omega) (k := k2) (by omega) (by simp [e1, e2]) (by simp [e1, e2]) fun r1 hr1 => ?_
    simp [e1, e2]
    refine FCall.draw hl (by omega) (k := k2 + 1) (by omega) (by simp [e1, e2]) (by simp [e1, e2]) fun r2 hr2 => ?_
    simp [e1, e2]
    (repeat first | refine And.intro (by omega) ?_ | refine And.intro (Fits.of (by omega) (by omega)) ?_)
    have hat : Hul.At r1 ((r2 : Int) - 3) := by unfold Hul.At; omega
    intro s8
    have hsum : ∀ j, j ≤ 6 → 0 ≤ (sumN j fun i => if (⟨S, []⟩ : Hul).wetP r1 ((r2 : Int) - 3) i then ofL t i else 0) ∧ (sumN j fun i => if (⟨S, []⟩ : Hul).wetP r1 ((r2 : Int) - 3) i then ofL t i else 0) ≤ 24 := by
      intro j hj
      have h1 : ∀ i, i < j → 0 ≤ (if (⟨S, []⟩ : Hul).wetP r1 ((r2 : Int) - 3) i then ofL t i else 0) ∧ (if (⟨S, []⟩ : Hul).wetP r1 ((r2 : Int) - 3) i then ofL t i else 0) ≤ 4 := fun i _ => by have := htb i; split <;> omega
      have h2 := sumN_nonneg fun j hj => (h1 j hj).1
      have h3 := sumN_le fun j hj => (h1 j hj).2
      constructor
      · exact h2
      · omega
    refine Lp.intro (σ := Nat) (inv := fun j => j ≤ S.length)
      (vw := fun j => [(0, drawV ra s l), (4, .ptr (F+4) 0 (s4+1)), (5, L t), (47, .int .i64 r9), (48, .int .i64 D.length), (8, .ptr (F+8) 0 (s8+1)), (9, .int .i64 (sumN j fun i => if (⟨S, []⟩ : Hul).wetP r1 ((r2 : Int) - 3) i then ofL t i else 0)), (57, LS S), (58, .int .i64 S.length), (59, .int .i64 j)])
      (hp := fun j => [(ra, .row [.int .i64 ((k2 + 1 + 1 : Nat) : Int)] s), (F+4, .row [LS S, gS 4 (F+98) D.length st3] (s4+1)), (F+98, gO D.length (sds D) st3), (F+8, .row [.int .i64 r1, .int .i64 ((r2 : Int) - 3), .int .i64 0, .int .i64 0] (s8+1))])
      (ms := fun j => S.length - j) 0 (by omega) (by simp [e1, e2, sumN]) (by simp [e1, e2]) ?_
    intro j hj J3 hJ3
    by_cases hjc : j < S.length
    · obtain ⟨a, ha⟩ : ∃ a, S[j] = a := ⟨_, rfl⟩
      have hag : S[j]? = some a := by rw [List.getElem?_eq_getElem hjc, ha]
      have hoa := hok a (by rw [← ha]; exact List.getElem_mem hjc)
      have hma := hmul a r2 hoa hr2
      have hjt : j < t.length := by omega
      have hp : (⟨S, []⟩ : Hul).wetP r1 ((r2 : Int) - 3) j = decide (a.h ≤ r1 + a.s * ((r2 : Int) - 3)) := by unfold Hul.wetP; simp only [hag]
      have h3 : 3 ≤ (S.length - j) * 3 := by omega
      have hsj := hsum (j + 1) (by omega)
      have hstep : (sumN (j + 1) fun i => if (⟨S, []⟩ : Hul).wetP r1 ((r2 : Int) - 3) i then ofL t i else 0) = (sumN j fun i => if (⟨S, []⟩ : Hul).wetP r1 ((r2 : Int) - 3) i then ofL t i else 0) + if (⟨S, []⟩ : Hul).wetP r1 ((r2 : Int) - 3) j then ofL t j else 0 := rfl
      rw [hp] at hstep
      by_cases hwet : a.h ≤ r1 + a.s * ((r2 : Int) - 3)
      · simp [hwet] at hstep
        obtain ⟨y, hy⟩ : ∃ y, t[j] = y := ⟨_, rfl⟩
        have hyg : t[j]? = some y := by rw [List.getElem?_eq_getElem hjt, hy]
        rw [← ofL_at t hjt, hy] at hstep
        simp [hjc, ha, hag, h3, e1, e2, hwet, hyg, hy]
        intro s11
        refine ⟨Fits.of (by omega) (by omega), Fits.of (by omega) (by omega), by omega, ?_⟩
        (repeat first | refine And.intro (by omega) ?_ | refine And.intro (Fits.of (by omega) (by omega)) ?_)
        exact hJ3.next (j + 1) (by omega) (by omega) (by simp [hstep]) (by simp [e1, e2])
      · simp [hwet] at hstep
        simp [hjc, ha, hag, h3, e1, e2, hwet]
        intro s11
        refine ⟨Fits.of (by omega) (by omega), Fits.of (by omega) (by omega), ?_⟩
        (repeat first | refine And.intro (by omega) ?_ | refine And.intro (Fits.of (by omega) (by omega)) ?_)
        exact hJ3.next (j + 1) (by omega) (by omega) (by simp [hstep]) (by simp [e1, e2])
    obtain rfl : j = S.length := by omega
    simp
    refine hJ3.exit ?_
    simp [e1, e2]
    have hnS : (sumN S.length fun i => if (⟨S, []⟩ : Hul).wetP r1 ((r2 : Int) - 3) i then ofL t i else 0) = Hul.sumT t ((⟨S, []⟩ : Hul).wet r1 ((r2 : Int) - 3)) := (sumT_wet (h := ⟨S, []⟩) htl r1 ((r2 : Int) - 3)).symm
    rw [hnS]
    obtain ⟨n, hn⟩ : ∃ n, n = Hul.sumT t ((⟨S, []⟩ : Hul).wet r1 ((r2 : Int) - 3)) := ⟨_, rfl⟩
    have hnb := hsb ((⟨S, []⟩ : Hul).wet r1 ((r2 : Int) - 3))
    rw [← hn] at hnb ⊢
    refine FCall.draw hl (by omega) (k := k2 + 1 + 1) (by omega) (by simp [e1, e2]) (by simp [e1, e2]) fun r3 hr3 => ?_
    simp [e1, e2]
    (repeat first | refine And.intro (by omega) ?_ | refine And.intro (Fits.of (by omega) (by omega)) ?_)
    refine FCall.draw hl (by omega) (k := k2 + 1 + 1 + 1) (by omega) (by simp [e1, e2]) (by simp [e1, e2]) fun r4 hr4 => ?_
    simp [e1, e2]
    (repeat first | refine And.intro (by omega) ?_ | refine And.intro (Fits.of (by omega) (by omega)) ?_)
    refine PCallK.intro (PInv.func (top_span03_ok _ _)) ?_
    simp [SP2, e1, e2]
    intro s97 s98
    refine xApN_gS (cells := sds D) (by simp [e1, e2]) (by simp) (by omega) (by omega) ?_
    have hdp : sds D ++ [AVal.int .i64 r1, .int .i64 ((r2 : Int) - 3), .int .i64 (max 0 (n - r3)), .int .i64 (min 24 (n + r4))] = sds (D ++ [⟨r1, (r2 : Int) - 3, max 0 (n - r3), min 24 (n + r4)⟩]) := sds_push D ⟨r1, (r2 : Int) - 3, max 0 (n - r3), min 24 (n + r4)⟩
    rw [hdp]
    simp [e1, e2]
    (repeat first | refine And.intro (by omega) ?_ | refine And.intro (Fits.of (by omega) (by omega)) ?_)
    refine hJ2.next (D ++ [⟨r1, (r2 : Int) - 3, max 0 (n - r3), min 24 (n + r4)⟩], s98 + 1, k2 + 1 + 1 + 1 + 1) ⟨by simp; omega, ?_, by simp; omega⟩ (by simp; omega) (by simp [e1, e2]) (by simp [e1, e2])
    intro b hb
    rcases List.mem_append.1 hb with hb | hb
    · exact hokD b hb
    · obtain rfl : b = ⟨r1, (r2 : Int) - 3, max 0 (n - r3), min 24 (n + r4)⟩ := by simpa using hb
      simp only [← hn]
      unfold Hul.OkD
      simp only []
      refine ⟨⟨hat, ?_⟩, ?_⟩ <;> omega
  simp [hc9]
  refine hJ2.exit ?_
  simp [e1, e2]
  refine RetV.le (VLe.tup (LLe.cons (VLe.agg (LLe.cons (VLe.refl _ _) (LLe.cons (VLe.gS (cells := sds D) (by simp [e1, e2]) (by simp)) (LLe.nil _))) rfl) (LLe.cons (VLe.refl _ _) (LLe.nil _))) rfl) ?_
  refine RetV.view [(ra, .row [.int .i64 k2] s)] (by simp [e1, e2]) ?_
  have hva : (⟨S, D⟩ : Hul).Valid := ⟨hS0, by show S.length ≤ 6; omega, by show D.length ≤ 8; omega, hok, fun a ha => (hokD a ha).1⟩
  refine hK ⟨S, D⟩ t k2 hva (by show D.length ≤ m; omega) (Hul.mem_truths.2 ⟨ht, fun a ha => (hokD a ha).2⟩) (by omega)
end Go.Cw
end

/- The document's hull, rake and ship; what the document fixes of them. -/
section
set_option maxRecDepth 100000
set_option linter.unusedSimpArgs false
namespace Go.Cw
open Go Go.Proofs

def hsm : Hul := ⟨[⟨2, 0, 3⟩, ⟨5, -1, 2⟩, ⟨5, 1, 4⟩], [⟨3, 0, 1, 2⟩, ⟨6, 0, 4, 4⟩]⟩
theorem hsm_valid : hsm.Valid := ⟨by simp [hsm, Hul.n], by simp [hsm, Hul.n], by simp [hsm, Hul.k], by decide, by decide⟩
theorem hsm_truths : hsm.truths hsm.every = [[1, 0, 3], [1, 1, 2], [1, 2, 1], [2, 0, 2], [2, 1, 1], [2, 2, 0]] := by decide +kernel
theorem hsm_sets : hsm.setsL = [3, 5, 7] := by
  unfold Hul.setsL
  rw [hsm_truths]
  exact sortI_eq (by decide +kernel) (by unfold SortedI; decide +kernel)
def rsm : Rak := ⟨hsm, [4, 3, 5]⟩
theorem rsm_small : rsm.Small := ⟨⟨by simp [rsm, hsm], by simp [rsm, hsm]⟩, by simp [rsm]⟩
theorem rsm_valid : rsm.Valid := ⟨hsm_valid, by simp [rsm, hsm, Hul.n], by decide⟩
theorem rsm_worst : rsm.worstV = .tup [.int .i64 8, .int .i64 0] := by
  have e1 : rsm.S = [3, 5, 7] := hsm_sets
  have e2 : rsm.errE [] true = 0 := by
    unfold Rak.errE
    rw [if_pos rsm_valid, e1]
    decide +kernel
  unfold Rak.worstV
  rw [e2, e1, show rsm.n = 3 from rfl, show rsm.F = ofL [4, 3, 5] from rfl, show Rk.planQ 3 (ofL [4, 3, 5]) false [3, 5, 7] 0 = (1, 8) by decide +kernel]
  rfl
def asm : Agn := ⟨hsm, [4, 3, 5], 10, [⟨0, 100, 0⟩, ⟨1, 90, 1⟩, ⟨2, 10, 0⟩], 400⟩
theorem asm_small : asm.Small := ⟨⟨by simp [asm, hsm], by simp [asm, hsm]⟩, by simp [asm], by simp [asm]⟩
theorem asm_valid : asm.Valid := ⟨hsm_valid, by simp [asm, hsm, Hul.k], by simp [asm, hsm, Hul.n], by decide, by simp [asm], by simp [asm], by simp [asm], by decide⟩
theorem asm_S : asm.S = [3, 5, 7] := hsm_sets
theorem asm_errL : asm.errL true = 0 := Agn.errL_zero.2 ⟨asm_valid, rfl, by rw [asm_S]; simp⟩
theorem asm_yard : asm.yardV = .tup [.int .i64 1, .int .i64 0] := by
  have e : asm.yardN = 1 := by
    unfold Agn.yardN
    rw [asm_S]
    decide +kernel
  unfold Agn.yardV
  rw [asm_errL, e]
  simp
theorem asm_pays : asm.paysV = .tup [SP2 (0, 50), .int .i64 0] := by
  have e : asm.spanP (fun i => !Ag.pr asm.w asm.t i) = (0, 5) := by
    unfold Agn.spanP
    rw [asm_S]
    decide +kernel
  unfold Agn.paysV Agn.paysP
  rw [asm_errL, e]
  rfl
theorem top_hull03_ok : APure Pg fn_top_hull03 [] hsm.v := by
  refine top_hull03.pure (by simp) ?_
  simp
  intro s0 s4
  refine PCallK.intro (PInv.func (top_span03_ok _ _)) ?_
  simp [SP2]
  refine PCallK.intro (PInv.func (top_span03_ok _ _)) ?_
  simp [SP2]
  intro s9
  refine RetV.frz 4 rfl (RetV.frz 9 rfl (RetV.refl ?_))
  simp [hsm, LS, LD, sms, sds, fl, Sm.c, Sd.c]
theorem top_alive03_ok : APure Pg fn_top_alive03 [] (.bool true) := by
  refine top_alive03.pure (by simp) ?_
  simp
  refine PCallK.intro (PInv.func top_hull03_ok) ?_
  have hne : ¬ hsm.truths hsm.every = [] := by rw [hsm_truths]; simp
  have e1 : hsm.setsV = .tup [L [3, 5, 7], .int .i64 0] := by simp [Hul.setsV, hsm_valid, hne, hsm_sets]
  have c1 := leak_Sets_ok hsm hsm_valid.small
  rw [e1] at c1
  have c2 := rake_Worst_ok rsm rsm_small
  rw [rsm_worst] at c2
  simp
  refine PCallK.intro (PInv.func (first := []) (cap := []) (args := [hsm.v]) c1) ?_
  simp
  refine PCallK.intro (PInv.func top_hull03_ok) ?_
  simp
  intro s12
  refine FCall.frz1 12 rfl (v := .tup [.int .i64 8, .int .i64 0]) ?_ (by simp) ?_
  · have := PInv.func (first := []) (cap := []) (args := [rsm.v]) c2
    simpa [rsm, Rak.v, L] using this
  simp
  intro s18
  refine FCall.frz1 18 rfl (v := .bool true) ?_ (by simp) ?_
  · simpa [L] using PInv.func (first := []) (cap := []) (args := [L [3, 5, 7], L [3, 5, 7]]) (ref01_Ints_ok [3, 5, 7] [3, 5, 7] (by simp) (by simp))
  simp
  exact RetV.refl rfl
theorem top_alive11_ok : APure Pg fn_top_alive11 [] (.bool true) := by
  refine top_alive11.pure (by simp) ?_
  simp
  refine PCallK.intro (PInv.func top_hull03_ok) ?_
  have c1 := again_Yard_ok asm asm_small
  have c2 := again_Pays_ok asm asm_small
  rw [asm_yard] at c1
  rw [asm_pays] at c2
  simp
  intro s7 s11 s1
  refine Sl.frzHp 7 rfl (Sl.frzHp 11 rfl (Sl.refl ?_))
  simp
  refine PCallK.intro (PInv.func (first := []) (cap := []) (args := [asm.v]) c1) ?_
  simp
  refine PCallK.intro (PInv.func (first := []) (cap := []) (args := [asm.v]) c2) ?_
  simp [SP2]
  intro s4
  refine PCallK.intro (PInv.func (top_span03_ok 0 50)) ?_
  simp [SP2]
  refine PCallK.intro (PInv.func top_alive03_ok) ?_
  simp
  exact RetV.refl rfl
end Go.Cw
end

/- Raking as is told: what is found. -/
section
set_option maxRecDepth 100000
set_option linter.unusedSimpArgs false
namespace Go.Cw
open Go Go.Proofs

namespace Rak
variable {r : Rak}
theorem errE_mem (hv : r.Valid) {l : List (Int × Bool)} (hf : Rk.Fnd r.n l) {s : Int} (hs : s ∈ Rk.agF r.S l) : r.errE l true = 0 := by
  rw [errE_of hv hf rfl, if_neg]
  intro h; rw [h] at hs; cases hs
theorem knownV_mem (hv : r.Valid) {l : List (Int × Bool)} (hf : Rk.Fnd r.n l) {s : Int} (hs : s ∈ Rk.agF r.S l) : r.knownV l = .tup [L (Rk.agF r.S l), .int .i64 0] := by
  unfold knownV
  rw [errE_mem hv hf hs]
  simp
end Rak
section
variable {F n₀ : Nat} {inr : Bool} {keep : List Nat} {fa fl : List It} {t : Option Nat} {K : KT} {Q : Post} {tm : TM} {df : DF} {h : Heap}
theorem FCall.nextG {r : Rak} (hs : r.Small) (l : List (Int × Bool)) (hl : l.length ≤ 40) (nm st : Nat) (hw : h nm = gO l.length (fds l) st) (f : FaOk F fa tm h)
    (next : FlOk fl (putD tm t (r.nextV l)) (upd h nm (gO l.length (fds l) st)) ∧ K (putD tm t (r.nextV l)) df (upd h nm (gO l.length (fds l) st))) :
    FCall ⟨Pg, F, n₀, inr, keep⟩ (.func (.func fn_rake_Next) [] []) [r.v, gS 2 nm l.length st] fa fl t K Q tm df h := by
  have c := rake_Next_ok r hs l hl
  have hz : ZF (r.nextV l) := ZF.tup fun a ha => by
    simp only [List.mem_cons, List.mem_singleton, List.not_mem_nil, or_false] at ha
    rcases ha with rfl | rfl | rfl <;> exact ZF.int _ _
  by_cases h0 : l.length = 0
  · have hd : h nm = .dead := by rw [hw, gO, if_pos h0]
    rw [gO, if_pos h0, upd_dead hd] at next
    have hl0 : LK l = .vl 0 [] := by rw [List.eq_nil_of_length_eq_zero h0]; rfl
    refine FCall.pure' (v := r.nextV l) (fun hh => AInvoke.ale (ALe.refl _) (args' := [r.v, LK l]) ⟨ALe.refl _, by rw [hl0, gS, if_pos h0]; exact ALe.es_vl, trivial⟩ (PInv.func (first := []) (cap := []) (args := [r.v, LK l]) c hh)) f next.1 next.2
  · have hr : h nm = .row (fds l) st := by rw [hw, gO, if_neg h0]
    rw [gO, if_neg h0] at next
    rw [gS, if_neg h0]
    refine FCall.cps [(nm, .row (fds l) st)] (fun _ : Unit => r.nextV l) (fun _ => [(nm, .row (fds l) st)]) (fun _ => True) (fun K' hK' => ?_) ⟨hr, trivial⟩ (fun _ => rfl) f (fun _ _ => next)
    refine AInvoke.peek (K0 := fun e h' => e = .ret (r.nextV l) ∧ h' = nilH) nm ?_ fun e h' he => ?_
    · have := PInv.func (first := []) (cap := []) (args := [r.v, LK l]) c nilH
      simpa [LK] using this
    · obtain ⟨rfl, rfl⟩ := he
      exact ⟨_, rfl, hz, RowsZ.nil, rfl, hK' () trivial⟩
end
theorem top_followed03_ok (r : Rak) (hs : r.Small) (hv : r.Valid) (t : Int) (ht : t ∈ r.S) (K : AEnd → Heap → Prop)
    (hK : ∀ (l : List (Int × Bool)) (x : Int), l.length ≤ 6 → Rk.Fnd r.n l → Rk.agF r.S l = [t] → K (.ret (.tup [LK l, .int .i64 x, .bool true])) nilH) : ACalls Pg fn_top_followed03 [r.v, .int .i64 t] nilH K := by
  have hn6 := hv.n6
  have hfn : r.f.length = r.n := rfl
  have htb := Rak.S_in hv t ht
  have h2p := two_pow_le hn6
  have e6 : (2 : Int) ^ 6 = 64 := by decide
  have hF1 : ∀ i, i < r.n → 1 ≤ r.F i := fun i hi => by have := hv.fat hi; unfold Rak.F; omega
  refine top_followed03.enter 400 (by simp) ?_
  simp
  intro s2
  refine Lp.intro' (σ := List (Int × Bool) × Int × Nat × Int) (inv := fun x => x.1.length ≤ r.n ∧ Rk.Fol r.n r.F r.S t x.1 x.2.1 ∧ 0 ≤ x.2.2.2 ∧ x.2.2.2 ≤ 100 * x.1.length) (vw := fun x => [(1, .int .i64 t), (2, .ptr 402 0 (s2+1)), (4, gS 2 451 x.1.length x.2.2.1), (5, .int .i64 x.2.2.2), (6, .bool false), (15, .int .i64 r.n), (16, .int .i64 x.1.length)])
    (hp := fun x => [(402, .row r.cells (s2+1)), (451, gO x.1.length (fds x.1) x.2.2.1)]) (ms := fun x => r.n - x.1.length) ([], _, 0, 0) ⟨by simp, Rk.Fol.start, by simp, by simp⟩ (Sl.wk 4 .es (by simpa using ALe.nils_es) (Sl.refl ⟨by simp, by simp [hfn], by simp [Rak.cells]⟩)) ?_
  rintro ⟨l, left, st, x⟩ ⟨hln, hF, hx0, hx1⟩ J hJ
  simp only at hln hF hx0 hx1
  by_cases hkc : l.length < r.n
  · have hE := Rak.errE_mem hv hF.fnd (hF.mem ht)
    by_cases h1 : (Rk.agF r.S l).length = 1
    · have hN : r.nextV l = .tup [.int .i64 0, .int .i64 0, .int .i64 4] := by
        unfold Rak.nextV Rak.nextP
        rw [hE, if_pos rfl, if_pos (by omega)]
        rfl
      simp [hkc, Rak.cells]
      refine FCall.nextG hs l (by omega) 451 st (by simp) (by simp) ?_
      rw [hN]
      simp
      refine hJ.ret ?_
      simp
      exact RetV.le (VLe.tup_gS (cells := fds l) (by simp) (by simp)) (RetV.view [] (by simp) (hK l x (by omega) hF.fnd (hF.one ht h1)))
    · obtain ⟨i, hi⟩ : ∃ i, i = (Rk.planQ r.n r.F false (Rk.agF r.S l) (Rk.fq l)).1 := ⟨_, rfl⟩
      obtain ⟨m, hm⟩ : ∃ m, m = (Rk.planQ r.n r.F false (Rk.agF r.S l) (Rk.fq l)).2 := ⟨_, rfl⟩
      obtain ⟨hin, hqi, hfm, hfq, hF'⟩ := hF.step hF1 (Rak.S_in hv) (Rak.S_lt (r := r)) ht h1 hi
      have h2 := hF.two ht h1
      have hFi := Rak.F_in hv i hin
      rw [← hm] at hfm hF'
      have hN : r.nextV l = .tup [.int .i64 i, .int .i64 m, .int .i64 0] := by
        unfold Rak.nextV Rak.nextP
        rw [hE, if_pos rfl, if_neg (by omega), ← hi, ← hm]
      have hdv : 0 ≤ t / 2 ^ i := Int.ediv_nonneg htb.1 (by have := two_pow_pos i; omega)
      have hand := bitI_and1 hdv (by have := Int.ediv_le_self (2 ^ i) htb.1; omega)
      have hmod : decide (t / 2 ^ i % 2 = 1) = inS t i := rfl
      have hfl : i < r.f.length := hin
      have hFe : r.f[i] = r.F i := by unfold Rak.F; rw [ofL_at _ hfl]
      have hFe' : r.f[i]? = some (r.F i) := by rw [List.getElem?_eq_getElem hfl, hFe]
      have hpush := fds_push l ((i : Int), inS t i)
      obtain ⟨l', hl'⟩ : ∃ l', l' = l ++ [((i : Int), inS t i)] := ⟨_, rfl⟩
      rw [← hl'] at hF' hpush
      have hll : l'.length = l.length + 1 := by rw [hl']; simp
      have hi64 : (i : Int) < 64 := by omega
      simp [hkc, Rak.cells]
      refine FCall.nextG hs l (by omega) 451 st (by simp) (by simp) ?_
      rw [hN]
      simp [show ¬ (i : Int) < 0 by omega, show ¬ r.n ≤ i by omega, hin, hfn, hand, hmod, hi64]
      intro s50 s51
      refine xApN_gS (cells := fds l) (by simp) (by simp) (by omega) (by omega) ?_
      simp only [] at hpush
      rw [show fds l ++ [AVal.int IntKind.i64 (i : Int), .bool (inS t i)] = fds l' from hpush]
      simp [hfl, hFe, hFe', hin]
      (repeat first | refine And.intro (by omega) ?_ | refine And.intro (Fits.of (by omega) (by omega)) ?_)
      exact hJ.next (l', m - r.F i, s51 + 1, x + r.F i) ⟨by simp only [hll]; omega, hF', by simp only []; omega, by simp only [hll]; omega⟩ (by simp only [hll]; omega) (by simp [hll]) (by simp [Rak.cells, hll])
  have h1 := hF.full (Rak.S_in hv) (Rak.S_lt (r := r)) ht (by omega)
  have hE := Rak.errE_mem hv hF.fnd (hF.mem ht)
  have hN : r.nextV l = .tup [.int .i64 0, .int .i64 0, .int .i64 4] := by
    unfold Rak.nextV Rak.nextP
    rw [hE, if_pos rfl, if_pos (by omega)]
    rfl
  simp [hkc]
  refine hJ.exit ?_
  simp [Rak.cells]
  refine FCall.nextG hs l (by omega) 451 st (by simp) (by simp) ?_
  rw [hN]
  simp
  exact RetV.le (VLe.tup_gS (cells := fds l) (by simp) (by simp)) (RetV.view [] (by simp) (hK l x (by omega) hF.fnd (hF.one ht h1)))
end Go.Cw
end

/- Plain facts: a ship of which the truth is known; a sounding that is right of it. -/
section
set_option maxRecDepth 100000
set_option linter.unusedSimpArgs false
namespace Go.Cw
open Go Go.Proofs

namespace Agn
variable {a : Agn}
def withS (a : Agn) (s : Sd) : Agn := ⟨a.h.more s, a.f, a.c, a.w, a.t⟩
theorem Valid.small {a : Agn} (hv : a.Valid) : a.Small := ⟨hv.h.small, by have := hv.n6; unfold n at this; omega, by have := hv.w12; omega⟩
theorem promV_eq (hv : a.Valid) : a.promV = .tup [.int .i64 (a.under a.t), .int .i64 0] := by
  have hO : a.errO true = 0 := Agn.errO_zero.2 ⟨hv, rfl⟩
  simp [promV, hO]
theorem mem_lk (hv : a.Valid) {t : List Int} (ht : t ∈ a.h.truths a.h.every) : leaksT t ∈ a.S := mem_S.2 ⟨t, ht, rfl⟩
theorem S_ne {t : List Int} (ht : t ∈ a.h.truths a.h.every) : a.S ≠ [] := List.ne_nil_of_mem (mem_S.2 ⟨t, ht, rfl⟩)
theorem right_told (hv : a.Valid) {t : List Int} (ht : t ∈ a.h.truths a.h.every) {d l : Int} (hb : a.setB d l = true) {x : Int} (hx : x = Hul.sumT t (a.h.wet d l)) :
    (a.withS ⟨d, l, x, x⟩).S ≠ [] ∧ (a.withS ⟨d, l, x, x⟩).yardN = if Ag.yesS a.n (Ag.pr a.w a.t) (leaksT t) then 2 else 0 := by
  have hmem : leaksT t ∈ (a.withS ⟨d, l, x, x⟩).S := by
    refine mem_S.2 ⟨t, ?_, rfl⟩
    have h1 : (a.withS ⟨d, l, x, x⟩).h.truths (a.withS ⟨d, l, x, x⟩).h.every = _ := Hul.truths_more a.h ⟨d, l, x, x⟩
    rw [h1, List.mem_filter]
    refine ⟨ht, decide_eq_true ?_⟩
    show x ≤ Hul.sumT t (a.h.wet d l) ∧ Hul.sumT t (a.h.wet d l) ≤ x
    omega
  have hne := List.ne_nil_of_mem hmem
  refine ⟨hne, ?_⟩
  have hxr := sum_rng hv.h ht (a.h.wet d l)
  unfold setB at hb
  rw [List.all_eq_true] at hb
  have h2 := hb x.toNat (List.mem_range.2 (by omega))
  rw [Int.toNat_of_nonneg (by omega)] at h2
  have h3 : a.perB d l x = false := by simpa using h2
  unfold perB at h3
  have hne' : a.soundS d l x ≠ [] := hne
  rw [decide_eq_true hne', Bool.true_and] at h3
  have h4 : Ag.toldV a.n (Ag.pr a.w a.t) (a.soundS d l x) ≠ 1 := of_decide_eq_false h3
  show Ag.toldV a.n (Ag.pr a.w a.t) (a.soundS d l x) = _
  have hr := Ag.told_rng a.n (Ag.pr a.w a.t) (a.soundS d l x)
  have hmem' : leaksT t ∈ a.soundS d l x := hmem
  cases hy : Ag.yesS a.n (Ag.pr a.w a.t) (leaksT t) with
  | true =>
    have : Ag.toldV a.n (Ag.pr a.w a.t) (a.soundS d l x) ≠ 0 := fun h => by
      have := (Ag.told_zero hne').1 h _ hmem'
      rw [hy] at this; cases this
    rw [if_pos rfl]
    omega
  | false =>
    have : Ag.toldV a.n (Ag.pr a.w a.t) (a.soundS d l x) ≠ 2 := fun h => by
      have := (Ag.told_two hne').1 h _ hmem'
      rw [hy] at this; cases this
    rw [if_neg (by simp)]
    omega
theorem withS_valid (hv : a.Valid) {s : Sd} (hs : Hul.OkD s) (hk : a.h.k < 7) : (a.withS s).Valid :=
  ⟨hv.h.more (by omega) hs, by
    show (a.h.snds ++ [s]).length < 8
    unfold Hul.k at hk
    rw [List.length_append]; simp; omega, hv.len, hv.fa, hv.co, hv.to, hv.w12, hv.wo⟩
end Agn
end Go.Cw
end

/- The law TopFree: from what is told of the ship on. -/
section
set_option maxRecDepth 100000
set_option linter.unusedSimpArgs false
namespace Go.Cw
open Go Go.Proofs

theorem top_TopFree_t31 (a : Agn) (hv : a.Valid) (hk : a.h.k < 7) (t : List Int) (ht : t ∈ a.h.truths a.h.every) (Y : Bool) (hY : Ag.yesS a.n (Ag.pr a.w a.t) (leaksT t) = Y) (s4 s6 : Nat) (tm : TM) (h : Heap)
    (hvw : Vw [(4, .ptr 4 0 s4), (5, L t), (6, .ptr 6 0 s6), (7, .int .i64 (leaksT t)), (10, .int .i64 a.yardN), (16, .bool Y)] tm)
    (hh : Hw [(4, .row [LS a.h.seams, LD a.h.snds] s4), (6, .row a.cells s6)] h) (hd : h 276 = .dead) :
    AWops ⟨Pg, 0, 307, false, []⟩ (Then (AW ⟨Pg, 0, 307, false, []⟩ (.seq (.ops top_TopFree.r32) (.seq (.seq (.ops top_TopFree.r33) (.cond (.t 235) (.seq (.ops top_TopFree.r34) .ret) .skip)) (.seq (.ops top_TopFree.r35) (.seq (.seq (.ops top_TopFree.r36) (.cond (.t 243) (.seq (.ops top_TopFree.r37) .ret) .skip)) (.seq (.ops top_TopFree.r38) (.seq (.seq (.ops top_TopFree.r39) (.cond (.t 268) (.seq (.ops top_TopFree.r40) .ret) .skip)) (.seq (.ops top_TopFree.r41) (.seq (.ops top_TopFree.r42) (.seq (.ops top_TopFree.r43) (.seq (.ops top_TopFree.r44) (.seq (.seq (.ops top_TopFree.r45) (.cond (.t 287) (.ops top_TopFree.r46) .skip)) (.seq (.ops top_TopFree.r47) (.seq (.ops top_TopFree.r48) .ret))))))))))))) (RetK [.tmp 2] fun e _ => e = AEnd.ret (.bool true))) (RetK [.tmp 2] fun e _ => e = AEnd.ret (.bool true))) (top_TopFree.r31 ())
      (Then (AW ⟨Pg, 0, 307, false, []⟩ (.seq (.ops top_TopFree.r32) (.seq (.seq (.ops top_TopFree.r33) (.cond (.t 235) (.seq (.ops top_TopFree.r34) .ret) .skip)) (.seq (.ops top_TopFree.r35) (.seq (.seq (.ops top_TopFree.r36) (.cond (.t 243) (.seq (.ops top_TopFree.r37) .ret) .skip)) (.seq (.ops top_TopFree.r38) (.seq (.seq (.ops top_TopFree.r39) (.cond (.t 268) (.seq (.ops top_TopFree.r40) .ret) .skip)) (.seq (.ops top_TopFree.r41) (.seq (.ops top_TopFree.r42) (.seq (.ops top_TopFree.r43) (.seq (.ops top_TopFree.r44) (.seq (.seq (.ops top_TopFree.r45) (.cond (.t 287) (.ops top_TopFree.r46) .skip)) (.seq (.ops top_TopFree.r47) (.seq (.ops top_TopFree.r48) .ret))))))))))))) (RetK [.tmp 2] fun e _ => e = AEnd.ret (.bool true))) (RetK [.tmp 2] fun e _ => e = AEnd.ret (.bool true)) .normal) tm [] h := by
  have cA := PInv.func (first := []) (cap := []) (args := []) top_alive11_ok
  have hs := hv.small
  have hS := Agn.S_ne ht
  have hsS := Agn.mem_lk hv ht
  have he : a.errL true = 0 := Agn.errL_zero.2 ⟨hv, rfl, hS⟩
  have hn6 := hv.n6
  have hk4 : a.h.snds.length < 7 := hk
  obtain ⟨r, hr⟩ : ∃ r : Rak, r = ⟨a.h, a.f⟩ := ⟨_, rfl⟩
  have hrs : r.Small := by rw [hr]; exact ⟨hs.h, hs.f⟩
  have hrv : r.Valid := by rw [hr]; exact ⟨hv.h, hv.len, hv.fa⟩
  have hrS : leaksT t ∈ r.S := by rw [hr]; exact hsS
  have hrc : r.v = .agg [LS a.h.seams, LD a.h.snds, L a.f] := by rw [hr]; rfl
  have cF := fun K hK => top_followed03_ok r hrs hrv (leaksT t) hrS K hK
  rw [hrc] at cF
  have hlk := Agn.S_in hv _ hsS
  have cK := again_Ask_ok a hs
  simp only [Agn.v_agg] at cK
  simp [Vw, Hw] at hvw hh
  simp [hvw, hh, Agn.cells]
  refine FCall.cps (σ := {x : List (Int × Bool) × Int // x.1.length ≤ 6 ∧ Rk.Fnd r.n x.1 ∧ Rk.agF r.S x.1 = [leaksT t]}) [] (fun x => .tup [LK x.1.1, .int .i64 x.1.2, .bool true]) (fun _ => []) (fun _ => True) (fun K' hK' => AInvoke.func (cF K' fun l x h1 h2 h3 => hK' ⟨(l, x), h1, h2, h3⟩ trivial)) (by simp) (fun _ => rfl) (by simp) (fun x _ => ⟨by simp, ?_⟩)
  obtain ⟨⟨l, x⟩, hl6, hlf, hlo⟩ := x
  simp only at hl6 hlf hlo
  have cN := rake_Known_ok r hrs l (by omega)
  rw [Rak.knownV_mem hrv hlf (s := leaksT t) (by rw [hlo]; simp), hlo, hrc] at cN
  simp [hvw, hh, Agn.cells]
  refine PCallK.intro (PInv.func cN) ?_
  simp [hvw, hh, Agn.cells]
  by_cases hy : ¬ a.yardN = 1
  · have e1 : a.askV = .tup [.int .i64 0, .int .i64 0, .int .i64 11] := by simp [Agn.askV, Agn.errA, he, hy]
    rw [e1] at cK
    refine PCallK.intro (PInv.func cK) ?_
    simp [hvw, hh, hy, Agn.cells]
    refine PCallK.intro cA ?_
    simp
    exact RetV.refl rfl
  replace hy := Classical.not_not.1 hy
  cases hak : a.askP with
  | none =>
    have e1 : a.askV = .tup [.int .i64 0, .int .i64 0, .int .i64 4] := by simp [Agn.askV, Agn.errA, he, hy, hak]
    rw [e1] at cK
    refine PCallK.intro (PInv.func cK) ?_
    simp [hvw, hh, hy, Agn.cells]
    refine PCallK.intro cA ?_
    simp
    exact RetV.refl rfl
  | some p =>
    obtain ⟨d, l'⟩ := p
    have h1 := List.find?_some hak
    have hdl : Hul.At d l' := Agn.mem_places.1 (List.mem_of_find?_eq_some hak)
    simp only at h1
    have e1 : a.askV = .tup [.int .i64 d, .int .i64 l', .int .i64 0] := by simp [Agn.askV, Agn.errA, he, hy, hak]
    have cW := leak_Wet_ok a.h hs.h d l'
    have e2 : a.h.wetV d l' = .tup [.int .i64 (a.h.wet d l'), .int .i64 0] := by simp [Hul.wetV, hv.h, hdl]
    rw [e2] at cW
    have hti := truths_in hv.h ht
    have hwb := bits_lt (a.h.wetP d l') a.h.n
    have hwp : (2 : Int) ^ a.h.n ≤ 2 ^ 6 := two_pow_le (by have := hv.h.n6; omega)
    have e6 : (2 : Int) ^ 6 = 64 := by decide
    have e62 : (2 : Int) ^ 62 = 4611686018427387904 := by decide
    have cM := ref01_Sum_ok t ⟨by have := hv.h.n6; omega, fun x hx => by
      obtain ⟨i, hi, rfl⟩ := List.getElem_of_mem hx
      have := hti.2 i
      rw [← ofL_at t hi] at this
      omega⟩ (a.h.wet d l') (by show 0 ≤ bits _ _ ∧ bits _ _ < _; omega)
    obtain ⟨fw, hfw⟩ : ∃ fw, fw = Hul.sumT t (a.h.wet d l') := ⟨_, rfl⟩
    rw [← hfw] at cM
    have hfwr := Agn.sum_rng hv.h ht (a.h.wet d l')
    rw [← hfw] at hfwr
    obtain ⟨hne, htold⟩ := Agn.right_told hv ht h1 hfw
    rw [hY] at htold
    have hvb : (a.withS ⟨d, l', fw, fw⟩).Valid := Agn.withS_valid hv ⟨hdl, by show 0 ≤ fw; omega, Int.le_refl _, by show fw ≤ 24; omega⟩ hk
    have cB := again_Yard_ok (a.withS ⟨d, l', fw, fw⟩) hvb.small
    have e3 : (a.withS ⟨d, l', fw, fw⟩).yardV = .tup [.int .i64 (if Y then 2 else 0), .int .i64 0] := by
      have : (a.withS ⟨d, l', fw, fw⟩).errL true = 0 := Agn.errL_zero.2 ⟨hvb, rfl, hne⟩
      unfold Agn.yardV
      rw [this, htold]
      rfl
    rw [e3] at cB
    rw [e1] at cK
    refine PCallK.intro (PInv.func cK) ?_
    simp [hvw, hh, Agn.cells]
    refine PCallK.intro (PInv.func (first := []) (cap := []) (args := [a.h.v, .int .i64 d, .int .i64 l']) cW) ?_
    simp [hvw, hh, Agn.cells]
    refine PCallK.intro (PInv.func cM) ?_
    simp [hvw, hh, Agn.cells]
    intro s32 s273 s276
    refine xAp_cp (by simp) (by simp [hd]) (by omega) ?_
    simp [hvw, hh]
    refine PCallK.intro (PInv.func (top_span03_ok fw fw)) ?_
    simp [SP2, hvw, hh]
    intro s283 s284
    refine xApN_cp (n := a.h.snds.length) (cs := sds a.h.snds) (by simp) (by simp) (by simp) (by omega) (by omega) ?_
    rw [show sds a.h.snds ++ [AVal.int .i64 d, .int .i64 l', .int .i64 fw, .int .i64 fw] = sds (a.h.snds ++ [⟨d, l', fw, fw⟩]) by simp [sds, fl, Sd.c]]
    have hlen : (a.h.snds ++ [(⟨d, l', fw, fw⟩ : Sd)]).length = a.h.snds.length + 1 := by simp
    have cB' : PInv Pg (.func (.func fn_again_Yard) [] []) [.agg [LS a.h.seams, .vl (a.h.snds.length + 1) (sds (a.h.snds ++ [⟨d, l', fw, fw⟩])), L a.f, .int .i64 a.c, LW a.w, .int .i64 a.t]] (.tup [.int .i64 (if Y then 2 else 0), .int .i64 0]) := by
      have := PInv.func (first := []) (cap := []) (args := [(a.withS ⟨d, l', fw, fw⟩).v]) cB
      simpa [Agn.withS, Hul.more, LD] using this
    cases Y
    · simp [hvw, hh, hy]
      refine FCall.frz1 284 rfl (v := .tup [.int .i64 0, .int .i64 0]) ?_ (by simp) ?_
      · simpa using cB'
      simp [hvw, hh, hy]
      refine PCallK.intro cA ?_
      simp
      exact RetV.refl rfl
    · simp [hvw, hh, hy]
      refine FCall.frz1 284 rfl (v := .tup [.int .i64 2, .int .i64 0]) ?_ (by simp) ?_
      · simpa using cB'
      simp [hvw, hh, hy]
      refine PCallK.intro cA ?_
      simp
      exact RetV.refl rfl
end Go.Cw
end

/- The law TopFree: what is owed, and given. -/
section
set_option maxRecDepth 100000
set_option linter.unusedSimpArgs false
namespace Go.Cw
open Go Go.Proofs

namespace Agn
variable {a : Agn}
noncomputable def owesK (a : Agn) (s : Int) (k : Nat) : Int := Ag.lenB a.F k (fun i => inS s i && !Ag.pr a.w a.t i) * a.c
noncomputable def givesK (a : Agn) (s : Int) (k : Nat) : Int := Ag.lenB a.F k (fun i => inS s i && Ag.pr a.w a.t i)
theorem owes_step (s : Int) (k : Nat) : a.owesK s (k + 1) = a.owesK s k + (if inS s k && !Ag.pr a.w a.t k then a.F k * a.c else 0) := by
  unfold owesK
  simp only [Ag.lenB]
  rw [Int.add_mul]
  split <;> simp
theorem gives_step (s : Int) (k : Nat) : a.givesK s (k + 1) = a.givesK s k + (if inS s k && Ag.pr a.w a.t k then a.F k else 0) := rfl
theorem len_rng (hv : a.Valid) (p : Nat → Bool) {k : Nat} (hk : k ≤ a.n) : 0 ≤ Ag.lenB a.F k p ∧ Ag.lenB a.F k p ≤ 120 := by
  have hn6 := hv.n6
  have h1 := Ag.lenB_nonneg (n := k) (p := p) (f := a.F) fun i hi => by have := hv.fat (show i < a.n by omega); omega
  have h2 := Ag.lenB_bound (n := k) (p := p) (f := a.F) (M := 20) (fun i hi => by have := hv.fat (show i < a.n by omega); omega) (by omega)
  omega
theorem owes_rng (hv : a.Valid) (s : Int) {k : Nat} (hk : k ≤ a.n) : 0 ≤ a.owesK s k ∧ a.owesK s k ≤ 12000 := by
  have h := len_rng hv (fun i => inS s i && !Ag.pr a.w a.t i) hk
  have hc := hv.co
  unfold owesK
  refine ⟨Int.mul_nonneg h.1 hc.1, ?_⟩
  have := Int.mul_le_mul h.2 hc.2 hc.1 (show (0 : Int) ≤ 120 by omega)
  omega
theorem gives_rng (hv : a.Valid) (s : Int) {k : Nat} (hk : k ≤ a.n) : 0 ≤ a.givesK s k ∧ a.givesK s k ≤ 120 := len_rng hv _ hk
theorem both_in (hv : a.Valid) (he : a.errL true = 0) {s : Int} (hs : s ∈ a.S) : (a.paysP.1 ≤ a.owesK s a.n ∧ a.owesK s a.n ≤ a.paysP.2) ∧ a.nothP.1 ≤ a.givesK s a.n ∧ a.givesK s a.n ≤ a.nothP.2 := by
  obtain ⟨_, _, hS⟩ := Agn.errL_zero.1 he
  have hco := hv.co
  have h1 := (Ag.jn_spec (g := Ag.payS a.F a.n fun i => !Ag.pr a.w a.t i) hS).1 s hs
  have h2 := (Ag.jn_spec (g := Ag.payS a.F a.n (Ag.pr a.w a.t)) hS).1 s hs
  simp only [paysP, nothP, if_pos he]
  exact ⟨⟨Int.mul_le_mul_of_nonneg_right h1.1 hco.1, Int.mul_le_mul_of_nonneg_right h1.2 hco.1⟩, h2⟩
theorem under_bit (hv : a.Valid) {i : Nat} (hi : i < a.n) (d : Int) : bitI .and .i64 (a.under d / 2 ^ i) 1 = if Ag.pr a.w d i then 1 else 0 := by
  have hn6 := hv.n6
  exact bits_and1 _ (by omega) hi
end Agn
theorem top_TopFree_t20 (a : Agn) (hv : a.Valid) (hk : a.h.k < 7) (t : List Int) (ht : t ∈ a.h.truths a.h.every) (Y : Bool) (hY : Ag.yesS a.n (Ag.pr a.w a.t) (leaksT t) = Y) (s4 s6 s12 s14 : Nat) (tm : TM) (h : Heap)
    (hvw : Vw [(4, .ptr 4 0 s4), (5, L t), (6, .ptr 6 0 s6), (7, .int .i64 (leaksT t)), (8, .int .i64 (a.under a.t)), (10, .int .i64 a.yardN), (12, .ptr 12 0 s12), (14, .ptr 14 0 s14), (16, .bool Y)] tm)
    (hh : Hw [(4, .row [LS a.h.seams, LD a.h.snds] s4), (6, .row a.cells s6), (12, .row [.int .i64 a.paysP.1, .int .i64 a.paysP.2] s12), (14, .row [.int .i64 a.nothP.1, .int .i64 a.nothP.2] s14)] h) :
    AWops ⟨Pg, 0, 307, false, []⟩ (Then (AW ⟨Pg, 0, 307, false, []⟩ (.seq (.seq (.ops top_TopFree.r21) (.block 4 (.loop (.seq (.ops top_TopFree.r22) (.seq (.cond (.t 136) .skip (.exit 4)) (.seq (.block 5 (.seq (.ops top_TopFree.r23) (.block 6 (.seq (.ops top_TopFree.r25) (.cond (.t 146) .skip (.seq (.ops top_TopFree.r26) (.cond (.t 152) (.ops top_TopFree.r27) (.ops top_TopFree.r24)))))))) (.ops top_TopFree.r28))))))) (.seq (.seq (.ops top_TopFree.r29) (.cond (.t 198) (.seq (.ops top_TopFree.r30) .ret) .skip)) (.seq (.ops top_TopFree.r31) (.seq (.ops top_TopFree.r32) (.seq (.seq (.ops top_TopFree.r33) (.cond (.t 235) (.seq (.ops top_TopFree.r34) .ret) .skip)) (.seq (.ops top_TopFree.r35) (.seq (.seq (.ops top_TopFree.r36) (.cond (.t 243) (.seq (.ops top_TopFree.r37) .ret) .skip)) (.seq (.ops top_TopFree.r38) (.seq (.seq (.ops top_TopFree.r39) (.cond (.t 268) (.seq (.ops top_TopFree.r40) .ret) .skip)) (.seq (.ops top_TopFree.r41) (.seq (.ops top_TopFree.r42) (.seq (.ops top_TopFree.r43) (.seq (.ops top_TopFree.r44) (.seq (.seq (.ops top_TopFree.r45) (.cond (.t 287) (.ops top_TopFree.r46) .skip)) (.seq (.ops top_TopFree.r47) (.seq (.ops top_TopFree.r48) .ret)))))))))))))))) (RetK [.tmp 2] fun e _ => e = AEnd.ret (.bool true))) (RetK [.tmp 2] fun e _ => e = AEnd.ret (.bool true))) (top_TopFree.r20 ())
      (Then (AW ⟨Pg, 0, 307, false, []⟩ (.seq (.seq (.ops top_TopFree.r21) (.block 4 (.loop (.seq (.ops top_TopFree.r22) (.seq (.cond (.t 136) .skip (.exit 4)) (.seq (.block 5 (.seq (.ops top_TopFree.r23) (.block 6 (.seq (.ops top_TopFree.r25) (.cond (.t 146) .skip (.seq (.ops top_TopFree.r26) (.cond (.t 152) (.ops top_TopFree.r27) (.ops top_TopFree.r24)))))))) (.ops top_TopFree.r28))))))) (.seq (.seq (.ops top_TopFree.r29) (.cond (.t 198) (.seq (.ops top_TopFree.r30) .ret) .skip)) (.seq (.ops top_TopFree.r31) (.seq (.ops top_TopFree.r32) (.seq (.seq (.ops top_TopFree.r33) (.cond (.t 235) (.seq (.ops top_TopFree.r34) .ret) .skip)) (.seq (.ops top_TopFree.r35) (.seq (.seq (.ops top_TopFree.r36) (.cond (.t 243) (.seq (.ops top_TopFree.r37) .ret) .skip)) (.seq (.ops top_TopFree.r38) (.seq (.seq (.ops top_TopFree.r39) (.cond (.t 268) (.seq (.ops top_TopFree.r40) .ret) .skip)) (.seq (.ops top_TopFree.r41) (.seq (.ops top_TopFree.r42) (.seq (.ops top_TopFree.r43) (.seq (.ops top_TopFree.r44) (.seq (.seq (.ops top_TopFree.r45) (.cond (.t 287) (.ops top_TopFree.r46) .skip)) (.seq (.ops top_TopFree.r47) (.seq (.ops top_TopFree.r48) .ret)))))))))))))))) (RetK [.tmp 2] fun e _ => e = AEnd.ret (.bool true))) (RetK [.tmp 2] fun e _ => e = AEnd.ret (.bool true)) .normal) tm [] h := by
  have hS := Agn.S_ne ht
  have hsS := Agn.mem_lk hv ht
  have he : a.errL true = 0 := Agn.errL_zero.2 ⟨hv, rfl, hS⟩
  have hn6 := hv.n6
  have hco := hv.co
  have hfn : a.f.length = a.n := rfl
  obtain ⟨s, hs⟩ : ∃ s, s = leaksT t := ⟨_, rfl⟩
  have hT := fun s4 s6 tm h => top_TopFree_t31 a hv hk t ht Y hY s4 s6 tm h
  rw [← hs] at hvw hsS hY hT
  have hsr := Agn.S_in hv s hsS
  have h2p := two_pow_le hn6
  have e6 : (2 : Int) ^ 6 = 64 := by decide
  have e62 : (2 : Int) ^ 62 = 4611686018427387904 := by decide
  simp [Vw, Hw] at hvw hh
  simp [hvw, hh, Agn.cells]
  refine Lp.intro (σ := Nat) (inv := fun k => k ≤ a.n) (vw := fun k => [(4, .ptr 4 0 s4), (5, L t), (6, .ptr 6 0 s6), (7, .int .i64 s), (8, .int .i64 (a.under a.t)), (10, .int .i64 a.yardN), (12, .ptr 12 0 s12), (14, .ptr 14 0 s14), (16, .bool Y), (17, .int .i64 (a.owesK s k)), (18, .int .i64 (a.givesK s k)), (133, L a.f), (134, .int .i64 a.n), (135, .int .i64 k)])
    (hp := fun _ => [(4, .row [LS a.h.seams, LD a.h.snds] s4), (6, .row a.cells s6), (12, .row [.int .i64 a.paysP.1, .int .i64 a.paysP.2] s12), (14, .row [.int .i64 a.nothP.1, .int .i64 a.nothP.2] s14)]) (ms := fun k => a.n - k) 0 (by omega) (by simp [hvw, hfn, Agn.owesK, Agn.givesK, Ag.lenB]) (by simp [hh, Agn.cells]) ?_
  intro k hk2 J hJ
  by_cases hkc : k < a.n
  · have hkf : k < a.f.length := hkc
    obtain ⟨x, hx⟩ : ∃ x, a.f[k] = x := ⟨_, rfl⟩
    have hxg : a.f[k]? = some x := by rw [List.getElem?_eq_getElem hkf, hx]
    have hF : a.F k = x := by unfold Agn.F; rw [← ofL_at a.f hkf]; exact hx
    have hxb := hv.fat hkc
    rw [hF] at hxb
    have h64 : (k : Int) < 64 := by omega
    have hub := Agn.under_bit hv hkc a.t
    have hdv : 0 ≤ s / 2 ^ k := Int.ediv_nonneg hsr.1 (by have := two_pow_pos k; omega)
    have hand := bitI_and1 hdv (by have := Int.ediv_le_self (2 ^ k) hsr.1; omega)
    have so := Agn.owes_step (a := a) s k
    have sg := Agn.gives_step (a := a) s k
    have ro := Agn.owes_rng hv s (k := k + 1) (by omega)
    have rg := Agn.gives_rng hv s (k := k + 1) (by omega)
    have ro0 := Agn.owes_rng hv s (k := k) (by omega)
    rw [hF] at so sg
    cases hq : inS s k with
    | false =>
      have hmod : s / 2 ^ k % 2 = 0 := by
        have : ¬ s / 2 ^ k % 2 = 1 := by simpa [inS] using hq
        omega
      simp [hq] at so sg
      simp [hkc, hkf, hx, hxg, h64, hand, hmod]
      (repeat first | refine And.intro (by omega) ?_ | refine And.intro (Fits.of (by omega) (by omega)) ?_)
      exact hJ.next (k + 1) (by omega) (by omega) (by simp [so, sg]) (by simp)
    | true =>
      have hmod : s / 2 ^ k % 2 = 1 := by simpa [inS] using hq
      cases hp : Ag.pr a.w a.t k with
      | true =>
        rw [hp] at hub
        simp [hq, hp] at so sg
        simp [hkc, hkf, hx, hxg, h64, hand, hmod, hub]
        (repeat first | refine And.intro (by omega) ?_ | refine And.intro (Fits.of (by omega) (by omega)) ?_)
        exact hJ.next (k + 1) (by omega) (by omega) (by simp [so, sg]) (by simp)
      | false =>
        rw [hp] at hub
        simp [hq, hp] at so sg
        have hm0 : 0 ≤ x * a.c := Int.mul_nonneg (by omega) hco.1
        simp [hkc, hkf, hx, hxg, h64, hand, hmod, hub, Agn.cells]
        (repeat first | refine And.intro (by omega) ?_ | refine And.intro (Fits.of (by omega) (by omega)) ?_)
        exact hJ.next (k + 1) (by omega) (by omega) (by simp [so, sg]) (by simp [Agn.cells])
  obtain rfl : k = a.n := by omega
  obtain ⟨⟨b1, b2⟩, b3, b4⟩ := Agn.both_in hv he hsS
  have n1 : ¬ a.owesK s a.n < a.paysP.1 := by omega
  have n2 : ¬ a.paysP.2 < a.owesK s a.n := by omega
  have n3 : ¬ a.givesK s a.n < a.nothP.1 := by omega
  have n4 : ¬ a.nothP.2 < a.givesK s a.n := by omega
  have hyr : 0 ≤ a.yardN ∧ a.yardN ≤ 2 := Ag.told_rng _ _ _
  have t2 := fun h : a.yardN = 2 => (Ag.told_two hS).1 h s hsS
  have t0 := fun h : a.yardN = 0 => (Ag.told_zero hS).1 h s hsS
  rw [hY] at t2 t0
  simp
  refine hJ.exit ?_
  have hcs : (a.yardN = 0 ∧ Y = false) ∨ (a.yardN = 1 ∧ Y = false) ∨ (a.yardN = 1 ∧ Y = true) ∨ (a.yardN = 2 ∧ Y = true) := by
    rcases (by omega : a.yardN = 0 ∨ a.yardN = 1 ∨ a.yardN = 2) with h | h | h
    · exact .inl ⟨h, t0 h⟩
    · cases Y
      · exact .inr (.inl ⟨h, rfl⟩)
      · exact .inr (.inr (.inl ⟨h, rfl⟩))
    · exact .inr (.inr (.inr ⟨h, t2 h⟩))
  rcases hcs with ⟨c1, c2⟩ | ⟨c1, c2⟩ | ⟨c1, c2⟩ | ⟨c1, c2⟩
  all_goals
    subst c2
    rw [c1] at hT
    simp [c1, n1, n2, n3, n4, -top_TopFree.r31]
    exact hT s4 s6 _ _ (by simp [Vw]) (by simp [Hw]) (by simp)
end Go.Cw
end

/- The law TopFree, walked. -/
section
set_option maxRecDepth 100000
set_option linter.unusedSimpArgs false
namespace Go.Cw
open Go Go.Proofs

theorem Sl.toV {n : Nat} {K : KT} {tm : TM} {df : DF} {h : Heap} (l : List (Nat × AVal)) (k : List (Nat × AObj)) (en : Sl n (fun tm' df' h' => df' = df ∧ Vw l tm' ∧ Hw k h') tm df h) (hK : K (tmV l) df (hpV k)) : Sl n K tm df h := by
  obtain ⟨tm₁, df₁, h₁, a, rfl, hv, hh⟩ := en
  exact ⟨_, _, _, a.trans (SLe.view hv hh), hK⟩
theorem top_TopFree_t12 (a : Agn) (hv : a.Valid) (hk : a.h.k < 7) (t : List Int) (ht : t ∈ a.h.truths a.h.every) (s4 s6 : Nat) :
    AW ⟨Pg, 0, 307, false, []⟩ (.seq (.ops top_TopFree.r12) (.seq (.ops top_TopFree.r13) (.seq (.ops top_TopFree.r14) (.seq (.ops top_TopFree.r15) (.seq (.ops top_TopFree.r16) (.seq (.seq (.ops top_TopFree.r17) (.cond (.t 123) (.seq (.ops top_TopFree.r18) .ret) .skip)) (.seq (.ops top_TopFree.r19) (.seq (.ops top_TopFree.r20) (.seq (.seq (.ops top_TopFree.r21) (.block 4 (.loop (.seq (.ops top_TopFree.r22) (.seq (.cond (.t 136) .skip (.exit 4)) (.seq (.block 5 (.seq (.ops top_TopFree.r23) (.block 6 (.seq (.ops top_TopFree.r25) (.cond (.t 146) .skip (.seq (.ops top_TopFree.r26) (.cond (.t 152) (.ops top_TopFree.r27) (.ops top_TopFree.r24)))))))) (.ops top_TopFree.r28))))))) (.seq (.seq (.ops top_TopFree.r29) (.cond (.t 198) (.seq (.ops top_TopFree.r30) .ret) .skip)) (.seq (.ops top_TopFree.r31) (.seq (.ops top_TopFree.r32) (.seq (.seq (.ops top_TopFree.r33) (.cond (.t 235) (.seq (.ops top_TopFree.r34) .ret) .skip)) (.seq (.ops top_TopFree.r35) (.seq (.seq (.ops top_TopFree.r36) (.cond (.t 243) (.seq (.ops top_TopFree.r37) .ret) .skip)) (.seq (.ops top_TopFree.r38) (.seq (.seq (.ops top_TopFree.r39) (.cond (.t 268) (.seq (.ops top_TopFree.r40) .ret) .skip)) (.seq (.ops top_TopFree.r41) (.seq (.ops top_TopFree.r42) (.seq (.ops top_TopFree.r43) (.seq (.ops top_TopFree.r44) (.seq (.seq (.ops top_TopFree.r45) (.cond (.t 287) (.ops top_TopFree.r46) .skip)) (.seq (.ops top_TopFree.r47) (.seq (.ops top_TopFree.r48) .ret)))))))))))))))))))))))) (RetK [.tmp 2] fun e _ => e = AEnd.ret (.bool true))
      (tmV [(4, .ptr 4 0 s4), (5, L t), (6, .ptr 6 0 s6)]) [] (hpV [(4, .row [LS a.h.seams, LD a.h.snds] s4), (6, .row a.cells s6)]) := by
  have hs := hv.small
  have hS := Agn.S_ne ht
  have hsS := Agn.mem_lk hv ht
  have he : a.errL true = 0 := Agn.errL_zero.2 ⟨hv, rfl, hS⟩
  have hn6 := hv.n6
  have hti := (truths_in hv.h ht).1
  have htl : t.length ≤ 40 := by have := hv.h.n6; omega
  have hsr := Agn.S_in hv _ hsS
  have c1 := again_Promised_ok a hs
  have c2 := again_Yard_ok a hs
  have c3 := again_Pays_ok a hs
  have c4 := again_Nothing_ok a hs
  have e2 : a.yardV = .tup [.int .i64 a.yardN, .int .i64 0] := by simp [Agn.yardV, he]
  have e3 : a.paysV = .tup [SP2 a.paysP, .int .i64 0] := by simp [Agn.paysV, he]
  have e4 : a.nothV = .tup [SP2 a.nothP, .int .i64 0] := by simp [Agn.nothV, he]
  rw [Agn.promV_eq hv] at c1
  rw [e2] at c2
  rw [e3] at c3
  rw [e4] at c4
  have hG := fun Y hY s12 s14 tm h => top_TopFree_t20 a hv hk t ht Y hY s4 s6 s12 s14 tm h
  have hyn := Ag.andNot_yes hn6 (Ag.pr a.w a.t) hsr
  rw [show bits (Ag.pr a.w a.t) a.n = a.under a.t from rfl] at hyn
  simp only [Agn.v_agg] at c1 c2 c3 c4
  simp
  refine PCallK.intro (PInv.func (ref01_LeaksOf_ok t htl)) ?_
  simp [Agn.cells]
  refine PCallK.intro (PInv.func c1) ?_
  simp
  refine FCall.pure (PInv.func c2) ?_
  simp
  refine PCallK.intro (PInv.func c3) ?_
  simp [SP2]
  intro s12
  refine PCallK.intro (PInv.func c4) ?_
  simp [SP2]
  intro s14
  obtain ⟨y, hy⟩ : ∃ y, y = leaksT t := ⟨_, rfl⟩
  rw [← hy] at hyn hG ⊢
  by_cases c0 : y = 0
  · have hY : Ag.yesS a.n (Ag.pr a.w a.t) y = false := by rw [← hyn, decide_eq_false (fun h => h c0)]; rfl
    have c0 := eq_true c0
    simp [c0, -top_TopFree.r20]
    exact hG false hY (s12+1) (s14+1) _ _ (by simp [Vw]) (by simp [Hw, Agn.cells])
  · by_cases c1 : bitI .andNot .i64 y (a.under a.t) = 0
    · have hY : Ag.yesS a.n (Ag.pr a.w a.t) y = true := by rw [← hyn, decide_eq_true c0, decide_eq_true c1]; rfl
      simp [c0, c1, -top_TopFree.r20]
      exact hG true hY (s12+1) (s14+1) _ _ (by simp [Vw]) (by simp [Hw, Agn.cells])
    · have hY : Ag.yesS a.n (Ag.pr a.w a.t) y = false := by rw [← hyn, decide_eq_true c0, decide_eq_false c1]; rfl
      simp [c0, c1, -top_TopFree.r20]
      exact hG false hY (s12+1) (s14+1) _ _ (by simp [Vw]) (by simp [Hw, Agn.cells])
theorem top_TopFree_ok (l : List Int) (hl : U16ok l) : APure Pg fn_top_TopFree [U16 l] (.bool true) := by
  refine top_TopFree.pure (by simp) ?_
  simp
  refine FCall.cps [(900, .dead)] (fun s : Nat => drawV 900 s l) (fun s => [(900, .row [.int .i64 0] s)]) (fun _ => True) (fun K' hK' => AInvoke.func (top_draws03_ok l 900 K' fun s => hK' s trivial)) (by simp) (fun _ => rfl) trivial (fun s _ => ⟨trivial, ?_⟩)
  simp
  refine FCall.cps (σ := {x : Hul × List Int × Nat // x.1.Valid ∧ x.1.k ≤ 4 ∧ x.2.1 ∈ x.1.truths x.1.every ∧ x.2.2 ≤ 1000}) [(900, .row [.int .i64 0] s)] (fun x => .tup [x.1.1.v, L x.1.2.1]) (fun x => [(900, .row [.int .i64 x.1.2.2] s)]) (fun _ => True) (fun K' hK' => AInvoke.func ?_) (by simp) (fun _ => rfl) trivial (fun x _ => ⟨trivial, ?_⟩)
  · have := top_made03_ok l hl 0 (by omega) 4 (by omega) 900 s K' (fun h t k' h1 h2 h3 h4 => hK' ⟨(h, t, k'), h1, h2, h3, by simpa using h4⟩ trivial)
    simpa using this
  obtain ⟨⟨h, t, k'⟩, hv, hk, ht, hk'⟩ := x
  simp only at hv hk ht hk'
  simp
  intro s4
  refine FCall.draw hl (by omega) (k := k') (by omega) (by simp) (by simp) fun r1 hr1 => ?_
  simp
  refine FCall.draw hl (by omega) (k := k' + 1) (by omega) (by simp) (by simp) fun r2 hr2 => ?_
  simp
  (repeat first | refine And.intro (by omega) ?_ | refine And.intro (Fits.of (by omega) (by omega)) ?_)
  intro s6
  obtain ⟨T, hT⟩ : ∃ T : Int, T = 300 + r2 := ⟨_, rfl⟩
  have hTr : 0 ≤ T ∧ T ≤ 5000 := by omega
  rw [← hT]
  have hn6 := hv.n6
  have hn1 := hv.n1
  have hnl : h.seams.length = h.n := rfl
  have hkl : h.snds.length = h.k := rfl
  refine Lp.intro' (σ := List Int × Nat × Nat) (inv := fun x => x.1.length ≤ h.n ∧ (∀ y ∈ x.1, 1 ≤ y ∧ y ≤ 20) ∧ x.2.2 ≤ 1002 + x.1.length) (vw := fun x => [(3, drawV 900 s l), (4, .ptr 4 0 (s4+1)), (5, L t), (6, .ptr 6 0 (s6+1)), (52, .int .i64 h.n), (53, .int .i64 x.1.length)])
    (hp := fun x => [(900, .row [.int .i64 x.2.2] s), (4, .row [LS h.seams, LD h.snds] (s4+1)), (6, .row [LS h.seams, LD h.snds, gS 1 61 x.1.length x.2.1, .int .i64 r1, .nils, .int .i64 T] (s6+1)), (61, gO x.1.length (ints x.1) x.2.1)])
    (ms := fun x => h.n - x.1.length) ([], 0, k' + 1 + 1) ⟨by simp, by simp, by simp; omega⟩
    (Sl.rowLe (cells := [LS h.seams, LD h.snds, .nils, .int .i64 r1, .nils, .int .i64 T]) (s := s6 + 1) 6 [LS h.seams, LD h.snds, .es, .int .i64 r1, .nils, .int .i64 T] (by simp) ⟨ALe.refl _, ALe.refl _, ALe.nils_es, ALe.refl _, ALe.refl _, ALe.refl _, trivial⟩ (Sl.refl ⟨rfl, by simp [hnl], by simp⟩)) ?_
  rintro ⟨f, st, kd⟩ ⟨hf1, hf2, hf3⟩ J hJ
  simp only at hf1 hf2 hf3
  by_cases hc : f.length < h.n
  · simp [hc]
    refine FCall.draw hl (by omega) (k := kd) (by omega) (by simp) (by simp) fun q hq => ?_
    simp
    refine ⟨Fits.of (by omega) (by omega), fun s60 s61 => ?_⟩
    refine xApN_gS (cells := ints f) (by simp) (by simp) (by omega) (by omega) ?_
    simp
    (repeat first | refine And.intro (by omega) ?_ | refine And.intro (Fits.of (by omega) (by omega)) ?_)
    refine hJ.next (f ++ [(1 : Int) + q], s61 + 1, kd + 1) ⟨by simp; omega, fun y hy => ?_, by simp; omega⟩ (by simp; omega) (by simp) (by simp [ints])
    rcases List.mem_append.1 hy with hy | hy
    · exact hf2 y hy
    · obtain rfl : y = (1 : Int) + q := by simpa using hy
      omega
  have hfl : f.length = h.n := by omega
  simp [hc]
  refine hJ.exitS (Sl.gSH 61 (m := h.n) (cells := ints f) (s := st) (by omega) (by simp [hfl]) (Sl.toV [(3, drawV 900 s l), (4, .ptr 4 0 (s4+1)), (5, L t), (6, .ptr 6 0 (s6+1))]
    [(900, .row [.int .i64 kd] s), (4, .row [LS h.seams, LD h.snds] (s4+1)), (6, .row [LS h.seams, LD h.snds, L f, .int .i64 r1, .nils, .int .i64 T] (s6+1))] (Sl.refl ⟨rfl, by simp, by simp [hfl, gS_pos (show 0 < h.n by omega), L]⟩) ?_))
  simp
  refine FCall.draw hl (by omega) (k := kd) (by omega) (by simp) (by simp) fun r3 hr3 => ?_
  simp
  have hwk : ∀ x : Wrk, (((0 ≤ x.s ∧ x.s < h.n) ∧ (0 ≤ x.g ∧ x.g ≤ 3) ∧ 0 ≤ x.d ∧ x.d ≤ T) ↔ (⟨h, f, (r1 : Int), [], T⟩ : Agn).OkW x) := fun x => by
    unfold Agn.OkW
    show _ ↔ (0 ≤ x.s ∧ x.s < (f.length : Int)) ∧ _
    rw [hfl]
  refine Lp.intro' (σ := List Wrk × Nat × Nat) (inv := fun x => x.1.length ≤ r3 ∧ (∀ y ∈ x.1, (0 ≤ y.s ∧ y.s < h.n) ∧ (0 ≤ y.g ∧ y.g ≤ 3) ∧ 0 ≤ y.d ∧ y.d ≤ T) ∧ x.2.2 ≤ 2000 + 3 * x.1.length) (vw := fun x => [(3, drawV 900 s l), (4, .ptr 4 0 (s4+1)), (5, L t), (6, .ptr 6 0 (s6+1)), (65, .int .i64 r3), (66, .int .i64 x.1.length)])
    (hp := fun x => [(900, .row [.int .i64 x.2.2] s), (4, .row [LS h.seams, LD h.snds] (s4+1)), (6, .row [LS h.seams, LD h.snds, L f, .int .i64 r1, gS 3 85 x.1.length x.2.1, .int .i64 T] (s6+1)), (85, gO x.1.length (wks x.1) x.2.1)])
    (ms := fun x => r3 - x.1.length) ([], 0, kd + 1) ⟨by simp, by simp, by simp; omega⟩
    (Sl.rowLe (cells := [LS h.seams, LD h.snds, L f, .int .i64 r1, .nils, .int .i64 T]) (s := s6 + 1) 6 [LS h.seams, LD h.snds, L f, .int .i64 r1, .es, .int .i64 T] (by simp) ⟨ALe.refl _, ALe.refl _, ALe.refl _, ALe.refl _, ALe.nils_es, ALe.refl _, trivial⟩ (Sl.refl ⟨rfl, by simp, by simp⟩)) ?_
  rintro ⟨w, st2, ke⟩ ⟨hw1, hw2, hw3⟩ J2 hJ2
  simp only at hw1 hw2 hw3
  by_cases hc2 : w.length < r3
  · simp [hc2]
    refine FCall.draw hl (n := (h.seams.length : Int)) (by omega) (k := ke) (by omega) (by simp) (by simp) fun q1 hq1 => ?_
    simp
    refine FCall.draw hl (by omega) (k := ke + 1) (by omega) (by simp) (by simp) fun q2 hq2 => ?_
    simp
    refine ⟨Fits.of (by omega) (by omega), ?_⟩
    refine FCall.draw hl (by omega) (k := ke + 1 + 1) (by omega) (by simp) (by simp) fun q3 hq3 => ?_
    simp
    intro s84 s85
    refine xApN_gS (cells := wks w) (by simp) (by simp) (by omega) (by omega) ?_
    rw [show wks w ++ [AVal.int .i64 q1, .int .i64 (max 0 (T - q2)), .int .i64 q3] = wks (w ++ [⟨q1, max 0 (T - q2), q3⟩]) from wks_push w ⟨q1, max 0 (T - q2), q3⟩]
    simp
    (repeat first | refine And.intro (by omega) ?_ | refine And.intro (Fits.of (by omega) (by omega)) ?_)
    refine hJ2.next (w ++ [⟨q1, max 0 (T - q2), q3⟩], s85 + 1, ke + 1 + 1 + 1) ⟨by simp; omega, fun y hy => ?_, by simp; omega⟩ (by simp; omega) (by simp) (by simp)
    rcases List.mem_append.1 hy with hy | hy
    · exact hw2 y hy
    · obtain rfl : y = ⟨q1, max 0 (T - q2), q3⟩ := by simpa using hy
      simp only []
      omega
  simp [hc2]
  obtain ⟨a, ha⟩ : ∃ a : Agn, a = ⟨h, f, (r1 : Int), w, T⟩ := ⟨_, rfl⟩
  have hva : a.Valid := by
    rw [ha]
    refine ⟨hv, by show h.k < 8; omega, hfl, hf2, ⟨by simp, by show (r1 : Int) ≤ 100; omega⟩, hTr, by show w.length ≤ 12; omega, fun x hx => ?_⟩
    exact (hwk x).1 (hw2 x hx)
  have hta : t ∈ a.h.truths a.h.every := by rw [ha]; exact ht
  have hka : a.h.k < 7 := by rw [ha]; show h.k < 7; omega
  refine hJ2.exitS (Sl.toV [(4, .ptr 4 0 (s4+1)), (5, L t), (6, .ptr 6 0 (s6+1))] [(4, .row [LS a.h.seams, LD a.h.snds] (s4+1)), (6, .row a.cells (s6+1))] ?_ ?_)
  · by_cases h0 : w = []
    · refine Sl.rowLe (cells := [LS h.seams, LD h.snds, L f, .int .i64 r1, .es, .int .i64 T]) (s := s6 + 1) 6 [LS h.seams, LD h.snds, L f, .int .i64 r1, .vl 0 [], .int .i64 T] (by simp [h0]) ⟨ALe.refl _, ALe.refl _, ALe.refl _, ALe.refl _, ALe.es_vl, ALe.refl _, trivial⟩ (Sl.refl ⟨rfl, by simp, ?_⟩)
      simp [ha, h0, Agn.cells, LW, wks, fl]
    · have hwp : 0 < w.length := List.length_pos_iff.2 h0
      refine Sl.gSH 85 (m := w.length) (cells := wks w) (s := st2) hwp (by simp) (Sl.refl ⟨rfl, by simp, ?_⟩)
      simp [ha, Agn.cells, LW, gS_pos hwp]
  rw [InB_exit, if_pos rfl, Then_normal]
  exact top_TopFree_t12 a hva hka t hta (s4+1) (s6+1)
end Go.Cw
end

/- How the numbers are read as an argument. -/
section
set_option maxRecDepth 100000
namespace Go.Cw
open Go Go.Proofs

section
variable {w : World} {μ : Mu}
theorem opens_u16 : Opens Pg w μ 22 fun av => ∃ l : List Int, U16ok l ∧ av = [U16 l] :=
  (Opens.intsK (k := .u16) Tryz.underlying22 (by kernel_rfl) Tryz.underlying61 (by kernel_rfl)).mono fun av ⟨l, h1, h2, h3⟩ =>
    ⟨l, ⟨Nat.le_trans h1 (by decide +kernel), fun x hx => bounds_u16 (h2 x hx)⟩, h3⟩
end

theorem kids : Kids Pg (· < Pg.types.size) := kids_rows (by kernel_rfl) (by kernel_rfl)
theorem slices_full : ∀ t e, t < Pg.types.size → Pg.underlying t = some (.slice e) → 0 < Pg.cellsOf e := slices_full_of Pg (by kernel_rfl)
theorem ownKnobNone : ownKnob Pg.godebug = none := by kernel_rfl

end Go.Cw
end
