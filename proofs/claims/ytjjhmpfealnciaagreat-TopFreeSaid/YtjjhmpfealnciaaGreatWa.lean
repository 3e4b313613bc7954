/-
  What the functions of layer 11 compute.
-/
import Derived.Test.YtjjhmpfealnciaaGreatQa
import Derived.Test.YtjjhmpfealnciaaGreatLa
import Derived.Test.YtjjhmpfealnciaaGreatAf
import Derived.Test.YtjjhmpfealnciaaGreatGa
set_option linter.unusedVariables false
set_option linter.unusedSimpArgs false
set_option linter.unusedSectionVars false

/- Ships that come back, as plain data; what is told of them. -/
section
set_option maxRecDepth 100000
set_option linter.unusedSimpArgs false
namespace Go.Cw
open Go Go.Proofs

def wkC (a : Wrk) : List AVal := [.int .i64 a.s, .int .i64 a.d, .int .i64 a.g]
theorem wkC_len (a : Wrk) : (wkC a).length = 3 := rfl
def wks (l : List Wrk) : List AVal := fl wkC l
section
variable (l : List Wrk)
@[simp] theorem wks_length : (wks l).length = l.length * 3 := fl_len wkC_len l
@[simp] theorem wks_drop (k : Nat) : (wks l).drop (k * 3) = wks (l.drop k) := fl_drop wkC_len l k
@[simp] theorem wks_take3 : (wks l).take 3 = (l.head?.map fun a => [.int .i64 a.s, .int .i64 a.d, .int .i64 a.g]).getD [] := fl_take wkC_len l
end
theorem wks_push (l : List Wrk) (a : Wrk) : wks l ++ [.int .i64 a.s, .int .i64 a.d, .int .i64 a.g] = wks (l ++ [a]) := by simp [wks, fl, wkC]
def LW (l : List Wrk) : AVal := .vl l.length (wks l)
@[simp] theorem frz_LW (r s : Nat) (cells : List AVal) (l : List Wrk) : frz r s cells (LW l) = LW l := (rfl)
@[simp] theorem ren_LW (r nm : Nat) (l : List Wrk) : ren r nm (LW l) = LW l := (rfl)
@[simp] theorem aLen_LW (l : List Wrk) : aLen (LW l) = some (.int .i64 l.length) := (rfl)
@[simp] theorem satIxS_LW (l : List Wrk) (k : IntKind) (n : Int) (K : AVal → Prop) : satIxS 3 (LW l) (.int k n) K = ((0 ≤ n ∧ n < l.length) ∧ K (.pv (wks (l.drop n.toNat)))) := by simp [LW]
@[simp] theorem xEl_LW (h : Heap) (l : List Wrk) (K : Nat → List AVal → Prop) : xEl h 3 (LW l) K = K l.length (wks l) := by
  simp only [LW, xEl_vl, wks_length, Nat.le_refl, true_and]
  rw [List.take_of_length_le (by simp)]

structure Agn where
  h : Hul
  f : List Int
  c : Int
  w : List Wrk
  t : Int

namespace Agn
variable (a : Agn)
def cells : List AVal := [LS a.h.seams, LD a.h.snds, L a.f, .int .i64 a.c, LW a.w, .int .i64 a.t]
def v : AVal := .agg [LS a.h.seams, LD a.h.snds, L a.f, .int .i64 a.c, LW a.w, .int .i64 a.t]
@[simp] theorem v_agg : a.v = .agg [LS a.h.seams, LD a.h.snds, L a.f, .int .i64 a.c, LW a.w, .int .i64 a.t] := (rfl)
def n : Nat := a.f.length
structure Small : Prop where
  h : a.h.Small
  f : a.f.length ≤ 40
  w : a.w.length ≤ 40
def OkW (x : Wrk) : Prop := (0 ≤ x.s ∧ x.s < a.n) ∧ (0 ≤ x.g ∧ x.g ≤ 3) ∧ 0 ≤ x.d ∧ x.d ≤ a.t
instance (x : Wrk) : Decidable (a.OkW x) := inferInstanceAs (Decidable (_ ∧ _))
structure Valid : Prop where
  h : a.h.Valid
  k7 : a.h.k < 8
  len : a.f.length = a.h.n
  fa : ∀ x ∈ a.f, 1 ≤ x ∧ x ≤ 20
  co : 0 ≤ a.c ∧ a.c ≤ 100
  to : 0 ≤ a.t ∧ a.t ≤ 5000
  w12 : a.w.length ≤ 12
  wo : ∀ x ∈ a.w, a.OkW x
noncomputable instance : Decidable a.Valid := Classical.propDecidable _
theorem Valid.n6 {a : Agn} (hv : a.Valid) : a.n ≤ 6 := by have := hv.h.n6; have := hv.len; unfold n; omega
theorem Valid.n1 {a : Agn} (hv : a.Valid) : 1 ≤ a.n := by have := hv.h.n1; have := hv.len; unfold n; omega
def F : Nat → Int := ofL a.f
theorem Valid.fat {a : Agn} (hv : a.Valid) {i : Nat} (hi : i < a.n) : 1 ≤ a.F i ∧ a.F i ≤ 20 := by
  have hl : i < a.f.length := hi
  unfold F
  rw [← ofL_at a.f hl]
  exact hv.fa _ (by simp)
noncomputable def S : List Int := a.h.setsL
variable {a : Agn}
theorem mem_S {s : Int} : s ∈ a.S ↔ ∃ t ∈ a.h.truths a.h.every, leaksT t = s := by
  unfold S Hul.setsL
  rw [(sortI_perm _).mem_iff]
  have := seenK_mem (a.h.truths a.h.every) (a.h.truths a.h.every).length s
  rwa [List.take_length] at this
theorem S_nodup : a.S.Nodup := by
  unfold S Hul.setsL
  rw [(sortI_perm _).nodup_iff]
  have := seenK_nodup (a.h.truths a.h.every) (a.h.truths a.h.every).length
  rwa [List.take_length] at this
theorem S_nil : a.S = [] ↔ a.h.truths a.h.every = [] := by
  constructor
  · intro h
    cases ht : a.h.truths a.h.every with
    | nil => rfl
    | cons t l =>
      have : leaksT t ∈ a.S := mem_S.2 ⟨t, by rw [ht]; simp, rfl⟩
      rw [h] at this; cases this
  · intro h
    refine List.eq_nil_iff_forall_not_mem.2 fun s hs => ?_
    obtain ⟨t, ht, _⟩ := mem_S.1 hs
    rw [h] at ht; cases ht
theorem S_in (hv : a.Valid) : ∀ s ∈ a.S, 0 ≤ s ∧ s < 2 ^ a.n := fun s hs => by
  obtain ⟨t, ht, rfl⟩ := mem_S.1 hs
  have h1 := (truths_in hv.h ht).1
  unfold leaksT
  rw [h1, show a.n = a.h.n from hv.len]
  exact bits_lt _ _
theorem S_len (hv : a.Valid) : a.S.length ≤ 15625 := Hul.setsL_len hv.h
variable (a)
noncomputable def errO (is : Bool) : Int := if a.Valid then (if is then 0 else 2) else 1
noncomputable def errL (is : Bool) : Int := if a.Valid then (if is then (if a.S = [] then 10 else 0) else 2) else 1
variable {a}
theorem errO_zero {is : Bool} : a.errO is = 0 ↔ a.Valid ∧ is = true := by
  unfold errO
  by_cases h1 : a.Valid <;> cases is <;> simp [h1]
theorem errL_zero {is : Bool} : a.errL is = 0 ↔ a.Valid ∧ is = true ∧ a.S ≠ [] := by
  unfold errL
  by_cases h1 : a.Valid <;> by_cases h4 : a.S = [] <;> cases is <;> simp [h1, h4]
theorem errL_O {is : Bool} (h : ¬ a.errO is = 0) : a.errL is = a.errO is := by
  unfold errO at h
  unfold errL errO
  by_cases h1 : a.Valid <;> cases is
  all_goals first | (simp [h1]; done) | (exfalso; exact h (by simp [h1]))
variable (a)
def under (d : Int) : Int := bits (Ag.pr a.w d) a.n
def ownB (g : Int) (i : Nat) : Bool := Ag.pr a.w a.t i && decide (Ag.ofW a.w i = g)
noncomputable def promV : AVal := .tup [.int .i64 (if a.errO true = 0 then a.under a.t else 0), .int .i64 (a.errO true)]
noncomputable def yardN : Int := Ag.toldV a.n (Ag.pr a.w a.t) a.S
noncomputable def yardV : AVal := .tup [.int .i64 (if a.errL true = 0 then a.yardN else 0), .int .i64 (a.errL true)]
noncomputable def spanP (u : Nat → Bool) : Int × Int := Ag.jn (Ag.payS a.F a.n u) a.S
noncomputable def paysP : Int × Int := if a.errL true = 0 then ((a.spanP fun i => !Ag.pr a.w a.t i).1 * a.c, (a.spanP fun i => !Ag.pr a.w a.t i).2 * a.c) else (0, 0)
noncomputable def paysV : AVal := .tup [SP2 a.paysP, .int .i64 (a.errL true)]
noncomputable def nothP : Int × Int := if a.errL true = 0 then a.spanP (Ag.pr a.w a.t) else (0, 0)
noncomputable def nothV : AVal := .tup [SP2 a.nothP, .int .i64 (a.errL true)]
def GangOk (g : Int) : Prop := 0 ≤ g ∧ g ≤ 3
instance (g : Int) : Decidable (GangOk g) := inferInstanceAs (Decidable (_ ∧ _))
noncomputable def gangP (g : Int) : Int × Int := if a.errL (decide (GangOk g)) = 0 then a.spanP (a.ownB g) else (0, 0)
noncomputable def gangV (g : Int) : AVal := .tup [SP2 (a.gangP g), .int .i64 (a.errL (decide (GangOk g)))]
noncomputable def surelyB (i : Nat) : Bool := decide (0 < (a.spanP (a.ownB i)).1)
noncomputable def perhapsB (i : Nat) : Bool := decide (0 < (a.spanP (a.ownB i)).2)
noncomputable def blameV : AVal := .tup [.int .i64 (if a.errL true = 0 then bits a.surelyB 4 else 0), .int .i64 (if a.errL true = 0 then bits a.perhapsB 4 else 0), .int .i64 (a.errL true)]
noncomputable def errU : Int := if a.errL true = 0 then (if a.yardN = 2 then 0 else 11) else a.errL true
noncomputable def daysL : List Int := (List.range a.n).filterMap fun i => if a.S.any (fun s => inS s i) then (Ag.lastW a.w i).map (·.d) else none
noncomputable def firstD : Int := a.daysL.foldl Ag.leastD (-1)
noncomputable def untilV : AVal := .tup [.int .i64 (if a.errU = 0 then a.firstD + 365 else 0), .int .i64 a.errU]
end Agn
end Go.Cw
end

/- Again: the program's small functions. -/
section
set_option maxRecDepth 100000
set_option linter.unusedSimpArgs false
namespace Go.Cw
open Go Go.Proofs

theorem Ag.wrapI {n : Int} (h0 : 0 ≤ n) (h1 : n < 2 ^ 62) : IntKind.i64.wrap n = n := by
  have e : (2 : Int) ^ 62 = 4611686018427387904 := by decide
  exact wrap_fits (by unfold Fits; omega)
theorem again_within_ok (n lo hi : Int) : APure Pg fn_again_within [.int .i64 n, .int .i64 lo, .int .i64 hi] (.bool (decide (lo ≤ n ∧ n ≤ hi))) := by
  refine again_within.pure (by simp) ?_
  by_cases h : lo ≤ n <;> simp [h] <;> refine RetV.refl ?_ <;> simp_all
def agV (e : Int) : AVal := .iface 109 (.agg [.int .i64 e])
theorem again_want_ok (e : Int) : APure Pg fn_again_want [.bool true, .int .i64 e] (.tup []) := by
  refine again_want.pure (by simp) ?_
  simp
  exact RetV.refl rfl
theorem again_want_pan (e : Int) : APan Pg fn_again_want [.bool false, .int .i64 e] (agV e) := by
  refine APan.of_nil (again_want.enter 0 (by simp) ?_)
  simp
  exact ⟨_, HLe.refl _, rfl⟩
theorem again_said_nil (p : AVal) : APure Pg fn_again_said [.nili, p] (.tup []) := by
  refine again_said.pure (by simp) ?_
  simp
  exact RetV.refl rfl
theorem again_said_ref (e x : Int) (r s : Nat) (K : AEnd → Heap → Prop) (hK : K (.ret (.tup [])) (hpV [(r, .row [.int .i64 e] s)])) : ACalls Pg fn_again_said [agV e, .ptr r 0 s] (hpV [(r, .row [.int .i64 x] s)]) K := by
  obtain ⟨F, hF⟩ : ∃ F, r < F := ⟨r + 1, by omega⟩
  have e1 : ∀ k, ¬ F + k = r := fun k => by omega
  have e2 : ∀ k, ¬ r = F + k := fun k => by omega
  refine again_said.enter F (by simp) ?_
  simp [agV, e1, e2]
  intro s1
  exact RetV.view [(r, .row [.int .i64 e] s)] (by simp) hK
theorem cmp_isNaN_int_ok (n : Int) : APure Pg fn_cmp_isNaN_int [.int .i64 n] (.bool false) := by
  refine cmp_isNaN_int.pure (by simp) ?_
  simp
  exact RetV.refl rfl
def Ag.cmpI (a b : Int) : Int := if a < b then -1 else if b < a then 1 else 0
theorem cmp_Compare_int_ok (a b : Int) : APure Pg fn_cmp_Compare_int [.int .i64 a, .int .i64 b] (.int .i64 (Ag.cmpI a b)) := by
  refine cmp_Compare_int.pure (by simp) ?_
  simp
  refine FCall.pure (PInv.func (cmp_isNaN_int_ok _)) ?_
  simp
  refine FCall.pure (PInv.func (cmp_isNaN_int_ok _)) ?_
  unfold Ag.cmpI
  by_cases h1 : a < b
  · simp [h1]
    exact RetV.refl rfl
  · by_cases h2 : b < a
    · simp [h1, h2]
      exact RetV.refl rfl
    · simp [h1, h2]
      exact RetV.refl rfl
theorem again_open_1_ok (a b : Wrk) : APure Pg fn_again_open_1 [.agg (wkC a), .agg (wkC b)] (.int .i64 (Ag.cmpI a.d b.d)) := by
  refine again_open_1.pure (by simp) ?_
  simp [wkC]
  intro s1 s2
  refine FCall.pure (PInv.func (cmp_Compare_int_ok _ _)) ?_
  simp
  exact RetV.refl rfl
theorem again_hull_ok (a b : Int × Int) : APure Pg fn_again_hull [SP2 a, SP2 b] (SP2 (min a.1 b.1, max a.2 b.2)) := by
  refine again_hull.pure (by simp) ?_
  simp [SP2]
  intro s1 s2 s3
  exact RetV.refl (by simp)
theorem again_setOf_ok (i : Nat) (hi : i ≤ 50) : APure Pg fn_again_setOf [L [(i : Int)]] (.int .i64 (2 ^ i)) := by
  have hp := two_pow_pos i
  have hl := two_pow_le hi
  have e50 : (2 : Int) ^ 50 = 1125899906842624 := by decide
  have e62 : (2 : Int) ^ 62 = 4611686018427387904 := by decide
  have hw : IntKind.i64.wrap ((2 : Int) ^ i) = 2 ^ i := Ag.wrapI (by omega) (by omega)
  have hor : bitI .or .i64 0 (2 ^ i) = 2 ^ i := by
    have h0 : (0 : Int) = bits (fun _ => false) 60 := (bits_zero.2 fun _ _ => rfl).symm
    have h60 : i < 60 := by omega
    conv => lhs; rw [h0, ← bits_one h60]
    rw [bitsI_or _ _ (by omega)]
    conv => rhs; rw [← bits_one h60]
    exact bits_congr fun j _ => by simp
  refine again_setOf.pure (by simp) ?_
  simp
  refine Lp.intro (σ := Nat) (inv := fun k => k ≤ 1) (vw := fun k => [(2, .int .i64 (if k = 0 then 0 else 2 ^ i)), (5, L [(i : Int)]), (6, .int .i64 1), (7, .int .i64 k)]) (hp := fun _ => []) (ms := fun k => 1 - k) 0 (by omega) (by simp) (by simp) ?_
  intro k hk J hJ
  rcases (show k = 0 ∨ k = 1 by omega) with rfl | rfl
  · simp [hw, hor]
    (repeat first | refine And.intro (by omega) ?_ | refine And.intro (Fits.of (by omega) (by omega)) ?_)
    exact hJ.next 1 (by omega) (by omega) (by simp) (by simp)
  · simp
    refine hJ.exit ?_
    simp
    exact RetV.refl rfl
theorem again_lengths_sum_ok (f : Nat → Int) (hf : ∀ i, i < 6 → 0 ≤ f i ∧ f i ≤ 100) (s : Int) (hs : 0 ≤ s ∧ s < 2 ^ 62) : APure Pg fn_again_lengths_sum [.agg (ints (tab 6 f)), .int .i64 s] (.int .i64 (Ag.lenB f 6 (inS s))) := by
  refine again_lengths_sum.pure (by simp) ?_
  simp
  intro s2
  refine Lp.intro (σ := Nat) (inv := fun k => k ≤ 6) (vw := fun k => [(1, .int .i64 s), (4, .int .i64 (Ag.lenB f k (inS s))), (7, .agg (ints (tab 6 f))), (8, .int .i64 k)]) (hp := fun _ => []) (ms := fun k => 6 - k) 0 (by omega) (by simp [Ag.lenB]) (by simp) ?_
  intro k hk J hJ
  by_cases hkc : k < 6
  · have hkc' : (k : Int) < 6 := by omega
    have ht : (tab 6 f)[k]? = some (f k) := by rw [tab_get, if_pos hkc]
    have hfk := hf k hkc
    have hb := Ag.lenB_bound (n := k) (p := inS s) (f := f) (M := 100) (fun i hi => hf i (by omega)) (by omega)
    have hn := Ag.lenB_nonneg (n := k) (p := inS s) (f := f) (fun i hi => (hf i (by omega)).1)
    have hdv : 0 ≤ s / 2 ^ k := Int.ediv_nonneg hs.1 (by have := two_pow_pos k; omega)
    have hand := bitI_and1 hdv (by have := Int.ediv_le_self (2 ^ k) hs.1; omega)
    cases hq : inS s k with
    | false =>
      have hmod : ¬ s / 2 ^ k % 2 = 1 := by simpa [inS] using hq
      simp [hkc, hkc', ht, hand, hmod]
      (repeat first | refine And.intro (by omega) ?_ | refine And.intro (Fits.of (by omega) (by omega)) ?_)
      exact hJ.next (k + 1) (by omega) (by omega) (by simp [Ag.lenB, hq]) (by simp)
    | true =>
      have hmod : s / 2 ^ k % 2 = 1 := by simpa [inS] using hq
      simp [hkc, hkc', ht, hand, hmod]
      (repeat first | refine And.intro (by omega) ?_ | refine And.intro (Fits.of (by omega) (by omega)) ?_)
      exact hJ.next (k + 1) (by omega) (by omega) (by simp [Ag.lenB, hq]) (by simp)
  obtain rfl : k = 6 := by omega
  simp
  refine hJ.exit ?_
  simp
  exact RetV.refl rfl
theorem again_check_1_ok (n : Int) : APure Pg fn_again_check_1 [.int .i64 n] (.bool (!decide (1 ≤ n ∧ n ≤ 20))) := by
  refine again_check_1.pure (by simp) ?_
  simp
  refine PCallK.intro (PInv.func (again_within_ok _ _ _)) ?_
  simp
  exact RetV.refl (by simp)
theorem again_isWork_ok (a : Agn) (ha : a.f.length ≤ 40) (x : Wrk) : APure Pg fn_again_isWork [a.v, .agg (wkC x)] (.bool (decide (a.OkW x))) := by
  have hd : decide (a.OkW x) = (decide (0 ≤ x.s ∧ x.s ≤ (a.f.length : Int) - 1) && (decide (0 ≤ x.g ∧ x.g ≤ 3) && decide (0 ≤ x.d ∧ x.d ≤ a.t))) := by
    have : (0 ≤ x.s ∧ x.s < (a.n : Int)) ↔ (0 ≤ x.s ∧ x.s ≤ (a.f.length : Int) - 1) := by
      have : a.n = a.f.length := rfl
      omega
    unfold Agn.OkW
    simp only [this, Bool.decide_and]
  refine again_isWork.pure (by simp) ?_
  simp [wkC]
  intro s2 s3
  refine ⟨Fits.of (by omega) (by omega), ?_⟩
  refine PCallK.intro (PInv.func (again_within_ok _ _ _)) ?_
  cases h1 : decide (0 ≤ x.s ∧ x.s ≤ (a.f.length : Int) - 1) with
  | false =>
    rw [h1] at hd
    simp
    exact RetV.refl (by simp [hd])
  | true =>
  rw [h1] at hd
  simp
  refine PCallK.intro (PInv.func (again_within_ok _ _ _)) ?_
  cases h2 : decide (0 ≤ x.g ∧ x.g ≤ 3) with
  | false =>
    rw [h2] at hd
    simp
    exact RetV.refl (by simp [hd])
  | true =>
  rw [h2] at hd
  simp
  refine PCallK.intro (PInv.func (again_within_ok _ _ _)) ?_
  simp
  exact RetV.refl (by rw [hd]; simp)
theorem again_verdict_told_ok (p q : Bool) : APure Pg fn_again_verdict_told [.agg [.bool p, .bool q]] (.int .i64 (if p then (if q then 1 else 2) else (if q then 0 else 1))) := by
  refine again_verdict_told.pure (by simp) ?_
  cases p <;> cases q <;> simp <;> intro s1 <;> exact RetV.refl rfl
theorem Ag.bitsI_andNot (p q : Nat → Bool) {n : Nat} (hn : n ≤ 60) : bitI .andNot .i64 (bits p n) (bits q n) = bits (fun i => p i && !q i) n := by
  have ha := natB_lt62 p hn
  have hb := natB_lt62 q hn
  have hc := natB_lt62 (fun i => p i && !q i) hn
  rw [bits_natB, bits_natB, bits_natB]
  have key : (BitVec.ofNat 64 (natB p n) &&& ~~~(BitVec.ofNat 64 (natB q n))).toNat = natB (fun i => p i && !q i) n := by
    apply Nat.eq_of_testBit_eq
    intro i
    rw [← BitVec.getLsbD, BitVec.getLsbD_and, BitVec.getLsbD_not, BitVec.getLsbD_ofNat, BitVec.getLsbD_ofNat, natB_bit, natB_bit, natB_bit]
    by_cases hi : i < n
    · have : i < 64 := by omega
      simp [hi, this]
    · simp [hi]
  show IntKind.i64.wrap (Int.ofNat (BitVec.ofInt 64 (natB p n : Nat) &&& ~~~(BitVec.ofInt 64 (natB q n : Nat))).toNat) = _
  rw [BitVec.ofInt_natCast, BitVec.ofInt_natCast, key]
  have hh : ((natB (fun i => p i && !q i) n : Nat) : Int) < 2 ^ 62 := by exact_mod_cast hc
  simp [IntKind.wrap, IntKind.signed, IntKind.bits]
  omega
theorem Ag.andNot_yes {n : Nat} (hn : n ≤ 6) (u : Nat → Bool) {s : Int} (hs : 0 ≤ s ∧ s < 2 ^ n) : (decide (s ≠ 0) && decide (bitI .andNot .i64 s (bits u n) = 0)) = Ag.yesS n u s := by
  have e : bitI .andNot .i64 s (bits u n) = bits (fun i => inS s i && !u i) n := by
    conv => lhs; rw [← bits_of hs.1 hs.2]
    exact Ag.bitsI_andNot _ _ (by omega)
  rw [e, Bool.eq_iff_iff, Ag.yes_iff, Bool.and_eq_true, decide_eq_true_eq, decide_eq_true_eq, bits_zero]
  refine and_congr_right fun _ => ⟨fun h i hi hsi => ?_, fun h i hi => ?_⟩
  · have := h i hi
    rw [hsi] at this
    simpa using this
  · cases hsi : inS s i
    · rfl
    · rw [h i hi hsi]; rfl
theorem again_ship_verdict_1_ok {n : Nat} (hn : n ≤ 6) (u : Nat → Bool) {s : Int} (hs : 0 ≤ s ∧ s < 2 ^ n) : APure Pg fn_again_ship_verdict_1 [.int .i64 s, .pv [.int .i64 (bits u n)]] (.agg [.bool (Ag.yesS n u s), .bool (!Ag.yesS n u s)]) := by
  have hy := Ag.andNot_yes hn u hs
  refine again_ship_verdict_1.pure (by simp) ?_
  simp
  intro s1
  by_cases h0 : s = 0
  · simp [h0] at hy ⊢
    exact RetV.refl (by simp [← hy])
  · simp [h0] at hy ⊢
    rw [hy]
    exact RetV.refl (by simp)
theorem again_ship_verdict_2_ok (a b c d : Bool) : APure Pg fn_again_ship_verdict_2 [.agg [.bool a, .bool b], .agg [.bool c, .bool d]] (.agg [.bool (a || c), .bool (b || d)]) := by
  refine again_ship_verdict_2.pure (by simp) ?_
  cases a <;> cases b <;> simp <;> intro s1 s2 s3 <;> exact RetV.refl (by simp)
end Go.Cw
end

/- Again: works are sorted by their days. -/
section
set_option maxRecDepth 100000
set_option linter.unusedSimpArgs false
namespace Go.Cw
open Go Go.Proofs

theorem wks_set (l : List Wrk) {k : Nat} (hk : k < l.length) (x : Wrk) : setRange (wks l) (k * 3) [.int .i64 x.s, .int .i64 x.d, .int .i64 x.g] = wks (l.set k x) := by
  have e : l = l.take k ++ (l[k] :: l.drop (k + 1)) := by rw [← List.drop_eq_getElem_cons hk, List.take_append_drop]
  have e2 : l.set k x = l.take k ++ (x :: l.drop (k + 1)) := by rw [List.set_eq_take_append_cons_drop, if_pos hk]
  have app : ∀ a b : List Wrk, wks (a ++ b) = wks a ++ wks b := fun a b => by simp [wks, fl]
  have cons : ∀ (a : Wrk) (b : List Wrk), wks (a :: b) = [.int .i64 a.s, .int .i64 a.d, .int .i64 a.g] ++ wks b := fun a b => by simp [wks, fl, wkC]
  have hl : (wks (l.take k)).length = k * 3 := by rw [wks_length, List.length_take]; congr 1; omega
  rw [e2, app, cons]
  conv => lhs; rw [e, app, cons, ← hl]
  rw [setRange_app]
  simp
namespace Ag
def curW (pre : List Wrk) (x : Wrk) (rest : List Wrk) (j : Nat) : List Wrk := pre.take j ++ (x :: (pre.drop j ++ rest))
variable {pre : List Wrk} {x : Wrk} {rest : List Wrk}
theorem cur_len {j : Nat} (hj : j ≤ pre.length) : (curW pre x rest j).length = pre.length + 1 + rest.length := by
  unfold curW
  simp
  omega
theorem cur_at {j : Nat} (hj : j ≤ pre.length) : (curW pre x rest j)[j]? = some x := by
  unfold curW
  rw [List.getElem?_append_right (by simp; omega)]
  simp [Nat.min_eq_left hj]
theorem cur_pre {j : Nat} (hj : j < pre.length) : (curW pre x rest (j + 1))[j]? = some pre[j] := by
  unfold curW
  rw [List.getElem?_append_left (by simp; omega), List.getElem?_take, if_pos (by omega), List.getElem?_eq_getElem hj]
theorem cur_swap {j : Nat} (hj : j < pre.length) : ((curW pre x rest (j + 1)).set (j + 1) pre[j]).set j x = curW pre x rest j := by
  have ht : pre.take (j + 1) = pre.take j ++ [pre[j]] := (List.take_append_getElem hj).symm
  have hd : pre.drop j = pre[j] :: pre.drop (j + 1) := List.drop_eq_getElem_cons hj
  have hl : (pre.take j).length = j := by simp; omega
  unfold curW
  rw [ht, hd]
  apply List.ext_getElem?
  intro i
  simp only [List.getElem?_set, List.length_set, List.length_append, List.length_cons, List.length_nil, hl, List.getElem?_append, List.getElem?_cons]
  rcases Nat.lt_trichotomy i j with h | h | h
  · simp [h, show ¬ j = i by omega, show ¬ j + 1 = i by omega, show i < j + 1 by omega]
  · subst h
    simp
    omega
  · by_cases h2 : i = j + 1
    · subst h2
      simp
      omega
    · obtain ⟨m, rfl⟩ : ∃ m, i = j + 2 + m := ⟨i - (j + 2), by omega⟩
      simp [show ¬ j = j + 2 + m by omega, show ¬ j + 1 = j + 2 + m by omega, show ¬ j + 2 + m < j + 1 by omega, show ¬ j + 2 + m < j by omega, show j + 2 + m - (j + 1) = m + 1 by omega, show j + 2 + m - j = m + 2 by omega]
end Ag
theorem slices_insertion_ok (l : List Wrk) (hl : l.length ≤ 20) (r s : Nat) (hr : 600 ≤ r) (cap : Cap) (K : AEnd → Heap → Prop) (hK : K (.ret (.tup [])) (hpV [(r, .row (wks (Ag.sortW l)) s)])) :
    ACalls Pg fn_slices_insertionSortCmpFunc_api_AgainWork [.sl r 0 s l.length cap, .int .i64 0, .int .i64 l.length, .func (.func fn_again_open_1) [] []] (hpV [(r, .row (wks l) s)]) K := by
  have e1 : ∀ k, k < 600 → ¬ k = r := fun k hk => by omega
  have e2 : ∀ k, k < 600 → ¬ r = k := fun k hk => by omega
  refine slices_insertionSortCmpFunc_api_AgainWork.enter 0 (by simp) ?_
  simp
  (repeat first | refine And.intro (by omega) ?_ | refine And.intro (Fits.of (by omega) (by omega)) ?_)
  refine Lp.intro (σ := Nat) (inv := fun i => 1 ≤ i ∧ (i ≤ l.length ∨ i = 1)) (vw := fun i => [(0, .sl r 0 s l.length cap), (1, .int .i64 0), (2, .int .i64 l.length), (3, .func (.func fn_again_open_1) [] []), (8, .int .i64 i)])
    (hp := fun i => [(r, .row (wks (Ag.sortW (l.take i) ++ l.drop i)) s)]) (ms := fun i => l.length - i) 1 ⟨by omega, .inr rfl⟩ (by simp) ?_ ?_
  · have h1 : Ag.sortW (l.take 1) = l.take 1 := by
      cases l with
      | nil => rfl
      | cons a m => rfl
    have h2 : Ag.sortW (l.take 1) ++ l.drop 1 = l := by rw [h1, List.take_append_drop]
    show Hw [(r, .row (wks (Ag.sortW (l.take 1) ++ l.drop 1)) s)] _
    rw [h2]
    simp
  rintro i ⟨hi1, hi2⟩ J hJ
  by_cases hic : i < l.length
  · obtain ⟨x, hx⟩ : ∃ x, l[i] = x := ⟨_, rfl⟩
    obtain ⟨pre, hpre⟩ : ∃ pre, pre = Ag.sortW (l.take i) := ⟨_, rfl⟩
    obtain ⟨rest, hrest⟩ : ∃ rest, rest = l.drop (i + 1) := ⟨_, rfl⟩
    have hpl : pre.length = i := by rw [hpre, (Ag.sortW_perm _).length_eq]; simp; omega
    have hsrt : Ag.SortedW pre := by rw [hpre]; exact Ag.sortW_sorted _
    have hrl : rest.length = l.length - (i + 1) := by rw [hrest]; simp
    have hd : l.drop i = x :: rest := by rw [hrest, ← hx]; exact List.drop_eq_getElem_cons hic
    have h0 : Ag.sortW (l.take i) ++ l.drop i = Ag.curW pre x rest i := by
      rw [← hpre, hd]
      unfold Ag.curW
      rw [List.take_of_length_le (by omega), List.drop_eq_nil_of_le (by omega)]
      rfl
    have hcl : ∀ j, j ≤ i → (Ag.curW pre x rest j).length = l.length := fun j hj => by rw [Ag.cur_len (by omega)]; omega
    rw [h0]
    simp [hic]
    refine Lp.intro (σ := Nat) (inv := fun j => j ≤ i ∧ ∀ y ∈ pre.drop j, x.d < y.d) (vw := fun j => [(0, .sl r 0 s l.length cap), (1, .int .i64 0), (2, .int .i64 l.length), (3, .func (.func fn_again_open_1) [] []), (8, .int .i64 i), (9, .int .i64 j)])
      (hp := fun j => [(r, .row (wks (Ag.curW pre x rest j)) s)]) (ms := fun j => j) i ⟨by omega, by rw [List.drop_eq_nil_of_le (by omega)]; simp⟩ (by simp) (by simp) ?_
    rintro j ⟨hj, hlt⟩ J2 hJ2
    have done : (∀ y ∈ pre.take j, y.d ≤ x.d) → Ag.sortW (l.take (i + 1)) ++ l.drop (i + 1) = Ag.curW pre x rest j := fun h => by
      rw [← List.take_append_getElem hic, hx, Ag.sortW_push, ← hpre, Ag.insW_at x (by omega) hlt h, ← hrest]
      unfold Ag.curW
      simp
    by_cases hj0 : j = 0
    · subst hj0
      have hd0 := done (by simp)
      simp
      refine hJ2.exit ?_
      simp
      (repeat first | refine And.intro (by omega) ?_ | refine And.intro (Fits.of (by omega) (by omega)) ?_)
      refine hJ.next (i + 1) ⟨by omega, by omega⟩ (by omega) (by simp) ?_
      show Hw [(r, .row (wks (Ag.sortW (l.take (i + 1)) ++ l.drop (i + 1))) s)] _
      rw [hd0]
      simp
    obtain ⟨m, rfl⟩ : ∃ m, j = m + 1 := ⟨j - 1, by omega⟩
    have hml : m < pre.length := by omega
    have hm1 := Ag.cur_at (pre := pre) (x := x) (rest := rest) (j := m + 1) (by omega)
    have hm2 := Ag.cur_pre (pre := pre) (x := x) (rest := rest) hml
    obtain ⟨y, hy⟩ : ∃ y, pre[m] = y := ⟨_, rfl⟩
    rw [hy] at hm2
    have hcm := hcl (m + 1) hj
    have hsw := Ag.cur_swap (x := x) (rest := rest) hml
    rw [hy] at hsw
    have hmc : m + 1 < (Ag.curW pre x rest (m + 1)).length := by omega
    have hmc' : m < (Ag.curW pre x rest (m + 1)).length := by omega
    simp [hm1, hm2, hcm]
    repeat first | refine And.intro (by omega) ?_ | refine And.intro (Fits.of (by omega) (by omega)) ?_
    refine FCall.pure (PInv.func (first := []) (cap := []) (args := [.agg (wkC x), .agg (wkC y)]) (again_open_1_ok x y)) ?_
    by_cases hxy : x.d < y.d
    · have hc : Ag.cmpI x.d y.d = -1 := by unfold Ag.cmpI; rw [if_pos hxy]
      have hw1 := wks_set (Ag.curW pre x rest (m + 1)) hmc y
      have hw2 := wks_set ((Ag.curW pre x rest (m + 1)).set (m + 1) y) (k := m) (by simpa using hmc') x
      rw [hsw] at hw2
      simp [hc, hm1, hm2, hcm]
      rw [hw1, hw2]
      have hwl : (wks ((Ag.curW pre x rest (m + 1)).set (m + 1) y)).length = l.length * 3 := by simp [hcm]
      rw [hwl]
      repeat first | refine And.intro (by omega) ?_ | refine And.intro (Fits.of (by omega) (by omega)) ?_
      refine hJ2.next m ⟨by omega, fun z hz => ?_⟩ (by omega) (by simp) (by simp)
      rw [List.drop_eq_getElem_cons hml, hy] at hz
      rcases List.mem_cons.1 hz with rfl | hz
      · exact hxy
      · exact hlt z hz
    · have hc : 0 ≤ Ag.cmpI x.d y.d := by unfold Ag.cmpI; rw [if_neg hxy]; split <;> omega
      have hd0 := done (fun z hz => by
        have ht : pre.take (m + 1) = pre.take m ++ [y] := by rw [← List.take_append_getElem hml, hy]
        rw [ht] at hz
        rcases List.mem_append.1 hz with hz | hz
        · obtain ⟨k, hk, rfl⟩ := List.getElem_of_mem hz
          have hk' : k < m := by simp at hk; omega
          have := List.pairwise_iff_getElem.1 hsrt k m (by omega) hml hk'
          rw [hy] at this
          rw [List.getElem_take]
          omega
        · simp at hz; subst hz; omega)
      simp [show ¬ Ag.cmpI x.d y.d < 0 by omega]
      refine hJ2.exit ?_
      simp
      (repeat first | refine And.intro (by omega) ?_ | refine And.intro (Fits.of (by omega) (by omega)) ?_)
      refine hJ.next (i + 1) ⟨by omega, by omega⟩ (by omega) (by simp) ?_
      show Hw [(r, .row (wks (Ag.sortW (l.take (i + 1)) ++ l.drop (i + 1))) s)] _
      rw [hd0]
      simp
  · have hil : l.take i = l := List.take_of_length_le (by omega)
    have hid : l.drop i = [] := List.drop_eq_nil_of_le (by omega)
    simp [hic]
    refine hJ.exit ?_
    simp [hil, hid]
    exact RetV.view [(r, .row (wks (Ag.sortW l)) s)] (by simp) hK
theorem slices_stable_ok (l : List Wrk) (hl : l.length ≤ 19) (r s : Nat) (hr : 600 ≤ r) (cap : Cap) (K : AEnd → Heap → Prop) (hK : K (.ret (.tup [])) (hpV [(r, .row (wks (Ag.sortW l)) s)])) :
    ACalls Pg fn_slices_SortStableFunc_api_AgainWork_api_AgainWork [.sl r 0 s l.length cap, .func (.func fn_again_open_1) [] []] (hpV [(r, .row (wks l) s)]) K := by
  have e1 : ∀ k, k < 600 → ¬ k = r := fun k hk => by omega
  have e2 : ∀ k, k < 600 → ¬ r = k := fun k hk => by omega
  have main : ∀ K : AEnd → Heap → Prop, K (.ret (.tup [])) (hpV [(r, .row (wks (Ag.sortW l)) s)]) → ACalls Pg fn_slices_stableCmpFunc_api_AgainWork [.sl r 0 s l.length cap, .int .i64 l.length, .func (.func fn_again_open_1) [] []] (hpV [(r, .row (wks l) s)]) K := fun K hK => by
    have h20 : ¬ (20 : Int) ≤ l.length := by omega
    have h20' : ¬ (20 : Int) < l.length := by omega
    refine slices_stableCmpFunc_api_AgainWork.enter 0 (by simp) ?_
    simp
    refine Lp.intro (σ := Unit) (inv := fun _ => True) (vw := fun _ => [(0, .sl r 0 s l.length cap), (1, .int .i64 l.length), (2, .func (.func fn_again_open_1) [] []), (6, .int .i64 20), (7, .int .i64 0), (8, .int .i64 20)]) (hp := fun _ => [(r, .row (wks l) s)]) (ms := fun _ => 0) () trivial (by simp) (by simp) ?_
    intro _ _ J hJ
    simp [h20]
    refine hJ.exit ?_
    simp
    refine FCall.cps [(r, .row (wks l) s)] (fun _ : Unit => .tup []) (fun _ => [(r, .row (wks (Ag.sortW l)) s)]) (fun _ => True) (fun K' hK' => AInvoke.func (slices_insertion_ok l (by omega) r s hr cap K' (hK' () trivial))) (by simp) (fun _ => rfl) trivial (fun _ _ => ⟨trivial, ?_⟩)
    simp
    refine Lp.intro (σ := Unit) (inv := fun _ => True) (vw := fun _ => [(0, .sl r 0 s l.length cap), (1, .int .i64 l.length), (2, .func (.func fn_again_open_1) [] []), (6, .int .i64 20)]) (hp := fun _ => [(r, .row (wks (Ag.sortW l)) s)]) (ms := fun _ => 0) () trivial (by simp) (by simp) ?_
    intro _ _ J2 hJ2
    simp [h20']
    refine hJ2.exit ?_
    simp
    exact RetV.view [(r, .row (wks (Ag.sortW l)) s)] (by simp) hK
  refine slices_SortStableFunc_api_AgainWork_api_AgainWork.enter 0 (by simp) ?_
  simp
  refine FCall.cps [(r, .row (wks l) s)] (fun _ : Unit => .tup []) (fun _ => [(r, .row (wks (Ag.sortW l)) s)]) (fun _ => True) (fun K' hK' => AInvoke.func (main K' (hK' () trivial))) (by simp) (fun _ => rfl) trivial (fun _ _ => ⟨trivial, ?_⟩)
  simp
  exact RetV.view [(r, .row (wks (Ag.sortW l)) s)] (by simp) hK
end Go.Cw
end

/- Again: is a ship valid? -/
section
set_option maxRecDepth 100000
set_option linter.unusedSimpArgs false
namespace Go.Cw
open Go Go.Proofs

def idx (p : Int → Bool) (l : List Int) : Int := match l.findIdx? p with
  | some i => i
  | none => -1

theorem slices_IndexFunc_ok (l : List Int) (hl : l.length ≤ 100000) (f : AVal) (p : Int → Bool) (hf : ∀ x ∈ l, PInv Pg f [.int .i64 x] (.bool (p x))) : APure Pg fn_slices_IndexFunc_int_int [L l, f] (.int .i64 (idx p l)) := by
  refine slices_IndexFunc_int_int.pure (by simp) ?_
  simp
  refine Lp.intro (σ := Nat) (inv := fun k => k ≤ l.length ∧ ∀ j (h : j < l.length), j < k → p l[j] = false) (vw := fun k => [(0, L l), (1, f), (7, .int .i64 l.length), (8, .int .i64 k)]) (hp := fun _ => []) (ms := fun k => l.length - k) 0 (by simp) (by simp) (by simp) ?_
  rintro k ⟨hk, inv⟩ J hJ
  by_cases hkc : k < l.length
  · simp [hkc]
    refine FCall.pure (hf l[k] (by simp)) ?_
    cases q : p l[k]
    · simp
      (repeat first | refine And.intro (by omega) ?_ | refine And.intro (Fits.of (by omega) (by omega)) ?_)
      refine hJ.next (k + 1) ⟨by omega, fun j hj hjk => ?_⟩ (by omega) (by simp) (by simp)
      by_cases h : j = k
      · subst h; exact q
      · exact inv j hj (by omega)
    · simp
      refine hJ.ret ?_
      simp
      refine RetV.refl ?_
      have : l.findIdx? p = some k := by
        rw [List.findIdx?_eq_some_iff_getElem]
        exact ⟨hkc, q, fun j hj => by simp [inv j (by omega) hj]⟩
      simp [idx, this]
  · simp [hkc]
    refine hJ.exit ?_
    simp
    refine RetV.refl ?_
    have : l.findIdx? p = none := by
      rw [List.findIdx?_eq_none_iff]
      intro x hx
      obtain ⟨j, hj, rfl⟩ := List.getElem_of_mem hx
      exact inv j hj (by omega)
    simp [idx, this]

theorem idx_ge (p : Int → Bool) (l : List Int) : decide (0 ≤ idx p l) = l.any p := by
  unfold idx
  cases h : l.findIdx? p with
  | none =>
    rw [List.findIdx?_eq_none_iff] at h
    symm
    simpa [List.any_eq_false] using h
  | some i =>
    rw [List.findIdx?_eq_some_iff_getElem] at h
    obtain ⟨h1, h2, _⟩ := h
    symm
    simp only [Int.natCast_nonneg, decide_true, List.any_eq_true]
    exact ⟨l[i], by simp, h2⟩

theorem slices_ContainsFunc_ok (l : List Int) (hl : l.length ≤ 100000) (f : AVal) (p : Int → Bool) (hf : ∀ x ∈ l, PInv Pg f [.int .i64 x] (.bool (p x))) : APure Pg fn_slices_ContainsFunc_int_int [L l, f] (.bool (l.any p)) := by
  refine slices_ContainsFunc_int_int.pure (by simp) ?_
  simp
  refine FCall.pure (PInv.func (slices_IndexFunc_ok l hl f p hf)) ?_
  simp
  exact RetV.refl (by rw [idx_ge])

theorem again_check_all (a : Agn) (hs : a.Small) (is : Bool) (K : AEnd → Prop)
    (hK : K (if a.errO is = 0 then .ret (.tup []) else .pan (agV (a.errO is)))) : ACalls Pg fn_again_check [a.v, .bool is] nilH fun e _ => K e := by
  have hf40 := hs.f
  have hs40 := hs.h.s
  have hd40 := hs.h.d
  have hw40 := hs.w
  have cR := leak_Rate_ok a.h hs.h (-1)
  have hns : ¬ a.h.Seam (-1) := by unfold Hul.Seam; omega
  have hR : a.h.sumV (a.h.Seam (-1)) (2 ^ (-1 : Int).toNat) = .tup [SP2 (0, 0), .int .i64 (if a.h.Valid then 2 else 1)] := by
    unfold Hul.sumV
    by_cases hv : a.h.Valid <;> simp [hv, hns]
  rw [hR] at cR
  have cF := slices_ContainsFunc_ok a.f (by omega) (.func (.func fn_again_check_1) [] []) (fun n => !decide (1 ≤ n ∧ n ≤ 20)) fun x _ => PInv.func (again_check_1_ok x)
  have bad : ¬ a.Valid → K (.pan (agV 1)) := fun h => by
    have hE : a.errO is = 1 := by simp [Agn.errO, h]
    rw [hE] at hK
    exact hK
  refine again_check.enter 0 (by simp) ?_
  simp
  intro s2
  refine PCallK.intro (PInv.func (first := []) (cap := []) (args := [a.h.v, .int .i64 (-1)]) cR) ?_
  simp [SP2]
  intro s4
  by_cases hh : ¬ a.h.Valid
  · have hk := bad fun v => hh v.h
    simp [hh]
    refine FCall.pan (PInvPan.func (again_want_pan 1)) ?_
    simp
    exact ⟨_, HLe.refl _, hk⟩
  replace hh := Classical.not_not.1 hh
  by_cases h7 : ¬ a.h.snds.length < 8
  · have hk := bad fun v => h7 v.k7
    have h7' : ¬ (a.h.snds.length : Int) < 8 := by omega
    simp [hh, h7, h7']
    refine FCall.pan (PInvPan.func (again_want_pan 1)) ?_
    simp
    exact ⟨_, HLe.refl _, hk⟩
  replace h7 := Classical.not_not.1 h7
  have h7' : (a.h.snds.length : Int) < 8 := by omega
  by_cases hn : ¬ a.f.length = a.h.seams.length
  · have hk := bad fun v => hn v.len
    have hn' : ¬ (a.f.length : Int) = a.h.seams.length := by omega
    simp [hh, h7, h7', hn, hn']
    refine FCall.pan (PInvPan.func (again_want_pan 1)) ?_
    simp
    exact ⟨_, HLe.refl _, hk⟩
  replace hn := Classical.not_not.1 hn
  simp [hh, h7, h7', hn]
  refine FCall.pure (PInv.func cF) ?_
  by_cases hb : ¬ (a.f.any fun n => !decide (1 ≤ n ∧ n ≤ 20)) = false
  · have hk := bad fun v => hb (by rw [List.any_eq_false]; intro x hx; simpa using v.fa x hx)
    replace hb := (Bool.not_eq_false _).mp hb
    rw [hb]
    simp
    refine FCall.pan (PInvPan.func (again_want_pan 1)) ?_
    simp
    exact ⟨_, HLe.refl _, hk⟩
  replace hb := Classical.not_not.1 hb
  have hfa : ∀ x ∈ a.f, 1 ≤ x ∧ x ≤ 20 := by
    rw [List.any_eq_false] at hb
    exact fun x hx => by simpa using hb x hx
  rw [hb]
  simp
  refine FCall.pure (PInv.func (again_want_ok 1)) ?_
  simp
  refine PCallK.intro (PInv.func (again_within_ok _ _ _)) ?_
  by_cases hc : ¬ (0 ≤ a.c ∧ a.c ≤ 100)
  · have hk := bad fun v => hc v.co
    rw [decide_eq_false hc]
    simp
    refine FCall.pan (PInvPan.func (again_want_pan 1)) ?_
    simp
    exact ⟨_, HLe.refl _, hk⟩
  replace hc := Classical.not_not.1 hc
  rw [decide_eq_true hc]
  simp
  refine PCallK.intro (PInv.func (again_within_ok _ _ _)) ?_
  by_cases ht : ¬ (0 ≤ a.t ∧ a.t ≤ 5000)
  · have hk := bad fun v => ht v.to
    rw [decide_eq_false ht]
    simp
    refine FCall.pan (PInvPan.func (again_want_pan 1)) ?_
    simp
    exact ⟨_, HLe.refl _, hk⟩
  replace ht := Classical.not_not.1 ht
  rw [decide_eq_true ht]
  by_cases hw : ¬ a.w.length ≤ 12
  · have hk := bad fun v => hw v.w12
    have hw' : ¬ (a.w.length : Int) ≤ 12 := by omega
    simp [hw, hw']
    refine FCall.pan (PInvPan.func (again_want_pan 1)) ?_
    simp
    exact ⟨_, HLe.refl _, hk⟩
  replace hw := Classical.not_not.1 hw
  have hw' : (a.w.length : Int) ≤ 12 := by omega
  simp [hw, hw']
  refine FCall.pure (PInv.func (again_want_ok 1)) ?_
  simp
  refine Lp.intro (σ := Nat) (inv := fun k => k ≤ a.w.length ∧ ∀ x ∈ a.w.take k, a.OkW x) (vw := fun k => [(1, .bool is), (2, .ptr 2 0 (s2+1)), (58, LW a.w), (59, .int .i64 a.w.length), (60, .int .i64 k)])
    (hp := fun _ => [(2, .row a.cells (s2+1))]) (ms := fun k => a.w.length - k) 0 ⟨by omega, by simp⟩ (by simp) (by simp [Agn.cells]) ?_
  rintro k ⟨hk, inv⟩ J hJ
  by_cases hkc : k < a.w.length
  · obtain ⟨x, hx⟩ : ∃ x, a.w[k] = x := ⟨_, rfl⟩
    have cW := again_isWork_ok a hf40 x
    simp [hkc, hx, Agn.cells]
    refine ⟨by omega, fun s8 => ?_⟩
    refine PCallK.intro (PInv.func (first := []) (cap := []) (args := [a.v, .agg (wkC x)]) cW) ?_
    by_cases hq : ¬ a.OkW x
    · have hk := bad fun v => hq (v.wo x (by rw [← hx]; simp))
      rw [decide_eq_false hq]
      simp
      refine FCall.pan (PInvPan.func (again_want_pan 1)) ?_
      simp
      refine hJ.pan ?_
      simp
      exact ⟨_, HLe.refl _, hk⟩
    replace hq := Classical.not_not.1 hq
    rw [decide_eq_true hq]
    simp
    refine FCall.pure (PInv.func (again_want_ok 1)) ?_
    simp
    (repeat first | refine And.intro (by omega) ?_ | refine And.intro (Fits.of (by omega) (by omega)) ?_)
    refine hJ.next (k + 1) ⟨by omega, ?_⟩ (by omega) (by simp) (by simp [Agn.cells])
    rw [← List.take_append_getElem hkc, hx]
    intro y hy
    rcases List.mem_append.1 hy with hy | hy
    · exact inv y hy
    · simp at hy; subst hy; exact hq
  obtain rfl : k = a.w.length := by omega
  rw [List.take_length] at inv
  have hv : a.Valid := ⟨hh, h7, hn, hfa, hc, ht, hw, inv⟩
  simp
  refine hJ.exit ?_
  cases is with
  | false =>
    have hE : a.errO false = 2 := by simp [Agn.errO, hv]
    rw [hE] at hK
    simp
    refine FCall.pan (PInvPan.func (again_want_pan 2)) ?_
    simp
    exact ⟨_, HLe.refl _, hK⟩
  | true =>
    have hE : a.errO true = 0 := by simp [Agn.errO, hv]
    rw [hE] at hK
    simp
    refine FCall.pure (PInv.func (again_want_ok 2)) ?_
    simp
    exact RetV.refl hK
theorem again_check_ok (a : Agn) (hs : a.Small) (is : Bool) (hc : a.errO is = 0) : APure Pg fn_again_check [a.v, .bool is] (.tup []) :=
  APure.of_nil (again_check_all a hs is (fun e => e = .ret (.tup [])) (by rw [if_pos hc]))
theorem again_check_pan (a : Agn) (hs : a.Small) (is : Bool) (hc : ¬ a.errO is = 0) : APan Pg fn_again_check [a.v, .bool is] (agV (a.errO is)) :=
  APan.of_nil (again_check_all a hs is (fun e => e = .pan (agV (a.errO is))) (by rw [if_neg hc]))
end Go.Cw
end

/- Again: a ship is opened. -/
section
set_option maxRecDepth 100000
set_option linter.unusedSimpArgs false
namespace Go.Cw
open Go Go.Proofs

def ekI (n : Int) : AVal := .int .i64 n
def Ag.fW (p : List Wrk) (k : Int) : AVal := .agg (wkC ((Ag.endW p k).getD ⟨0, 0, 0⟩))
def Ag.mO (p : List Wrk) (s : Nat) : AObj := .map (entsK ekI (Ag.fW p) (Ag.keysW p)) s
theorem renO_entsK {κ : Type} {ek f : κ → AVal} {M : List κ} {s r nm : Nat} (h1 : ∀ k, ren r nm (ek k) = ek k) (h2 : ∀ k, ren r nm (f k) = f k) : renO r nm (.map (entsK ek f M) s) = .map (entsK ek f M) s := by
  simp only [renO, entsK, List.map_map]
  congr 1
  refine List.map_congr_left fun k _ => ?_
  simp [h1, h2]
theorem ekI_law : KeyLaw (false, [.i]) ekI := keyLaw_int .i64
namespace Ag
theorem fW_same (p : List Wrk) (x : Wrk) : fW (p ++ [x]) x.s = .agg [.int .i64 x.s, .int .i64 x.d, .int .i64 x.g] := by
  unfold fW
  rw [endW_push, if_pos rfl]
  rfl
theorem fW_ne (p : List Wrk) (x : Wrk) {k : Int} (h : k ≠ x.s) : fW (p ++ [x]) k = fW p k := by
  unfold fW
  rw [endW_push, if_neg fun e => h e.symm]
theorem fW_stay {p : List Wrk} {x : Wrk} (h : endW p x.s = some x) : fW (p ++ [x]) = fW p ∧ keysW (p ++ [x]) = keysW p := by
  refine ⟨funext fun k => ?_, ?_⟩
  · unfold fW
    rw [endW_push]
    split
    · rename_i e
      rw [← e, h]
    · rfl
  · rw [keysW_push]
    unfold insK
    rw [if_pos (mem_keysW.2 ⟨x, h⟩)]
end Ag
namespace Agn
variable (a : Agn)
def mapO (s : Nat) : AObj := Ag.mO (Ag.sortW a.w) s
def shipC (m s : Nat) (S : AVal) : List AVal := [LS a.h.seams, LD a.h.snds, L a.f, .int .i64 a.c, LW a.w, .int .i64 a.t] ++ (ints (tab 6 a.F) ++ [.map m s, S])
theorem shipC_len (m s : Nat) (S : AVal) : (a.shipC m s S).length = 14 := rfl
theorem copyF {f : List Int} (hf : f.length ≤ 6) (m S : AVal) : setRange [.int .i64 0, .int .i64 0, .int .i64 0, .int .i64 0, .int .i64 0, .int .i64 0, m, S] 0 (ints f) = ints (tab 6 (ofL f)) ++ [m, S] := by
  match f, hf with
  | [], _ => rfl
  | [x1], _ => rfl
  | [x1, x2], _ => rfl
  | [x1, x2, x3], _ => rfl
  | [x1, x2, x3, x4], _ => rfl
  | [x1, x2, x3, x4, x5], _ => rfl
  | [x1, x2, x3, x4, x5, x6], _ => rfl
  | _ :: _ :: _ :: _ :: _ :: _ :: _ :: _, h => simp at h
end Agn
theorem again_open_all (a : Agn) (hs : a.Small) (is : Bool) (K : AEnd → Heap → Prop)
    (hK : a.errO is = 0 → ∀ s s', RetV K (hpV [(200, a.mapO s), (201, .row (a.shipC 200 s .nils) s')]) (.ptr 201 0 s')) (hP : ¬ a.errO is = 0 → ∀ hh, K (.pan (agV (a.errO is))) hh) :
    ACalls Pg fn_again_open [a.v, .bool is] (hpV [(200, .dead), (201, .dead)]) K := by
  refine again_open.enter 700 (by simp) ?_
  simp
  intro s2
  by_cases hc : ¬ a.errO is = 0
  · refine FCall.pan (PInvPan.func (first := []) (cap := []) (args := [a.v, .bool is]) (again_check_pan a hs is hc)) ?_
    simp
    exact ⟨_, HLe.refl _, hP hc _⟩
  replace hc := Classical.not_not.1 hc
  obtain ⟨hv, his⟩ := Agn.errO_zero.1 hc
  have hn6 := hv.n6
  have hw12 := hv.w12
  have hfn : a.f.length = a.n := rfl
  refine FCall.pure (PInv.func (first := []) (cap := []) (args := [a.v, .bool is]) (again_check_ok a hs is hc)) ?_
  have hmin : min a.f.length 6 = a.f.length := by omega
  have htf : a.f.take a.f.length = a.f := List.take_of_length_le (Nat.le_refl _)
  have htw : a.w.take a.w.length = a.w := List.take_of_length_le (Nat.le_refl _)
  have hcf := Agn.copyF (f := a.f) (by omega)
  have htk : (wks a.w).take (a.w.length * 3) = wks a.w := List.take_of_length_le (by simp)
  simp
  intro s16 s18
  refine ⟨by omega, fun s29 => ⟨⟨by omega, by omega⟩, fun s7 => ?_⟩⟩
  simp [hmin, htf, htw, hcf]
  refine FCall.cps [(729, .row (wks a.w) (s29+1))] (fun _ : Unit => .tup []) (fun _ => [(729, .row (wks (Ag.sortW a.w)) (s29+1))]) (fun _ => True) (fun K' hK' => AInvoke.func (slices_stable_ok a.w (by omega) 729 (s29+1) (by omega) _ K' (hK' () trivial))) (by simp [htk]) (fun _ => rfl) trivial (fun _ _ => ⟨trivial, ?_⟩)
  obtain ⟨W, hW⟩ : ∃ W, W = Ag.sortW a.w := ⟨_, rfl⟩
  have hWl : W.length = a.w.length := by rw [hW]; exact (Ag.sortW_perm _).length_eq
  have hWs : ∀ w ∈ W, 0 ≤ w.s ∧ w.s < 6 := fun w hw => by
    rw [hW] at hw
    have := (hv.wo w ((Ag.sortW_perm _).mem_iff.1 hw)).1
    omega
  rw [← hW]
  have hship : ∀ s, a.shipC 716 s .nils = [LS a.h.seams, LD a.h.snds, L a.f, .int .i64 a.c, LW a.w, .int .i64 a.t] ++ (ints (tab 6 a.F) ++ [.map 716 s, .nils]) := fun _ => rfl
  simp
  refine Lp.intro (σ := Nat) (inv := fun k => k ≤ W.length) (vw := fun k => [(5, .ptr 718 0 (s18+1)), (39, .sl 729 0 (s29+1) W.length (.ex W.length)), (40, .int .i64 W.length), (41, .int .i64 k)])
    (hp := fun k => [(716, Ag.mO (W.take k) (s16+1)), (718, .row (a.shipC 716 (s16+1) .nils) (s18+1)), (729, .row (wks W) (s29+1))]) (ms := fun k => W.length - k) 0 (by omega) (by simp [hWl]) (by simp [hship, Ag.mO, Ag.keysW, entsK]; rfl) ?_
  intro k hk J hJ
  by_cases hkc : k < W.length
  · obtain ⟨x, hx⟩ : ∃ x, W[k] = x := ⟨_, rfl⟩
    have hget : W[k]? = some x := by rw [List.getElem?_eq_getElem hkc, hx]
    obtain ⟨p, hp⟩ : ∃ p, p = W.take k := ⟨_, rfl⟩
    have hst : W.take (k + 1) = p ++ [x] := by rw [hp, ← hx]; exact (List.take_append_getElem hkc).symm
    rw [← hp]
    have hkl : p.length = k := by rw [hp, List.length_take]; omega
    simp [hkc, hget, hx, hship, Ag.mO]
    refine ⟨by omega, fun s9 => ?_⟩
    rw [show AVal.int .i64 x.s = ekI x.s from rfl, aLookup_K ekI_law (k := x.s) (M := Ag.keysW p) (f := Ag.fW p) (by simp)]
    by_cases hm : x.s ∈ Ag.keysW p
    · obtain ⟨v, hv'⟩ := Ag.mem_keysW.1 hm
      have hfv : Ag.fW p x.s = .agg [.int .i64 v.s, .int .i64 v.d, .int .i64 v.g] := by unfold Ag.fW; rw [hv']; rfl
      simp [hm, hfv, ekI]
      intro s10
      by_cases hvx : v = x
      · subst hvx
        obtain ⟨h1, h2⟩ := Ag.fW_stay hv'
        simp
        (repeat first | refine And.intro (by omega) ?_ | refine And.intro (Fits.of (by omega) (by omega)) ?_)
        exact hJ.next (k + 1) (by omega) (by omega) (by simp) (by simp [hst, Ag.mO, h1, h2, hship])
      · have hb : (!v.s == x.s || (!v.d == x.d || !v.g == x.g)) = true := by
          refine Classical.byContradiction fun hn => hvx ?_
          simp at hn
          cases v
          cases x
          simp_all
        simp [hb]
        refine osat_iff.2 ⟨_, mapU_K ekI_law (k := x.s) (M := Ag.keysW p) (f := Ag.fW p) (f' := Ag.fW (p ++ [x])) (m := 716) (s := s16 + 1) (Ag.keysW_nodup p) (by simp) (by simp) (by simp [ekI]) (by simp [Ag.fW_same]) (fun y _ hy => Ag.fW_ne p x hy), ?_⟩
        rw [← Ag.keysW_push]
        simp
        (repeat first | refine And.intro (by omega) ?_ | refine And.intro (Fits.of (by omega) (by omega)) ?_)
        exact hJ.next (k + 1) (by omega) (by omega) (by simp) (by simp [hst, Ag.mO, hship])
    · simp [hm, ekI]
      intro s10
      refine osat_iff.2 ⟨_, mapU_K ekI_law (k := x.s) (M := Ag.keysW p) (f := Ag.fW p) (f' := Ag.fW (p ++ [x])) (m := 716) (s := s16 + 1) (Ag.keysW_nodup p) (by simp) (by simp) (by simp [ekI]) (by simp [Ag.fW_same]) (fun y _ hy => Ag.fW_ne p x hy), ?_⟩
      rw [← Ag.keysW_push]
      simp
      (repeat first | refine And.intro (by omega) ?_ | refine And.intro (Fits.of (by omega) (by omega)) ?_)
      exact hJ.next (k + 1) (by omega) (by omega) (by simp) (by simp [hst, Ag.mO, hship])
  obtain rfl : k = W.length := by omega
  rw [List.take_length]
  simp
  refine hJ.exit ?_
  simp
  refine RetV.moveH 716 200 (RetV.moveH 718 201 ?_)
  have e : ren 718 201 (ren 716 200 (AVal.ptr 718 0 (s18 + 1))) = .ptr 201 0 (s18 + 1) := by simp [ren]
  rw [e]
  refine RetV.le (VLe.wk (HLe.view (k := [(200, a.mapO (s16+1)), (201, .row (a.shipC 200 (s16+1) .nils) (s18+1))]) ?_)) (hK hc _ _)
  have r1 : ∀ r nm, renO r nm (Ag.mO W (s16 + 1)) = Ag.mO W (s16 + 1) := fun r nm => renO_entsK (fun k => by simp [ekI, ren]) (fun k => by simp [Ag.fW, wkC, ren, renL])
  have r2 : ∀ r nm (l m : List AVal), renL r nm (l ++ m) = renL r nm l ++ renL r nm m := fun r nm l m => by
    induction l with
    | nil => rfl
    | cons a l ih => simp [ih]
  simp [renH, r1, Agn.mapO, ← hW, Agn.shipC, r2]
theorem again_open_frz (a : Agn) (hs : a.Small) (is : Bool) (he : a.errO is = 0) (K : AEnd → Heap → Prop) (hK : ∀ s, K (.ret (.pv (a.shipC 200 s .nils))) (hpV [(200, a.mapO s)])) :
    ACalls Pg fn_again_open [a.v, .bool is] (hpV [(200, .dead)]) K := by
  have h1 : hpV [(200, AObj.dead)] = hpV [(200, .dead), (201, .dead)] := by rw [hpV_dead1 200, hpV_cons, hpV_dead1 201, upd_dead rfl]
  rw [h1]
  refine again_open_all a hs is K (fun _ s s' => ?_) (fun h => absurd he h)
  refine RetV.frz 201 (cells := a.shipC 200 s .nils) (s := s') (by simp) ?_
  simp
  exact RetV.view [(200, a.mapO s)] (by simp) (hK s)
theorem again_open_pan (a : Agn) (hs : a.Small) (is : Bool) (he : ¬ a.errO is = 0) : APan Pg fn_again_open [a.v, .bool is] (agV (a.errO is)) := by
  refine APan.of_nil ?_
  have := again_open_all a hs is (fun e _ => e = .pan (agV (a.errO is))) (fun h => absurd h he) (fun _ _ => rfl)
  have h1 : hpV [(200, AObj.dead), (201, .dead)] = nilH := by rw [hpV_cons, hpV_dead1 201, upd_dead rfl]
  rw [h1] at this
  exact this
end Go.Cw
end

/- Again: a ship is looked at; which seams are under promise. -/
section
set_option maxRecDepth 100000
set_option linter.unusedSimpArgs false
namespace Go.Cw
open Go Go.Proofs

theorem Agn.shipC_set (a : Agn) (m s : Nat) (S T : AVal) : setRange (a.shipC m s S) 13 [T] = a.shipC m s T := rfl
theorem again_look_all (a : Agn) (hs : a.Small) (is : Bool) (K : AEnd → Heap → Prop)
    (hK : a.errL is = 0 → ∀ s, K (.ret (.pv (a.shipC 200 s (L a.S)))) (hpV [(200, a.mapO s)])) (hP : ¬ a.errL is = 0 → ∀ hh, K (.pan (agV (a.errL is))) hh) :
    ACalls Pg fn_again_look [a.v, .bool is] (hpV [(200, .dead)]) K := by
  refine again_look.enter 0 (by simp) ?_
  simp
  intro s2
  by_cases hc : ¬ a.errO is = 0
  · have hL := Agn.errL_O hc
    refine FCall.pan (PInvPan.func (first := []) (cap := []) (args := [a.v, .bool is]) (again_open_pan a hs is hc)) ?_
    simp
    have := hP (by rw [hL]; exact hc)
    rw [hL] at this
    exact ⟨_, HLe.refl _, this _⟩
  replace hc := Classical.not_not.1 hc
  obtain ⟨hv, his⟩ := Agn.errO_zero.1 hc
  refine FCall.cps [(200, .dead), (201, .dead)] (fun x : Nat × Nat => .ptr 201 0 x.2) (fun x => [(200, a.mapO x.1), (201, .row (a.shipC 200 x.1 .nils) x.2)]) (fun _ => True) (fun K' hK' => AInvoke.func (first := []) (cap := []) (args := [a.v, .bool is]) (again_open_all a hs is K' (fun _ s s' => RetV.view [(200, a.mapO s), (201, .row (a.shipC 200 s .nils) s')] (by simp) (hK' (s, s') trivial)) (fun h => absurd hc h))) (by simp) (fun _ => rfl) trivial ?_
  rintro ⟨s, s'⟩ _
  refine ⟨trivial, ?_⟩
  simp
  refine PCallK.intro (PInv.func (first := []) (cap := []) (args := [a.h.v]) (leak_Sets_ok a.h hs.h)) ?_
  by_cases ht : a.h.truths a.h.every = []
  · have hS := Agn.S_nil.2 ht
    have h10 : a.errL is = 10 := by simp [Agn.errL, hv, his, hS]
    have hk := hP (by rw [h10]; decide)
    rw [h10] at hk
    simp [Hul.setsV, hv.h, ht]
    refine FCall.pan (PInvPan.func (again_want_pan 10)) ?_
    simp
    exact ⟨_, HLe.refl _, hk _⟩
  have hS := mt Agn.S_nil.1 ht
  have h0 : a.errL is = 0 := Agn.errL_zero.2 ⟨hv, his, hS⟩
  have hSV : a.h.setsV = .tup [L a.S, .int .i64 0] := by simp [Hul.setsV, hv.h, ht]; rfl
  have hset := a.shipC_set 200 s .nils (L a.S)
  have hl14 := a.shipC_len 200 s .nils
  rw [hSV]
  simp
  refine FCall.pure (PInv.func (again_want_ok 0)) ?_
  simp [hset, hl14]
  refine RetV.frz 201 (cells := a.shipC 200 s (L a.S)) (s := s') (by simp) ?_
  simp
  exact RetV.view [(200, a.mapO s)] (by simp) (hK h0 s)
theorem again_look_pan (a : Agn) (hs : a.Small) (is : Bool) (he : ¬ a.errL is = 0) : APan Pg fn_again_look [a.v, .bool is] (agV (a.errL is)) := by
  refine APan.of_nil ?_
  have := again_look_all a hs is (fun e _ => e = .pan (agV (a.errL is))) (fun h => absurd h he) (fun _ _ => rfl)
  rw [hpV_dead1 200] at this
  exact this
theorem Agn.work_rng {a : Agn} (hv : a.Valid) {i : Int} {w : Wrk} (h : Ag.lastW a.w i = some w) : w.s = i ∧ (0 ≤ i ∧ i < a.n) ∧ (0 ≤ w.g ∧ w.g ≤ 3) ∧ 0 ≤ w.d ∧ w.d ≤ a.t := by
  obtain ⟨h1, h2, _⟩ := Ag.lastW_spec h
  obtain ⟨h3, h4, h5⟩ := hv.wo w h1
  exact ⟨h2, by rw [← h2]; exact h3, h4, h5⟩
def Agn.keys (a : Agn) : List Int := Ag.keysW (Ag.sortW a.w)
theorem Agn.mem_keys {a : Agn} {k : Int} : k ∈ a.keys ↔ ∃ w, Ag.lastW a.w k = some w := by
  unfold Agn.keys
  rw [Ag.mem_keysW, Ag.endW_sort]
theorem Agn.fW_last {a : Agn} {k : Int} {w : Wrk} (h : Ag.lastW a.w k = some w) : Ag.fW (Ag.sortW a.w) k = .agg [.int .i64 w.s, .int .i64 w.d, .int .i64 w.g] := by
  unfold Ag.fW
  rw [Ag.endW_sort, h]
  rfl
theorem Ag.keys_step {M D : List Int} (hM : M.Nodup) {left : List Nat} {i : Nat} {k : Int} (hi : i ∈ left) (hk : M[i]? = some k) (h : (D ++ keysAt M left).Perm M) :
    (∀ x : Int, x ∈ keysAt M left ↔ x = k ∨ x ∈ keysAt M (left.erase i)) ∧ k ∉ keysAt M (left.erase i) := by
  have h1 : (keysAt M left).Perm (k :: keysAt M (left.erase i)) := by
    have := (List.perm_cons_erase hi).filterMap (M[·]?)
    simpa [keysAt, hk] using this
  refine ⟨fun x => by rw [h1.mem_iff]; simp, ?_⟩
  have h2 := h.nodup_iff.2 hM
  rw [List.nodup_append] at h2
  have h3 := h1.nodup_iff.1 h2.2.1
  rw [List.nodup_cons] at h3
  exact h3.1
theorem again_ship_promised_ok (a : Agn) (hv : a.Valid) (s : Nat) (S : AVal) (d : Int) (hd : 0 ≤ d ∧ d ≤ 1000000) (K : AEnd → Heap → Prop) (hK : K (.ret (.int .i64 (a.under d))) (hpV [(200, a.mapO s)])) :
    ACalls Pg fn_again_ship_promised [.pv (a.shipC 200 s S), .int .i64 d] (hpV [(200, a.mapO s)]) K := by
  have hn6 := hv.n6
  have e6 : (2 : Int) ^ 6 = 64 := by decide
  have hto := hv.to
  have hMn : a.keys.Nodup := Ag.keysW_nodup _
  have hmap : a.mapO s = .map (entsK ekI (Ag.fW (Ag.sortW a.w)) a.keys) s := rfl
  have h12 : (a.shipC 200 s S).drop 12 = [.map 200 s, S] := rfl
  obtain ⟨M, hM⟩ : ∃ M, M = a.keys := ⟨_, rfl⟩
  obtain ⟨f, hf⟩ : ∃ f, f = Ag.fW (Ag.sortW a.w) := ⟨_, rfl⟩
  rw [hmap, ← hM, ← hf] at hK ⊢
  rw [← hM] at hMn
  refine again_ship_promised.enter 0 (by simp) ?_
  simp [h12]
  intro s11
  refine Lp.intro (σ := List Int × List Nat × Option Nat) (inv := fun t => (t.1 ++ keysAt M t.2.1).Perm M)
    (vw := fun t => [(0, .pv (a.shipC 200 s S)), (1, .int .i64 d), (4, .int .i64 (bits (Ag.gotB a.w d (keysAt M t.2.1)) a.n)), (11, .ptr 11 0 (s11+1))])
    (hp := fun t => [(200, .map (entsK ekI f M) s), (11, .iter (some (200, s)) M.length t.2.1 t.2.2 (s11+1))])
    (ms := fun t => M.length - t.1.length) ([], List.range M.length, none) (by simp [keysAt_range]) ?_ (by simp) ?_
  · have h0 : bits (Ag.gotB a.w d (keysAt M (List.range M.length))) a.n = 0 := by
      rw [keysAt_range]
      exact bits_zero.2 fun i _ => Ag.got_all a.w d (fun k => by rw [hM]; exact Agn.mem_keys) i
    simp [h0]
  rintro ⟨D, left, cur⟩ hp J hJ
  have hpl := hp.length_eq
  rw [List.length_append] at hpl
  simp only at hpl
  simp
  refine xNextM_K rfl (fun hl => ?_) (fun i k hi hk => ?_)
  · subst hl
    have h0 : bits (Ag.gotB a.w d (keysAt M [])) a.n = a.under d := bits_congr fun i _ => Ag.got_none a.w d i
    simp
    refine hJ.exit ?_
    simp [h0]
    exact RetV.view [(200, .map (entsK ekI f M) s)] (by simp) hK
  · have hk1 := keysAt_step hi hk hp
    obtain ⟨hk2, hk3⟩ := Ag.keys_step hMn hi hk hp
    have hkl : (D ++ [k]).length ≤ M.length := by rw [← hk1.length_eq]; simp
    simp only [List.length_append, List.length_cons, List.length_nil] at hkl
    obtain ⟨w, hw⟩ := Agn.mem_keys.1 (by rw [← hM]; exact List.mem_of_getElem? hk)
    obtain ⟨hws, hkr, hwg, hwd⟩ := Agn.work_rng hv hw
    obtain ⟨j, rfl⟩ : ∃ j : Nat, k = j := ⟨k.toNat, by omega⟩
    have hjn : j < a.n := by omega
    have hfk : f (j : Int) = .agg [.int .i64 w.s, .int .i64 w.d, .int .i64 w.g] := by rw [hf]; exact Agn.fW_last hw
    have hgs : bits (Ag.gotB a.w d (keysAt M (left.erase i))) a.n = bits (fun x => Ag.gotB a.w d (keysAt M left) x || (decide (x = j) && decide (d - w.d ≤ 365))) a.n := bits_congr fun x _ => Ag.got_step hk2 hk3 hw x
    simp
    refine ⟨_, _, by rw [entsK_get, hk]; rfl, ?_⟩
    simp [hfk, ekI]
    intro s6
    refine ⟨Fits.of (by omega) (by omega), ?_⟩
    by_cases hle : d - w.d ≤ 365
    · have hor : bitI .or .i64 (bits (Ag.gotB a.w d (keysAt M left)) a.n) (2 ^ j) = bits (Ag.gotB a.w d (keysAt M (left.erase i))) a.n := by
        rw [hgs, ← bits_one hjn, bitsI_or _ _ (by omega)]
        exact bits_congr fun x _ => by simp [hle]
      simp [hle]
      intro s24
      refine FCall.frz1 24 rfl (v := .int .i64 (2 ^ j)) ?_ (by simp) ?_
      · simpa [L] using PInv.func (first := []) (cap := []) (args := [L [(j : Int)]]) (again_setOf_ok j (by omega))
      simp [hor]
      exact hJ.next (D ++ [(j : Int)], left.erase i, some i) hk1 (by simp; omega) (by simp) (by simp)
    · have hor : bits (Ag.gotB a.w d (keysAt M (left.erase i))) a.n = bits (Ag.gotB a.w d (keysAt M left)) a.n := by
        rw [hgs]
        exact bits_congr fun x _ => by simp [hle]
      simp [hle]
      exact hJ.next (D ++ [(j : Int)], left.erase i, some i) hk1 (by simp; omega) (by simp [hor]) (by simp)
section
variable {F n₀ : Nat} {inr : Bool} {keep : List Nat} {fa fl : List It} {t : Option Nat} {K : KT} {Q : Post} {tm : TM} {df : DF} {h : Heap}
theorem FCall.promised {a : Agn} (hv : a.Valid) {s : Nat} {S : AVal} {d : Int} (hd : 0 ≤ d ∧ d ≤ 1000000) (hw : h 200 = a.mapO s) (f : FaOk F fa tm h)
    (next : FlOk fl (putD tm t (.int .i64 (a.under d))) (upd h 200 (a.mapO s)) ∧ K (putD tm t (.int .i64 (a.under d))) df (upd h 200 (a.mapO s))) :
    FCall ⟨Pg, F, n₀, inr, keep⟩ (.func (.func fn_again_ship_promised) [] []) [.pv (a.shipC 200 s S), .int .i64 d] fa fl t K Q tm df h := by
  refine FCall.cps [(200, a.mapO s)] (fun _ : Unit => .int .i64 (a.under d)) (fun _ => [(200, a.mapO s)]) (fun _ => True) (fun K' hK' => AInvoke.func (first := []) (cap := []) (args := [.pv (a.shipC 200 s S), .int .i64 d]) (again_ship_promised_ok a hv s S d hd K' (hK' () trivial))) ⟨hw, trivial⟩ (fun _ => rfl) f (fun _ _ => by simpa using next)
end
end Go.Cw
end

/- Again: who pays for seams that leak; spans; verdicts. -/
section
set_option maxRecDepth 100000
set_option linter.unusedSimpArgs false
namespace Go.Cw
open Go Go.Proofs

namespace Ag
def hasP (P : Wrk → Bool) (W : List Wrk) (i : Nat) : Bool := match lastW W i with
  | some w => P w
  | none => false
def gotP (P : Wrk → Bool) (W : List Wrk) (left : List Int) (i : Nat) : Bool := hasP P W i && !decide ((i : Int) ∈ left)
theorem lenB_cut {f : Nat → Int} {n : Nat} {p : Nat → Bool} : ∀ {m : Nat}, n ≤ m → (∀ i, n ≤ i → i < m → p i = false) → lenB f m p = lenB f n p
  | 0, h, _ => by obtain rfl : n = 0 := by omega
                  rfl
  | m + 1, h, hz => by
    by_cases e : n = m + 1
    · rw [e]
    · have h1 := lenB_cut (f := f) (p := p) (m := m) (by omega) fun i h2 h3 => hz i h2 (by omega)
      simp only [lenB]
      rw [h1, hz m (by omega) (by omega)]
      simp
end Ag
inductive Payer where
  | yard
  | owner
def Payer.v : Payer → AVal
  | .yard => .iface 79 (.agg [])
  | .owner => .iface 81 (.agg [])
def Payer.u (a : Agn) : Payer → Nat → Bool
  | .yard => Ag.pr a.w a.t
  | .owner => fun i => !Ag.pr a.w a.t i
section
variable {a : Agn} (hv : a.Valid) {s : Nat} {S : AVal} {x : Int} (hx : 0 ≤ x ∧ x < 2 ^ a.n)
include hv hx
theorem again_yard_seams_ok (K : AEnd → Heap → Prop) (hK : K (.ret (.int .i64 (bits (fun i => inS x i && Ag.pr a.w a.t i) a.n))) (hpV [(200, a.mapO s)])) :
    ACalls Pg fn_again_yard_seams [.agg [], .pv (a.shipC 200 s S), .int .i64 x] (hpV [(200, a.mapO s)]) K := by
  have hn6 := hv.n6
  have hto := hv.to
  have h5 : (a.shipC 200 s S).drop 5 = .int .i64 a.t :: (ints (tab 6 a.F) ++ [.map 200 s, S]) := rfl
  have hand : bitI .and .i64 x (a.under a.t) = bits (fun i => inS x i && Ag.pr a.w a.t i) a.n := by
    unfold Agn.under
    conv => lhs; rw [← bits_of hx.1 hx.2]
    exact bitsI_and _ _ (by omega)
  refine again_yard_seams.enter 0 (by simp) ?_
  simp [h5]
  intro s3
  refine FCall.promised hv (by omega) (by simp) (by simp) ?_
  simp [hand]
  exact RetV.view [(200, a.mapO s)] (by simp) hK
theorem FCall.yardS {F n₀ : Nat} {inr : Bool} {keep : List Nat} {fa fl : List It} {t : Option Nat} {K : KT} {Q : Post} {tm : TM} {df : DF} {h : Heap} (hw : h 200 = a.mapO s) (f : FaOk F fa tm h)
    (next : FlOk fl (putD tm t (.int .i64 (bits (fun i => inS x i && Ag.pr a.w a.t i) a.n))) (upd h 200 (a.mapO s)) ∧ K (putD tm t (.int .i64 (bits (fun i => inS x i && Ag.pr a.w a.t i) a.n))) df (upd h 200 (a.mapO s))) :
    FCall ⟨Pg, F, n₀, inr, keep⟩ (.func (.func fn_again_yard_seams) [] []) [.agg [], .pv (a.shipC 200 s S), .int .i64 x] fa fl t K Q tm df h := by
  refine FCall.cps [(200, a.mapO s)] (fun _ : Unit => .int .i64 (bits (fun i => inS x i && Ag.pr a.w a.t i) a.n)) (fun _ => [(200, a.mapO s)]) (fun _ => True) (fun K' hK' => AInvoke.func (first := []) (cap := []) (args := [.agg [], .pv (a.shipC 200 s S), .int .i64 x]) (again_yard_seams_ok hv hx K' (hK' () trivial))) ⟨hw, trivial⟩ (fun _ => rfl) f (fun _ _ => by simpa using next)
theorem again_owner_seams_ok (K : AEnd → Heap → Prop) (hK : K (.ret (.int .i64 (bits (fun i => inS x i && !Ag.pr a.w a.t i) a.n))) (hpV [(200, a.mapO s)])) :
    ACalls Pg fn_again_owner_seams [.agg [], .pv (a.shipC 200 s S), .int .i64 x] (hpV [(200, a.mapO s)]) K := by
  have hn6 := hv.n6
  have hand : bitI .andNot .i64 x (bits (fun i => inS x i && Ag.pr a.w a.t i) a.n) = bits (fun i => inS x i && !Ag.pr a.w a.t i) a.n := by
    conv => lhs; rw [← bits_of hx.1 hx.2]
    rw [Ag.bitsI_andNot _ _ (by omega)]
    refine bits_congr fun i hi => ?_
    show (inS x i && !(inS (bits (inS x) a.n) i && _)) = _
    rw [inS_bits _ hi]
    cases inS x i <;> simp
  refine again_owner_seams.enter 0 (by simp) ?_
  simp
  intro s3
  refine FCall.yardS hv hx (by simp) (by simp) ?_
  simp [hand]
  exact RetV.view [(200, a.mapO s)] (by simp) hK
end
theorem seams_yard : MethAt Pg 79 "caulkworks/again.seams" fn_again_yard_seams := ⟨fun _ _ => by kernel_rfl⟩
theorem seams_owner : MethAt Pg 81 "caulkworks/again.seams" fn_again_owner_seams := ⟨fun _ _ => by kernel_rfl⟩
theorem payer_seams {a : Agn} (hv : a.Valid) {s : Nat} {S : AVal} {x : Int} (hx : 0 ≤ x ∧ x < 2 ^ a.n) (p : Payer) (K : AEnd → Heap → Prop) (hK : K (.ret (.int .i64 (bits (fun i => inS x i && p.u a i) a.n))) (hpV [(200, a.mapO s)])) :
    AInvoke Pg (.func (.method "caulkworks/again.seams") [p.v] []) [.pv (a.shipC 200 s S), .int .i64 x] (hpV [(200, a.mapO s)]) K := by
  cases p with
  | yard => exact AInvoke.meth seams_yard (again_yard_seams_ok hv hx K hK)
  | owner => exact AInvoke.meth seams_owner (again_owner_seams_ok hv hx K hK)
end Go.Cw
end

/- Again: what is told of all sets of seams that can leak. -/
section
set_option maxRecDepth 100000
set_option linter.unusedSimpArgs false
namespace Go.Cw
open Go Go.Proofs

theorem Ag.inS_big {n : Nat} {q : Int} (hq : 0 ≤ q ∧ q < 2 ^ n) {i : Nat} (hi : n ≤ i) : inS q i = false := by
  unfold inS
  have h1 : (2 : Int) ^ n ≤ 2 ^ i := two_pow_le hi
  rw [Int.ediv_eq_zero_of_lt hq.1 (by omega)]
  simp
theorem Agn.F_in {a : Agn} (hv : a.Valid) : ∀ i, i < 6 → 0 ≤ a.F i ∧ a.F i ≤ 100 := fun i _ => by
  by_cases hi : i < a.n
  · have := hv.fat hi; omega
  · unfold Agn.F
    rw [ofL_none _ (show a.f.length ≤ i from Nat.le_of_not_lt hi)]
    omega
theorem Agn.pay_bits {a : Agn} (hv : a.Valid) (u : Nat → Bool) (x : Int) : Ag.lenB a.F 6 (inS (bits (fun i => inS x i && u i) a.n)) = Ag.payS a.F a.n u x := by
  have hn6 := hv.n6
  unfold Ag.payS
  rw [Ag.lenB_cut (n := a.n) hn6 fun i h1 h2 => Ag.inS_big (bits_lt _ _) h1]
  exact Ag.lenB_congr fun i hi => inS_bits _ hi
theorem Agn.pay_bound {a : Agn} (hv : a.Valid) (u : Nat → Bool) (x : Int) : 0 ≤ Ag.payS a.F a.n u x ∧ Ag.payS a.F a.n u x ≤ 600 := by
  have hn6 := hv.n6
  unfold Ag.payS
  have h1 := Ag.lenB_nonneg (f := a.F) (n := a.n) (p := fun i => inS x i && u i) fun i hi => (Agn.F_in hv i (by omega)).1
  have h2 := Ag.lenB_bound (f := a.F) (n := a.n) (p := fun i => inS x i && u i) (M := 100) (fun i hi => Agn.F_in hv i (by omega)) (by omega)
  omega
theorem again_ship_span_1_ok {a : Agn} (hv : a.Valid) {s : Nat} {S : AVal} {x : Int} (hx : 0 ≤ x ∧ x < 2 ^ a.n) (p : Payer) (K : AEnd → Heap → Prop) (hK : K (.ret (SP2 (Ag.payS a.F a.n (p.u a) x, Ag.payS a.F a.n (p.u a) x))) (hpV [(200, a.mapO s)])) :
    ACalls Pg fn_again_ship_span_1 [.int .i64 x, .pv [.func (.func fn_again_lengths_sum) [] []], .pv [.pv (a.shipC 200 s S)], .pv [p.v]] (hpV [(200, a.mapO s)]) K := by
  have hn6 := hv.n6
  have e6 : (2 : Int) ^ 6 = 64 := by decide
  have h2p := two_pow_le hn6
  have e62 : (2 : Int) ^ 62 = 4611686018427387904 := by decide
  have h6 : (a.shipC 200 s S).drop 6 = ints (tab 6 a.F) ++ [.map 200 s, S] := rfl
  have ht6 : (ints (tab 6 a.F) ++ [AVal.map 200 s, S]).take 6 = ints (tab 6 a.F) := rfl
  have hb := bits_lt (fun i => inS x i && p.u a i) a.n
  have cS := again_lengths_sum_ok a.F (Agn.F_in hv) (bits (fun i => inS x i && p.u a i) a.n) (by omega)
  rw [Agn.pay_bits hv] at cS
  refine again_ship_span_1.enter 0 (by simp) ?_
  simp [h6, ht6]
  intro s5
  refine FCall.cps [(200, a.mapO s)] (fun _ : Unit => .int .i64 (bits (fun i => inS x i && p.u a i) a.n)) (fun _ => [(200, a.mapO s)]) (fun _ => True) (fun K' hK' => payer_seams hv hx p K' (hK' () trivial)) (by simp) (fun _ => rfl) (by simp) (fun _ _ => ⟨?_, ?_⟩)
  · simp [h6, ht6]
  simp
  refine FCall.pure (PInv.func cS) ?_
  simp
  exact RetV.view [(200, a.mapO s)] (by simp) (by simpa [SP2] using hK)
theorem again_joined_span_ok {g : Int → Int} (S : List Int) (hS : S ≠ []) (hl : S.length ≤ 100000) (of : AVal) (o : AObj) (hof : ∀ x ∈ S, ∀ K : AEnd → Heap → Prop, K (.ret (SP2 (g x, g x))) (hpV [(200, o)]) → AInvoke Pg of [.int .i64 x] (hpV [(200, o)]) K)
    (K : AEnd → Heap → Prop) (hK : K (.ret (SP2 (Ag.jn g S))) (hpV [(200, o)])) : ACalls Pg fn_again_joined_api_Span [L S, of, .func (.func fn_again_hull) [] []] (hpV [(200, o)]) K := by
  obtain ⟨b, T, rfl⟩ := List.exists_cons_of_ne_nil hS
  have hTl : T.length ≤ 100000 := by simp at hl; omega
  obtain ⟨ac, hac⟩ : ∃ ac : Nat → Int × Int, ac = fun k => (T.take k).foldl (Ag.jst g) (g b, g b) := ⟨_, rfl⟩
  have hac0 : ac 0 = (g b, g b) := by rw [hac]; rfl
  have hacs : ∀ k (h : k < T.length), ac (k + 1) = (min (ac k).1 (g T[k]), max (ac k).2 (g T[k])) := fun k h => by
    rw [hac]
    simp only
    rw [← List.take_append_getElem h, List.foldl_append]
    rfl
  have hacE : ac T.length = Ag.jn g (b :: T) := by rw [hac]; simp only [List.take_length]; rfl
  rw [← hacE] at hK
  clear hac
  have call : ∀ x ∈ b :: T, ∀ {F n₀ : Nat} {inr : Bool} {keep : List Nat} {fa fl : List It} {t : Option Nat} {K : KT} {Q : Post} {tm : TM} {df : DF} {h : Heap}, h 200 = o → FaOk F fa tm h →
      (FlOk fl (putD tm t (SP2 (g x, g x))) (upd h 200 o) ∧ K (putD tm t (SP2 (g x, g x))) df (upd h 200 o)) → FCall ⟨Pg, F, n₀, inr, keep⟩ of [.int .i64 x] fa fl t K Q tm df h := fun x hx F n₀ inr keep fa fl t K Q tm df h hw f next =>
    FCall.cps [(200, o)] (fun _ : Unit => SP2 (g x, g x)) (fun _ => [(200, o)]) (fun _ => True) (fun K' hK' => hof x hx K' (hK' () trivial)) ⟨hw, trivial⟩ (fun _ => rfl) f (fun _ _ => by simpa using next)
  refine again_joined_api_Span.enter 0 (by simp) ?_
  simp
  intro s6
  refine call b (by simp) (by simp) trivial ⟨trivial, ?_⟩
  simp [SP2]
  intro s7
  refine ⟨by omega, ?_⟩
  refine Lp.intro (σ := Nat) (inv := fun k => k ≤ T.length) (vw := fun k => [(1, of), (2, .func (.func fn_again_hull) [] []), (6, .ptr 6 0 (s6+1)), (7, .ptr 7 0 (s7+1)), (16, L T), (17, .int .i64 T.length), (18, .int .i64 k)])
    (hp := fun k => [(200, o), (6, .row [.int .i64 0, .int .i64 0] (s6+1)), (7, .row [.int .i64 (ac k).1, .int .i64 (ac k).2] (s7+1))]) (ms := fun k => T.length - k) 0 (by omega) (by simp [L]) (by simp [hac0]) ?_
  intro k hk J hJ
  by_cases hkc : k < T.length
  · obtain ⟨x, hx⟩ : ∃ x, T[k] = x := ⟨_, rfl⟩
    have hst := hacs k hkc
    rw [hx] at hst
    simp [hkc, hx]
    refine call x (by rw [← hx]; simp) (by simp) (by simp) ⟨by simp, ?_⟩
    simp [SP2]
    refine FCall.pure (PInv.func (first := []) (cap := []) (args := [SP2 ((ac k).1, (ac k).2), SP2 (g x, g x)]) (again_hull_ok _ _)) ?_
    simp [SP2]
    (repeat first | refine And.intro (by omega) ?_ | refine And.intro (Fits.of (by omega) (by omega)) ?_)
    exact hJ.next (k + 1) (by omega) (by omega) (by simp) (by simp [hst])
  obtain rfl : k = T.length := by omega
  simp
  refine hJ.exit ?_
  simp
  refine RetV.view [(200, o)] (by simp) ?_
  simpa [SP2] using hK
theorem again_ship_span_ok {a : Agn} (hv : a.Valid) (hS : a.S ≠ []) (s : Nat) (p : Payer) (K : AEnd → Heap → Prop) (hK : K (.ret (SP2 (a.spanP (p.u a)))) (hpV [(200, a.mapO s)])) :
    ACalls Pg fn_again_ship_span [.pv (a.shipC 200 s (L a.S)), p.v] (hpV [(200, a.mapO s)]) K := by
  have hSl := Agn.S_len hv
  have h13 : (a.shipC 200 s (L a.S)).drop 13 = [L a.S] := rfl
  obtain ⟨pv, hpv⟩ : ∃ pv, pv = p.v := ⟨_, rfl⟩
  have hac : acells pv = some [pv] := by rw [hpv]; cases p <;> rfl
  have hfz : ∀ r s cells, frz r s cells pv = pv := fun r s cells => by rw [hpv]; cases p <;> simp [Payer.v]
  obtain ⟨sh, hsh⟩ : ∃ sh, sh = AVal.pv (a.shipC 200 s (L a.S)) := ⟨_, rfl⟩
  rw [← hpv]
  refine again_ship_span.enter 0 (by simp) ?_
  simp [h13, hac]
  intro s2 s3 s4 s5
  refine FCall.cps [(200, a.mapO s), (5, .row [.func (.func fn_again_lengths_sum) [] []] (s5+1)), (2, .row [.pv (a.shipC 200 s (L a.S))] (s2+1)), (3, .row [pv] (s3+1))] (fun _ : Unit => SP2 (a.spanP (p.u a))) (fun _ => [(200, a.mapO s), (5, .dead), (2, .dead), (3, .dead)]) (fun _ => True) (fun K' hK' => ?_) (by simp) (fun _ => rfl) (by simp) (fun _ _ => ⟨by simp, ?_⟩)
  · have hd : hpV [(200, a.mapO s), (5, .dead), (2, .dead), (3, .dead)] = hpV [(200, a.mapO s)] := by
      simp only [hpV_cons, hpV_nil]
      rw [upd_dead (h := nilH) rfl, upd_dead (h := nilH) rfl, upd_dead (h := nilH) rfl]
    have hk := hK' () trivial
    rw [hd] at hk
    refine AInvoke.frz 5 (cells := [.func (.func fn_again_lengths_sum) [] []]) (s := s5+1) (by simp) (AInvoke.frz 2 (cells := [.pv (a.shipC 200 s (L a.S))]) (s := s2+1) (by simp) (AInvoke.frz 3 (cells := [pv]) (s := s3+1) (by simp) ?_))
    simp [hfz]
    refine AInvoke.heap (h' := hpV [(200, a.mapO s)]) ?_ (AInvoke.func (first := []) (cap := []) (args := [L a.S, .func (.func fn_again_ship_span_1) [] [.pv [.func (.func fn_again_lengths_sum) [] []], .pv [.pv (a.shipC 200 s (L a.S))], .pv [pv]], .func (.func fn_again_hull) [] []])
      (again_joined_span_ok a.S hS (by omega) _ (a.mapO s) (fun x hx K hK => AInvoke.func (first := []) (cap := [.pv [.func (.func fn_again_lengths_sum) [] []], .pv [.pv (a.shipC 200 s (L a.S))], .pv [pv]]) (args := [.int .i64 x]) ?_) K' hk))
    · funext x
      simp only [hpV_cons, hpV_nil]
      by_cases h3 : x = 3
      · subst h3; rfl
      by_cases h2 : x = 2
      · subst h2; rfl
      by_cases h5 : x = 5
      · subst h5; rfl
      simp [upd_ne, h3, h2, h5]
    · rw [hpv]
      exact again_ship_span_1_ok hv (Agn.S_in hv x hx) p K hK
  simp [SP2]
  exact RetV.view [(200, a.mapO s)] (by simp) (by simpa [SP2] using hK)
end Go.Cw
end

/- Again: verdicts. -/
section
set_option maxRecDepth 100000
set_option linter.unusedSimpArgs false
namespace Go.Cw
open Go Go.Proofs

theorem again_joined_verdict_ok {g1 g2 : Int → Bool} (S : List Int) (hS : S ≠ []) (hl : S.length ≤ 100000) (of : AVal) (hof : ∀ x ∈ S, PInv Pg of [.int .i64 x] (.agg [.bool (g1 x), .bool (g2 x)])) :
    APure Pg fn_again_joined_again_verdict [L S, of, .func (.func fn_again_ship_verdict_2) [] []] (.agg [.bool (S.any g1), .bool (S.any g2)]) := by
  obtain ⟨b, T, rfl⟩ := List.exists_cons_of_ne_nil hS
  have hTl : T.length ≤ 100000 := by simp at hl; omega
  obtain ⟨p, hp⟩ : ∃ p : Nat → Bool, p = fun k => (b :: T.take k).any g1 := ⟨_, rfl⟩
  obtain ⟨q, hq⟩ : ∃ q : Nat → Bool, q = fun k => (b :: T.take k).any g2 := ⟨_, rfl⟩
  have hp0 : p 0 = g1 b := by rw [hp]; simp
  have hq0 : q 0 = g2 b := by rw [hq]; simp
  have hps : ∀ k (h : k < T.length), p (k + 1) = (p k || g1 T[k]) := fun k h => by
    rw [hp]
    simp only
    rw [← List.take_append_getElem h, ← List.cons_append, List.any_append]
    simp
  have hqs : ∀ k (h : k < T.length), q (k + 1) = (q k || g2 T[k]) := fun k h => by
    rw [hq]
    simp only
    rw [← List.take_append_getElem h, ← List.cons_append, List.any_append]
    simp
  have hpE : p T.length = (b :: T).any g1 := by rw [hp]; simp only [List.take_length]
  have hqE : q T.length = (b :: T).any g2 := by rw [hq]; simp only [List.take_length]
  rw [← hpE, ← hqE]
  clear hp hq
  refine again_joined_again_verdict.pure (by simp) ?_
  simp
  intro s6
  refine FCall.pure (hof b (by simp)) ?_
  simp
  intro s7
  refine ⟨by omega, ?_⟩
  refine Lp.intro (σ := Nat) (inv := fun k => k ≤ T.length) (vw := fun k => [(1, of), (2, .func (.func fn_again_ship_verdict_2) [] []), (6, .ptr 6 0 (s6+1)), (7, .ptr 7 0 (s7+1)), (16, L T), (17, .int .i64 T.length), (18, .int .i64 k)])
    (hp := fun k => [(6, .row [.bool false, .bool false] (s6+1)), (7, .row [.bool (p k), .bool (q k)] (s7+1))]) (ms := fun k => T.length - k) 0 (by omega) (by simp [L]) (by simp [hp0, hq0]) ?_
  intro k hk J hJ
  by_cases hkc : k < T.length
  · obtain ⟨x, hx⟩ : ∃ x, T[k] = x := ⟨_, rfl⟩
    have h1 := hps k hkc
    have h2 := hqs k hkc
    rw [hx] at h1 h2
    simp [hkc, hx]
    refine FCall.pure' (hof x (by rw [← hx]; simp)) (by simp) (by simp) ?_
    simp
    refine FCall.pure (PInv.func (again_ship_verdict_2_ok _ _ _ _)) ?_
    simp
    (repeat first | refine And.intro (by omega) ?_ | refine And.intro (Fits.of (by omega) (by omega)) ?_)
    exact hJ.next (k + 1) (by omega) (by omega) (by simp) (by simp [h1, h2])
  obtain rfl : k = T.length := by omega
  simp
  refine hJ.exit ?_
  simp
  exact RetV.refl (by simp)
def Ag.verV (n : Nat) (u : Nat → Bool) (S : List Int) : AVal := .agg [.bool (S.any (Ag.yesS n u)), .bool (S.any fun x => !Ag.yesS n u x)]
theorem again_ship_verdict_ok {a : Agn} (hv : a.Valid) (S : List Int) (hS : S ≠ []) (hl : S.length ≤ 100000) (hSi : ∀ x ∈ S, 0 ≤ x ∧ x < 2 ^ a.n) (s : Nat) (SV : AVal) (d : Int) (hd : 0 ≤ d ∧ d ≤ 1000000) (K : AEnd → Heap → Prop) (hK : K (.ret (Ag.verV a.n (Ag.pr a.w d) S)) (hpV [(200, a.mapO s)])) :
    ACalls Pg fn_again_ship_verdict [.pv (a.shipC 200 s SV), L S, .int .i64 d] (hpV [(200, a.mapO s)]) K := by
  have hn6 := hv.n6
  refine again_ship_verdict.enter 0 (by simp) ?_
  simp
  intro s6
  refine FCall.promised hv hd (by simp) (by simp) ⟨by simp, ?_⟩
  simp
  intro s7
  refine FCall.frz1 7 rfl (v := Ag.verV a.n (Ag.pr a.w d) S) ?_ (by simp) ?_
  · simp
    exact PInv.func (first := []) (cap := []) (args := [L S, .func (.func fn_again_ship_verdict_1) [] [.pv [.int .i64 (a.under d)]], .func (.func fn_again_ship_verdict_2) [] []]) (again_joined_verdict_ok S hS hl _ fun x hx => PInv.func (first := []) (cap := [.pv [.int .i64 (a.under d)]]) (args := [.int .i64 x]) (again_ship_verdict_1_ok hn6 _ (hSi x hx)))
  simp [Ag.verV]
  exact RetV.view [(200, a.mapO s)] (by simp) (by simpa [Ag.verV] using hK)
section
variable {F n₀ : Nat} {inr : Bool} {keep : List Nat} {fa fl : List It} {t : Option Nat} {K : KT} {Q : Post} {tm : TM} {df : DF} {h : Heap}
theorem FCall.verdict {a : Agn} (hv : a.Valid) {S : List Int} (hS : S ≠ []) (hl : S.length ≤ 100000) (hSi : ∀ x ∈ S, 0 ≤ x ∧ x < 2 ^ a.n) {s : Nat} {SV : AVal} {d : Int} (hd : 0 ≤ d ∧ d ≤ 1000000) (hw : h 200 = a.mapO s) (f : FaOk F fa tm h)
    (next : FlOk fl (putD tm t (Ag.verV a.n (Ag.pr a.w d) S)) (upd h 200 (a.mapO s)) ∧ K (putD tm t (Ag.verV a.n (Ag.pr a.w d) S)) df (upd h 200 (a.mapO s))) :
    FCall ⟨Pg, F, n₀, inr, keep⟩ (.func (.func fn_again_ship_verdict) [] []) [.pv (a.shipC 200 s SV), L S, .int .i64 d] fa fl t K Q tm df h := by
  refine FCall.cps [(200, a.mapO s)] (fun _ : Unit => Ag.verV a.n (Ag.pr a.w d) S) (fun _ => [(200, a.mapO s)]) (fun _ => True) (fun K' hK' => AInvoke.func (first := []) (cap := []) (args := [.pv (a.shipC 200 s SV), L S, .int .i64 d]) (again_ship_verdict_ok hv S hS hl hSi s SV d hd K' (hK' () trivial))) ⟨hw, trivial⟩ (fun _ => rfl) f (fun _ _ => by simpa using next)
theorem FCall.spanA {a : Agn} (hv : a.Valid) (hS : a.S ≠ []) {s : Nat} (p : Payer) {pv : AVal} (hp : pv = p.v) (hw : h 200 = a.mapO s) (f : FaOk F fa tm h)
    (next : FlOk fl (putD tm t (SP2 (a.spanP (p.u a)))) (upd h 200 (a.mapO s)) ∧ K (putD tm t (SP2 (a.spanP (p.u a)))) df (upd h 200 (a.mapO s))) :
    FCall ⟨Pg, F, n₀, inr, keep⟩ (.func (.func fn_again_ship_span) [] []) [.pv (a.shipC 200 s (L a.S)), pv] fa fl t K Q tm df h := by
  subst hp
  refine FCall.cps [(200, a.mapO s)] (fun _ : Unit => SP2 (a.spanP (p.u a))) (fun _ => [(200, a.mapO s)]) (fun _ => True) (fun K' hK' => AInvoke.func (first := []) (cap := []) (args := [.pv (a.shipC 200 s (L a.S)), p.v]) (again_ship_span_ok hv hS s p K' (hK' () trivial))) ⟨hw, trivial⟩ (fun _ => rfl) f (fun _ _ => by simpa using next)
theorem FCall.look {a : Agn} (hs : a.Small) {is : Bool} (he : a.errL is = 0) (hw : h 200 = .dead) (f : FaOk F fa tm h)
    (next : ∀ s, FlOk fl (putD tm t (.pv (a.shipC 200 s (L a.S)))) (upd h 200 (a.mapO s)) ∧ K (putD tm t (.pv (a.shipC 200 s (L a.S)))) df (upd h 200 (a.mapO s))) :
    FCall ⟨Pg, F, n₀, inr, keep⟩ (.func (.func fn_again_look) [] []) [a.v, .bool is] fa fl t K Q tm df h := by
  refine FCall.cps [(200, .dead)] (fun s : Nat => .pv (a.shipC 200 s (L a.S))) (fun s => [(200, a.mapO s)]) (fun _ => True) (fun K' hK' => AInvoke.func (first := []) (cap := []) (args := [a.v, .bool is]) (again_look_all a hs is K' (fun _ s => hK' s trivial) (fun h => absurd he h))) ⟨hw, trivial⟩ (fun _ => rfl) f (fun s _ => by simpa using next s)
theorem FCall.lookP {a : Agn} (hs : a.Small) {is : Bool} (he : ¬ a.errL is = 0) (k : Q (.panic (agV (a.errL is))) (kpT keep tm) df h) : FCall ⟨Pg, F, n₀, inr, keep⟩ (.func (.func fn_again_look) [] []) [a.v, .bool is] [] [] t K Q tm df h :=
  FCall.pan (PInvPan.func (first := []) (cap := []) (args := [a.v, .bool is]) (again_look_pan a hs is he)) k
end
end Go.Cw
end
