/-
  What the functions of layer 3 compute.
-/
import Derived.Test.YtjjhmpfealnciaaGreatQa
import Derived.Test.YtjjhmpfealnciaaGreatGa
import Derived.Test.YtjjhmpfealnciaaGreatAf
import Derived.Test.YtjjhmpfealnciaaGreatLa
import Derived.Test.YtjjhmpfealnciaaGreatWa
set_option linter.unusedVariables false
set_option linter.unusedSimpArgs false
set_option linter.unusedSectionVars false

/- Rake: the program's small functions. -/
section
set_option maxRecDepth 100000
set_option linter.unusedSimpArgs false
namespace Go.Cw
open Go Go.Proofs

theorem Rk.wrapI {n : Int} (h0 : 0 ≤ n) (h1 : n < 2 ^ 62) : IntKind.i64.wrap n = n := by
  have e : (2 : Int) ^ 62 = 4611686018427387904 := by decide
  exact wrap_fits (by unfold Fits; omega)
theorem rake_within_ok (n lo hi : Int) : APure Pg fn_rake_within [.int .i64 n, .int .i64 lo, .int .i64 hi] (.bool (decide (lo ≤ n ∧ n ≤ hi))) := by
  refine rake_within.pure (by simp) ?_
  by_cases h : lo ≤ n <;> simp [h] <;> refine RetV.refl ?_ <;> simp_all
def rkV (e : Int) : AVal := .iface 135 (.agg [.int .i64 e])
theorem rake_want_ok (e : Int) : APure Pg fn_rake_want [.bool true, .int .i64 e] (.tup []) := by
  refine rake_want.pure (by simp) ?_
  simp
  exact RetV.refl rfl
theorem rake_want_pan (e : Int) : APan Pg fn_rake_want [.bool false, .int .i64 e] (rkV e) := by
  refine APan.of_nil (rake_want.enter 0 (by simp) ?_)
  simp
  exact ⟨_, HLe.refl _, rfl⟩
theorem rake_said_nil (p : AVal) : APure Pg fn_rake_said [.nili, p] (.tup []) := by
  refine rake_said.pure (by simp) ?_
  simp
  exact RetV.refl rfl
theorem rake_said_ref (e x : Int) (r s : Nat) (K : AEnd → Heap → Prop) (hK : K (.ret (.tup [])) (hpV [(r, .row [.int .i64 e] s)])) : ACalls Pg fn_rake_said [rkV e, .ptr r 0 s] (hpV [(r, .row [.int .i64 x] s)]) K := by
  obtain ⟨F, hF⟩ : ∃ F, r < F := ⟨r + 1, by omega⟩
  have e1 : ∀ k, ¬ F + k = r := fun k => by omega
  have e2 : ∀ k, ¬ r = F + k := fun k => by omega
  refine rake_said.enter F (by simp) ?_
  simp [rkV, e1, e2]
  intro s1
  exact RetV.view [(r, .row [.int .i64 e] s)] (by simp) hK

def knV (q p : Int) : AVal := .agg [.int .i64 q, .int .i64 p]
theorem rake_known_with_ok {n : Nat} (hn : n ≤ 6) {q p : Int} (h : Rk.Kn n q p) {i : Nat} (hi : i < n) (hq : inS q i = false) (b : Bool) :
    APure Pg fn_rake_known_with [.agg [.int .i64 q, .int .i64 p], .int .i64 i, .bool b] (.agg [.int .i64 (q + 2 ^ i), .int .i64 (Rk.lk p i b)]) := by
  have h1 := two_pow_le (show i ≤ 6 by omega)
  have h2 := two_pow_pos i
  have e6 : (2 : Int) ^ 6 = 64 := by decide
  have hw : IntKind.i64.wrap ((2 : Int) ^ i) = 2 ^ i := Rk.wrapI (by omega) (by omega)
  have hF : Fits ((2 : Int) ^ i) := by unfold Fits; omega
  have o1 := Rk.or_bit h.qr (by omega) hi hq
  have o2 := Rk.or_bit h.pr (by omega) hi (h.off hi hq)
  refine rake_known_with.pure (by simp) ?_
  cases b
  · simp [hw, o1]
    intro s1 s2
    exact ⟨by omega, hF, RetV.refl rfl⟩
  · simp [hw, o1, o2]
    intro s1 s2
    exact ⟨by omega, hF, by omega, hF, RetV.refl rfl⟩
theorem rake_known_agrees_ok (q p s : Int) : APure Pg fn_rake_known_agrees [.agg [.int .i64 q, .int .i64 p], .int .i64 s] (.bool (decide (bitI .and .i64 s q = p))) := by
  refine rake_known_agrees.pure (by simp) ?_
  simp
  intro s1
  exact RetV.refl rfl
theorem rake_all_done_ok (q p : Int) (l : List Int) : APure Pg fn_rake_all_done [.agg [], .agg [.int .i64 q, .int .i64 p], L l] (.bool (decide (l.length ≤ 1))) := by
  refine rake_all_done.pure (by simp) ?_
  simp
  intro s1 s2
  have e : decide ((l.length : Int) ≤ 1) = decide (l.length ≤ 1) := decide_eq_decide.2 (by omega)
  rw [e]
  exact RetV.refl rfl
theorem rake_lengths_of_ok (f : Nat → Int) (i : Nat) (hi : i < 6) : APure Pg fn_rake_lengths_of [.agg (ints (tab 6 f)), .int .i64 i] (.int .i64 (f i)) := by
  refine rake_lengths_of.pure (by simp) ?_
  have ht : (tab 6 f)[i]? = some (f i) := by simp [tab, hi]
  simp [ht, hi]
  intro s1
  exact ⟨by omega, RetV.refl rfl⟩
end Go.Cw
end

/- Rake: the sets that agree. -/
section
set_option maxRecDepth 100000
set_option linter.unusedSimpArgs false
namespace Go.Cw
open Go Go.Proofs

namespace Rk
def Hc (f : Nat → Int) (n : Nat) (S : List Int) : List AVal := ints (tab 6 f) ++ [.int .i64 n, L S]
end Rk
theorem rake_hull_agreeing_ok (f : Nat → Int) (n : Nat) (hn : n ≤ 6) (S : List Int) (hl : S.length ≤ 100000) (hS : ∀ s ∈ S, 0 ≤ s ∧ s < 2 ^ n) {q p : Int} (hk : Rk.Kn n q p) :
    APure Pg fn_rake_hull_agreeing [.pv (Rk.Hc f n S), .agg [.int .i64 q, .int .i64 p]] (L (Rk.agQ n S q p)) := by
  refine rake_hull_agreeing.pure (by simp) ?_
  simp [Rk.Hc]
  intro s
  obtain ⟨m, hm⟩ : ∃ m : Nat → List Int, m = fun k => (S.take k).filter (fun s => Rk.same n q s p) := ⟨_, rfl⟩
  have hml : ∀ k, (m k).length ≤ k := fun k => by
    rw [hm]; have := List.length_filter_le (fun s => Rk.same n q s p) (S.take k); simp at this ⊢; omega
  have hm0 : m 0 = [] := by rw [hm]; rfl
  refine Lp.intro' (σ := Nat × Nat) (inv := fun x => x.1 ≤ S.length)
    (vw := fun x => [(3, .ptr 3 0 (s+1)), (4, gS 1 22 (m x.1).length x.2), (10, L S), (11, .int .i64 S.length), (12, .int .i64 x.1)])
    (hp := fun x => [(3, .row [.int .i64 q, .int .i64 p] (s+1)), (22, gO (m x.1).length (ints (m x.1)) x.2)]) (ms := fun x => S.length - x.1) (0, 0) (by simp) (Sl.wk 4 .es (by simpa using ALe.nils_es) (Sl.refl ⟨by simp, by simp [hm0], by simp [hm0]⟩)) ?_
  rintro ⟨k, st⟩ hk2 J hJ
  simp at hk2
  by_cases hkc : k < S.length
  · obtain ⟨x, hx⟩ : ∃ x, S[k] = x := ⟨_, rfl⟩
    have hxb := hS x (by rw [← hx]; simp)
    have hmk := hml k
    have hms : m (k + 1) = m k ++ (if Rk.same n q x p then [x] else []) := by
      rw [hm]
      simp only [← List.take_append_getElem hkc, List.filter_append, hx]
      congr 1
      cases h : Rk.same n q x p
      · simp [h]
      · simp [h]
    have cA := rake_known_agrees_ok q p x
    rw [Rk.agrees_bits hk (by omega) hxb] at cA
    simp [hkc, hx]
    refine PCallK.intro (PInv.func cA) ?_
    cases hfx : Rk.same n q x p
    · rw [hfx] at hms
      simp
      (repeat first | refine And.intro (by omega) ?_ | refine And.intro (Fits.of (by omega) (by omega)) ?_)
      exact hJ.next (k + 1, st) (by simp; omega) (by simp; omega) (by simp [hms]) (by simp [hms])
    · rw [hfx] at hms
      simp [hkc, hx]
      intro s4 s5
      refine xApN_gS (cells := ints (m k)) (by simp) (by simp) (by omega) (by omega) ?_
      simp
      (repeat first | refine And.intro (by omega) ?_ | refine And.intro (Fits.of (by omega) (by omega)) ?_)
      exact hJ.next (k + 1, s5 + 1) (by simp; omega) (by simp; omega) (by simp [hms]) (by simp [hms])
  obtain rfl : k = S.length := by omega
  simp
  refine hJ.exit ?_
  simp
  refine RetV.le (VLe.gS (cells := ints (m S.length)) (s := st) (by simp) (by simp)) (RetV.refl ?_)
  have : m S.length = Rk.agQ n S q p := by rw [hm]; simp only [List.take_length]; rfl
  rw [this]
  simp [L]
end Go.Cw
end

/- Rake: the greatest of two numbers; one thing more. -/
section
set_option maxRecDepth 100000
set_option linter.unusedSimpArgs false
namespace Go.Cw
open Go Go.Proofs

theorem slices_Max3_ok (a b : Int) : APure Pg fn_slices_Max_int_int [.vl 3 [.int .i64 a, .int .i64 b, .int .i64 0]] (.int .i64 (max a (max b 0))) := by
  refine slices_Max_int_int.pure (by simp) ?_
  simp
  refine Lp.intro (σ := Nat) (inv := fun k => 1 ≤ k ∧ k ≤ 3) (vw := fun k => [(0, .vl 3 [.int .i64 a, .int .i64 b, .int .i64 0]), (3, .int .i64 (if k = 1 then a else if k = 2 then max a b else max a (max b 0))), (4, .int .i64 k)])
    (hp := fun _ => []) (ms := fun k => 3 - k) 1 (by simp) (by simp) (by simp) ?_
  rintro k ⟨hk1, hk⟩ J hJ
  rcases (show k = 1 ∨ k = 2 ∨ k = 3 by omega) with rfl | rfl | rfl
  · simp
    (repeat first | refine And.intro (by omega) ?_ | refine And.intro (Fits.of (by omega) (by omega)) ?_)
    exact hJ.next 2 (by omega) (by omega) (by simp) (by simp)
  · simp
    (repeat first | refine And.intro (by omega) ?_ | refine And.intro (Fits.of (by omega) (by omega)) ?_)
    exact hJ.next 3 (by omega) (by omega) (by simp) (by simp)
  · simp
    refine hJ.exit ?_
    simp
    exact RetV.refl rfl
theorem rake_greatest_ok (a b : Int) (r s : Nat) (K : AEnd → Heap → Prop) (hK : K (.ret (.int .i64 (max a (max b 0)))) (hpV [(r, .row [.int .i64 a, .int .i64 b] s)])) :
    ACalls Pg fn_rake_greatest [.sl r 0 s 2 (.ex 2)] (hpV [(r, .row [.int .i64 a, .int .i64 b] s)]) K := by
  obtain ⟨F, hF⟩ : ∃ F, r < F := ⟨r + 1, by omega⟩
  have e1 : ∀ k, ¬ F + k = r := fun k => by omega
  have e2 : ∀ k, ¬ r = F + k := fun k => by omega
  refine rake_greatest.enter F (by simp) ?_
  simp [e1, e2]
  intro s1 s2
  refine FCall.frz1 (F + 5) (cells := [.int .i64 a, .int .i64 b, .int .i64 0]) (s := s2 + 1) (by simp [e1, e2]) (v := .int .i64 (max a (max b 0))) ?_ (by simp [e1, e2]) ?_
  · simp
    exact PInv.func (first := []) (cap := []) (args := [_]) (slices_Max3_ok a b)
  simp [e1, e2]
  exact RetV.view [(r, .row [.int .i64 a, .int .i64 b] s)] (by simp [e1, e2]) hK
end Go.Cw
end

/- Rake: the best of some things looks at one thing more, by a function that may write. -/
section
set_option maxRecDepth 100000
set_option linter.unusedSimpArgs false
namespace Go.Cw
open Go Go.Proofs

def bstC (b : Option (Nat × Int)) (fv : AVal) : List AVal := [.bool b.isSome, .int .i64 ((b.map fun x => (x.1 : Int)).getD 0), .int .i64 ((b.map Prod.snd).getD 0), fv]
theorem rake_best_int_see_ok {τ : Type} (row : τ → List (Nat × AObj)) (hb : RowsB row 512) (fv : AVal) (i : Nat) (g : Int) (t₀ : τ) (b : Option (Nat × Int)) (sb : Nat)
    (hy : ∀ K : AEnd → Heap → Prop, (∀ t', K (.ret (.int .i64 g)) (hpV (row t'))) → AInvoke Pg fv [.int .i64 i] (hpV (row t₀)) K)
    (K : AEnd → Heap → Prop) (hK : ∀ t', K (.ret (.tup [])) (hpV ((512, .row (bstC (Rk.betR (fun _ => g) b i) fv) sb) :: row t'))) :
    ACalls Pg fn_rake_best_int_see [.ptr 512 0 sb, .int .i64 i] (hpV ((512, .row (bstC b fv) sb) :: row t₀)) K := by
  refine rake_best_int_see.enter 520 (by simp) ?_
  simp [bstC, hb.upd, hb.self]
  refine FCall.cps (σ := τ) (row t₀) (fun _ => .int .i64 g) (fun t' => row t') (fun _ => True) (fun K' hK' => hy K' fun t' => hK' t' trivial) (by simp [hb.upd, hb.self]) (fun t' => hb.hn _ _) trivial (fun t' _ => ⟨trivial, ?_⟩)
  have hK := hK t'
  cases b with
  | none =>
    simp [hb.upd, hb.self, hb.updL]
    exact RetV.view ((512, .row [.bool true, .int .i64 i, .int .i64 g, fv] sb) :: row t') (by simp [hb.upd, hb.self, hb.updL, hb.updL_self]) (by simpa [bstC, Rk.betR] using hK)
  | some c =>
    by_cases hc : g < c.2
    · simp [hb.upd, hb.self, hb.updL, hc]
      exact RetV.view ((512, .row [.bool true, .int .i64 i, .int .i64 g, fv] sb) :: row t') (by simp [hb.upd, hb.self, hb.updL, hb.updL_self]) (by simpa [bstC, Rk.betR, hc] using hK)
    · simp [hb.upd, hb.self, hb.updL, hc]
      exact RetV.view ((512, .row [.bool true, .int .i64 c.1, .int .i64 c.2, fv] sb) :: row t') (by simp [hb.upd, hb.self, hb.updL, hb.updL_self]) (by simpa [bstC, Rk.betR, hc] using hK)
end Go.Cw
end

/- Rake: how many fathoms are enough behind one seam: the function that is handed on. -/
section
set_option maxRecDepth 100000
set_option linter.unusedSimpArgs false
namespace Go.Cw
open Go Go.Proofs

namespace Rk
def onV (s2 s3 s5 s6 : Nat) : AVal := .func (.func fn_rake_hull_plan_1) [] [.ptr 402 0 s2, .ptr 403 0 s3, .ptr 405 0 s5, .ptr 406 0 s6]
def ekK (x : Int × Int) : AVal := .agg [.int .i64 x.1, .int .i64 x.2]
theorem keyLawK : KeyLaw (true, [.i, .i]) ekK := ⟨fun a b => by
  unfold ekK
  simp only [keyEq, flatEq, if_true, Option.map_some]
  by_cases h : a = b
  · subst h; simp
  · by_cases h1 : a.1 = b.1
    · have : ¬ a.2 = b.2 := fun e => h (Prod.ext h1 e)
      simp [h, h1, this]
    · simp [h, h1]⟩
def vfK (n : Nat) (f : Nat → Int) (any : Bool) (S : List Int) (x : Int × Int) : AVal := .agg [.int .i64 (tellK n f any S x.1 x.2).1, .int .i64 (tellK n f any S x.1 x.2).2]
def rwK (n : Nat) (f : Nat → Int) (any : Bool) (S : List Int) (gV : AVal) (s2 s3 s5 s6 s7 : Nat) (M : List (Int × Int)) : List (Nat × AObj) :=
  [(402, .row [.pv (Hc f n S)] s2), (403, .row [gV] s3), (405, .row [.map 407 s7] s5), (406, .row [onV s2 s3 s5 s6] s6), (407, .map (entsK ekK (vfK n f any S) M) s7)]
def OnOk (n : Nat) (f : Nat → Int) (any : Bool) (S : List Int) (gV : AVal) (s2 s3 s5 s6 s7 : Nat) (j : Nat) : Prop :=
  ∀ q p, Kn n q p → (un n q).length = j → ∀ M : List (Int × Int), M.Nodup → ∀ K : AEnd → Heap → Prop, (∀ M' : List (Int × Int), M'.Nodup → K (.ret (.tup [.int .i64 (tellK n f any S q p).1, .int .i64 (tellK n f any S q p).2])) (hpV (rwK n f any S gV s2 s3 s5 s6 s7 M'))) →
    ACalls Pg fn_rake_hull_plan_1 [.agg [.int .i64 q, .int .i64 p], .ptr 402 0 s2, .ptr 403 0 s3, .ptr 405 0 s5, .ptr 406 0 s6] (hpV (rwK n f any S gV s2 s3 s5 s6 s7 M)) K
def ofV (f : Nat → Int) : AVal := .func (.func fn_rake_lengths_of) [.agg (ints (tab 6 f))] []
end Rk
theorem Rk.tellK_bound {n : Nat} (hn : n ≤ 6) {f : Nat → Int} (hf : ∀ i, i < n → 0 ≤ f i ∧ f i ≤ 100) {any : Bool} {S : List Int} {q p : Int} : (Rk.tellK n f any S q p).2 ≤ 600 := by
  unfold Rk.tellK
  split
  · show (0 : Int) ≤ 600; omega
  · have := Rk.planQ_bound hf (by omega) (any := any) (Rk.agQ n S q p) q
    omega
theorem rake_hull_plan_1_1_ok {n : Nat} (hn : n ≤ 6) {f : Nat → Int} (hf : ∀ i, i < n → 0 ≤ f i ∧ f i ≤ 100) {any : Bool} {S : List Int} {gV : AVal} {s2 s3 s5 s6 s7 j : Nat} (on : Rk.OnOk n f any S gV s2 s3 s5 s6 s7 j)
    {q p : Int} (hk : Rk.Kn n q p) (hj : (Rk.un n q).length = j + 1) {i : Nat} (hi : i ∈ Rk.un n q) (sk so : Nat) (M : List (Int × Int)) (hM : M.Nodup) (K : AEnd → Heap → Prop)
    (hK : ∀ M' : List (Int × Int), M'.Nodup → K (.ret (.int .i64 (f i + max (Rk.tellK n f any S (q + 2 ^ i) (Rk.lk p i true)).2 (Rk.tellK n f any S (q + 2 ^ i) (Rk.lk p i false)).2)))
      (hpV ((505, .row [.int .i64 q, .int .i64 p] sk) :: (511, .row [Rk.ofV f] so) :: Rk.rwK n f any S gV s2 s3 s5 s6 s7 M'))) :
    ACalls Pg fn_rake_hull_plan_1_1 [.int .i64 i, .ptr 406 0 s6, .ptr 505 0 sk, .ptr 511 0 so] (hpV ((505, .row [.int .i64 q, .int .i64 p] sk) :: (511, .row [Rk.ofV f] so) :: Rk.rwK n f any S gV s2 s3 s5 s6 s7 M)) K := by
  obtain ⟨hi1, hi2⟩ := Rk.mem_un.1 hi
  have hlen := Rk.un_len hk.qr hi
  have cW := fun b => rake_known_with_ok hn hk hi1 hi2 b
  have t0 := fun b => Rk.tellK_nonneg (n := n) (f := f) (any := any) (S := S) (q := q + 2 ^ i) (p := Rk.lk p i b) fun i hi => (hf i hi).1
  have hfi := hf i hi1
  refine rake_hull_plan_1_1.enter 600 (by simp) ?_
  simp [Rk.rwK, Rk.onV, Rk.ofV]
  refine PCallK.intro (PInv.func (cW true)) ?_
  simp
  refine FCall.cps (σ := {M' : List (Int × Int) // M'.Nodup}) (Rk.rwK n f any S gV s2 s3 s5 s6 s7 M) (fun _ => .tup [.int .i64 (Rk.tellK n f any S (q + 2 ^ i) (Rk.lk p i true)).1, .int .i64 (Rk.tellK n f any S (q + 2 ^ i) (Rk.lk p i true)).2]) (fun M' => Rk.rwK n f any S gV s2 s3 s5 s6 s7 M'.1) (fun _ => True)
    (fun K' hK' => AInvoke.func (on _ _ (hk.step hi1 hi2 true) (by omega) M hM K' fun M' h' => hK' ⟨M', h'⟩ trivial)) (by simp [Rk.rwK, Rk.onV]) (fun _ => rfl) trivial (fun M1 _ => ⟨trivial, ?_⟩)
  simp [Rk.rwK, Rk.onV]
  refine PCallK.intro (PInv.func (cW false)) ?_
  simp
  refine FCall.cps (σ := {M' : List (Int × Int) // M'.Nodup}) (Rk.rwK n f any S gV s2 s3 s5 s6 s7 M1.1) (fun _ => .tup [.int .i64 (Rk.tellK n f any S (q + 2 ^ i) (Rk.lk p i false)).1, .int .i64 (Rk.tellK n f any S (q + 2 ^ i) (Rk.lk p i false)).2]) (fun M' => Rk.rwK n f any S gV s2 s3 s5 s6 s7 M'.1) (fun _ => True)
    (fun K' hK' => AInvoke.func (on _ _ (hk.step hi1 hi2 false) (by omega) M1.1 M1.2 K' fun M' h' => hK' ⟨M', h'⟩ trivial)) (by simp [Rk.rwK, Rk.onV]) (fun _ => rfl) trivial (fun M2 _ => ⟨trivial, ?_⟩)
  simp [Rk.rwK, Rk.onV]
  refine FCall.pure (v := .int .i64 (f i)) ?_ ?_
  · simp
    exact PInv.func (first := [_]) (cap := []) (args := [_]) (rake_lengths_of_ok f i (by omega))
  simp
  intro s31
  have b1 := t0 true
  have b2 := t0 false
  have b3 := Rk.tellK_bound hn hf (any := any) (S := S) (q := q + 2 ^ i) (p := Rk.lk p i true)
  have b4 := Rk.tellK_bound hn hf (any := any) (S := S) (q := q + 2 ^ i) (p := Rk.lk p i false)
  generalize (Rk.tellK n f any S (q + 2 ^ i) (Rk.lk p i true)).2 = a at hK b1 b3 ⊢
  generalize (Rk.tellK n f any S (q + 2 ^ i) (Rk.lk p i false)).2 = b at hK b2 b4 ⊢
  refine FCall.cps (σ := Unit) [(631, .row [.int .i64 a, .int .i64 b] (s31 + 1))] (fun _ => .int .i64 (max a (max b 0))) (fun _ => [(631, .row [.int .i64 a, .int .i64 b] (s31 + 1))]) (fun _ => True)
    (fun K' hK' => AInvoke.func (rake_greatest_ok a b 631 (s31 + 1) K' (hK' () trivial))) (by simp) (fun _ => rfl) trivial (fun _ _ => ⟨trivial, ?_⟩)
  have e : max a (max b 0) = max a b := by omega
  simp [e]
  refine ⟨by unfold Fits; omega, ?_⟩
  refine RetV.view ((505, .row [.int .i64 q, .int .i64 p] sk) :: (511, .row [Rk.ofV f] so) :: Rk.rwK n f any S gV s2 s3 s5 s6 s7 M2.1) (by simp [Rk.rwK, Rk.onV, Rk.ofV]) (hK M2.1 M2.2)
end Go.Cw
end

/- Rake: the function that tells the next seam. -/
section
set_option maxRecDepth 100000
set_option linter.unusedSimpArgs false
namespace Go.Cw
open Go Go.Proofs

def Rk.dnB (any : Bool) (p : Int) (l : List Int) : Bool := if any then decide (p ≠ 0 ∨ l = []) else decide (l.length ≤ 1)
theorem Rk.dn_done {n : Nat} {any : Bool} {S : List Int} {q p : Int} : (Rk.dnB any p (Rk.agQ n S q p) = true ∨ Rk.agQ n S q p = []) ↔ Rk.doneK n any S q p := by
  unfold Rk.dnB Rk.doneK
  generalize Rk.agQ n S q p = l
  cases any with
  | true => simp; exact or_comm
  | false =>
    simp
    cases l with
    | nil => simp
    | cons a l => simp
theorem rake_hull_plan_1_step {n : Nat} (hn : n ≤ 6) {f : Nat → Int} (hf : ∀ i, i < n → 0 ≤ f i ∧ f i ≤ 100) {any : Bool} {S : List Int} (hl : S.length ≤ 100000) (hS : ∀ s ∈ S, 0 ≤ s ∧ s < 2 ^ n) {gV : AVal} {s2 s3 s5 s6 s7 : Nat}
    (hg : ∀ q p (l : List Int), PInv Pg (.func (.method "caulkworks/rake.done") [gV] []) [.agg [.int .i64 q, .int .i64 p], L l] (.bool (Rk.dnB any p l)))
    (j : Nat) (ih : ∀ j', j = j' + 1 → Rk.OnOk n f any S gV s2 s3 s5 s6 s7 j') : Rk.OnOk n f any S gV s2 s3 s5 s6 s7 j := by
  intro q p hk hj M hM K hK
  have cA := rake_hull_agreeing_ok f n hn S hl hS hk
  refine rake_hull_plan_1.enter 500 (by simp) ?_
  simp [Rk.rwK, Rk.onV]
  intro s505
  refine FCall.pure (PInv.func cA) ?_
  simp
  refine FCall.pure (hg q p _) ?_
  by_cases hd : Rk.doneK n any S q p
  · have ht := Rk.tellK_done (f := f) hk hd
    have hK := hK M hM
    rw [ht] at hK
    cases hb : Rk.dnB any p (Rk.agQ n S q p)
    · have h0 : Rk.agQ n S q p = [] := by
        rcases Rk.dn_done.2 hd with h | h
        · rw [hb] at h; cases h
        · exact h
      simp [h0]
      refine RetV.view (Rk.rwK n f any S gV s2 s3 s5 s6 s7 M) (by simp [Rk.rwK, Rk.onV]) ?_
      simpa using hK
    · simp
      refine RetV.view (Rk.rwK n f any S gV s2 s3 s5 s6 s7 M) (by simp [Rk.rwK, Rk.onV]) ?_
      simpa using hK
  have hb : Rk.dnB any p (Rk.agQ n S q p) = false := by
    cases hb : Rk.dnB any p (Rk.agQ n S q p)
    · rfl
    · exact absurd (Rk.dn_done.1 (.inl hb)) hd
  have h0 : ¬ Rk.agQ n S q p = [] := fun h => hd (Rk.dn_done.1 (.inr h))
  have hlk : ∀ hh : Heap, hh 407 = .map (entsK Rk.ekK (Rk.vfK n f any S) M) s7 → ∀ zero, aLookup hh (true, [.i, .i]) true zero (.map 407 s7) (.agg [.int .i64 q, .int .i64 p]) = some (if (q, p) ∈ M then .tup [Rk.vfK n f any S (q, p), .bool true] else .tup [zero, .bool false]) :=
    fun hh hm zero => by
      rw [show (AVal.agg [.int .i64 q, .int .i64 p]) = Rk.ekK (q, p) from rfl, aLookup_K Rk.keyLawK hm zero]
      by_cases h : (q, p) ∈ M <;> simp [h]
  have hH1 : (Rk.Hc f n S).length = 8 := by simp [Rk.Hc]
  have hH6 : ∀ h, (Rk.Hc f n S)[6]'h = .int .i64 n := fun h => by simp [Rk.Hc]
  have hHt : (Rk.Hc f n S).take 6 = ints (tab 6 f) := by simp [Rk.Hc]
  simp [hb, h0]
  rw [hlk _ (by simp)]
  by_cases hin : (q, p) ∈ M
  · simp [hin, Rk.vfK]
    intro s9
    refine RetV.view (Rk.rwK n f any S gV s2 s3 s5 s6 s7 M) (by simp [Rk.rwK, Rk.onV, Rk.vfK]) ?_
    simpa using hK M hM
  simp [hin, hH1, hH6, hHt]
  intro s9 s511 s512
  obtain ⟨g, hgd⟩ : ∃ g : Nat → Int, g = fun i => f i + max (Rk.tellK n f any S (q + 2 ^ i) (Rk.lk p i true)).2 (Rk.tellK n f any S (q + 2 ^ i) (Rk.lk p i false)).2 := ⟨_, rfl⟩
  obtain ⟨bb, hbb⟩ : ∃ bb : Nat → Option (Nat × Int), bb = fun k => Rk.bestR g ((Rk.un n q).filter fun i => decide (i < k)) := ⟨_, rfl⟩
  obtain ⟨fv, hfv⟩ : ∃ fv, fv = AVal.func (.func fn_rake_hull_plan_1_1) [] [.ptr 406 0 s6, .ptr 505 0 (s505 + 1), .ptr 511 0 (s511 + 1)] := ⟨_, rfl⟩
  have hb0 : bb 0 = none := by rw [hbb]; simp only; rw [List.filter_eq_nil_iff.2 (by simp)]; rfl
  refine Lp.intro (σ := Nat × {M' : List (Int × Int) // M'.Nodup}) (inv := fun x => x.1 ≤ n)
    (vw := fun x => [(3, .ptr 405 0 s5), (5, .ptr 505 0 (s505 + 1)), (12, .ptr 512 0 (s512 + 1)), (47, .int .i64 n), (48, .int .i64 x.1)])
    (hp := fun x => (512, .row (bstC (bb x.1) fv) (s512 + 1)) :: (505, .row [.int .i64 q, .int .i64 p] (s505 + 1)) :: (511, .row [Rk.ofV f] (s511 + 1)) :: Rk.rwK n f any S gV s2 s3 s5 s6 s7 x.2.1) (ms := fun x => n - x.1) (0, ⟨M, hM⟩) (by simp) (by simp) (by simp [Rk.rwK, Rk.onV, Rk.ofV, bstC, hb0, hfv]) ?_
  have hpush : ∀ k, k < n → (Rk.un n q).filter (fun i => decide (i < k + 1)) = (Rk.un n q).filter (fun i => decide (i < k)) ++ if inS q k then [] else [k] := by
    intro k hk1
    unfold Rk.un
    rw [List.filter_filter, List.filter_filter]
    have e : ∀ m : Nat, m ≤ n → (List.range n).filter (fun i => decide (i < m) && !inS q i) = (List.range m).filter (fun i => !inS q i) := by
      intro m hm
      obtain ⟨d, rfl⟩ := Nat.exists_eq_add_of_le hm
      have e1 : (List.range m).filter (fun i => decide (i < m) && !inS q i) = (List.range m).filter (fun i => !inS q i) := List.filter_congr fun i hi => by simp [List.mem_range.1 hi]
      have e2 : ((List.range d).map (m + ·)).filter (fun i => decide (i < m) && !inS q i) = [] := List.filter_eq_nil_iff.2 fun i hi => by
        obtain ⟨x, _, rfl⟩ := List.mem_map.1 hi
        simp
        intro h; omega
      rw [List.range_add, List.filter_append, e1, e2, List.append_nil]
    rw [e (k + 1) (by omega), e k (by omega), List.range_succ, List.filter_append]
    cases h : inS q k <;> simp [h]
  have hbs : ∀ k, k < n → bb (k + 1) = if inS q k then bb k else Rk.betR (fun _ => g k) (bb k) k := by
    intro k hk1
    rw [hbb]
    simp only [hpush k hk1]
    cases h : inS q k
    · simp only [Bool.false_eq_true, if_false]
      rw [Rk.bestR_push]; rfl
    · simp
  rintro ⟨k, M1⟩ hkn J hJ
  simp at hkn
  by_cases hkc : k < n
  · have hp1 := Rk.add_lt (q := 0) (n := n)
    have hdv : 0 ≤ q / 2 ^ k := Int.ediv_nonneg hk.qr.1 (by have := two_pow_pos k; omega)
    have hq62 : q < 2 ^ 62 := by
      have h1 := hk.qr.2
      have h2 := two_pow_le hn
      have e : (2 : Int) ^ 6 = 64 := by decide
      have e2 : (2 : Int) ^ 62 = 4611686018427387904 := by decide
      omega
    have hand := bitI_and1 hdv (by have := Int.ediv_le_self (2 ^ k) hk.qr.1; omega)
    have hbk := hbs k hkc
    cases hkq : inS q k with
    | true =>
      have hmod : q / 2 ^ k % 2 = 1 := by simpa [inS] using hkq
      rw [hkq] at hbk
      simp [hkc, hand, hmod, Rk.rwK, Rk.onV]
      refine ⟨by omega, by unfold Fits; omega, ?_⟩
      exact hJ.next (k + 1, M1) (by simp; omega) (by simp; omega) (by simp) (by simp [hbk, Rk.rwK, Rk.onV])
    | false =>
      have hmod : ¬ q / 2 ^ k % 2 = 1 := by simpa [inS] using hkq
      rw [hkq] at hbk
      simp [hkc, hand, hmod, Rk.rwK, Rk.onV]
      refine ⟨by omega, ?_⟩
      have hrb : RowsB (fun t : {M' : List (Int × Int) // M'.Nodup} => (505, AObj.row [.int .i64 q, .int .i64 p] (s505 + 1)) :: (511, AObj.row [Rk.ofV f] (s511 + 1)) :: Rk.rwK n f any S gV s2 s3 s5 s6 s7 t.1) 512 :=
        ⟨fun _ _ => rfl, fun t x hx => by simp [Rk.rwK] at hx; omega, fun t => by simp [Rk.rwK]⟩
      have hui : k ∈ Rk.un n q := Rk.mem_un.2 ⟨hkc, hkq⟩
      refine FCall.cps (σ := {M' : List (Int × Int) // M'.Nodup}) ((512, .row (bstC (bb k) fv) (s512 + 1)) :: (505, .row [.int .i64 q, .int .i64 p] (s505 + 1)) :: (511, .row [Rk.ofV f] (s511 + 1)) :: Rk.rwK n f any S gV s2 s3 s5 s6 s7 M1.1) (fun _ => .tup [])
        (fun t => (512, .row (bstC (bb (k + 1)) fv) (s512 + 1)) :: (505, .row [.int .i64 q, .int .i64 p] (s505 + 1)) :: (511, .row [Rk.ofV f] (s511 + 1)) :: Rk.rwK n f any S gV s2 s3 s5 s6 s7 t.1) (fun _ => True)
        (fun K' hK' => AInvoke.func ?_) (by simp [Rk.rwK, Rk.onV]) (fun _ => rfl) trivial (fun M2 _ => ⟨trivial, ?_⟩)
      · refine rake_best_int_see_ok (fun t : {M' : List (Int × Int) // M'.Nodup} => (505, AObj.row [.int .i64 q, .int .i64 p] (s505 + 1)) :: (511, AObj.row [Rk.ofV f] (s511 + 1)) :: Rk.rwK n f any S gV s2 s3 s5 s6 s7 t.1) hrb fv k (g k) M1 (bb k) (s512 + 1) (fun K2 hK2 => ?_) K' fun t' => ?_
        · rw [hfv]
          refine AInvoke.func ?_
          obtain ⟨j', hj'⟩ : ∃ j', j = j' + 1 := ⟨j - 1, by have := List.length_pos_of_mem hui; omega⟩
          have := rake_hull_plan_1_1_ok hn hf (ih j' hj') hk (by omega) hui (s505 + 1) (s511 + 1) M1.1 M1.2 K2 fun M' hM' => by
            have := hK2 ⟨M', hM'⟩
            rw [hgd] at this
            exact this
          simpa using this
        · have := hK' t' trivial
          simp only [hbk, Bool.false_eq_true, if_false] at this
          exact this
      simp [Rk.rwK, Rk.onV]
      refine ⟨by unfold Fits; omega, ?_⟩
      exact hJ.next (k + 1, M2) (by simp; omega) (by simp; omega) (by simp) (by simp [Rk.rwK, Rk.onV])
  obtain rfl : k = n := by omega
  simp
  refine hJ.exit ?_
  have hall : (Rk.un k q).filter (fun i => decide (i < k)) = Rk.un k q := List.filter_eq_self.2 fun i hi => by simpa using (Rk.mem_un.1 hi).1
  have hT : Rk.tellK k f any S q p = (bb k).getD (0, 0) := by
    rw [Rk.tellK_step (fun i hi => (hf i hi).1) hk hd, hbb]
    simp only [hall]
    rw [hgd]
  have h1 : ((bb k).map fun x => (x.1 : Int)).getD 0 = (Rk.tellK k f any S q p).1 := by rw [hT]; cases bb k <;> rfl
  have h2 : ((bb k).map Prod.snd).getD 0 = (Rk.tellK k f any S q p).2 := by rw [hT]; cases bb k <;> rfl
  simp [Rk.rwK, Rk.onV, bstC, h1, h2]
  refine osat_iff.2 ⟨_, mapU_K Rk.keyLawK (k := (q, p)) (M := M1.1) (f := Rk.vfK k f any S) (f' := Rk.vfK k f any S) (m := 407) (s := s7) M1.2 (by simp) (by simp) (by simp [Rk.ekK]) (by simp [Rk.vfK]) (fun _ _ _ => rfl), ?_⟩
  simp [h1, h2]
  exact RetV.view (Rk.rwK k f any S gV s2 s3 s5 s6 s7 (insK (q, p) M1.1)) (by simp [Rk.rwK, Rk.onV]) (hK _ (nodup_insK M1.2))
theorem rake_hull_plan_1_ok {n : Nat} (hn : n ≤ 6) {f : Nat → Int} (hf : ∀ i, i < n → 0 ≤ f i ∧ f i ≤ 100) {any : Bool} {S : List Int} (hl : S.length ≤ 100000) (hS : ∀ s ∈ S, 0 ≤ s ∧ s < 2 ^ n) {gV : AVal} {s2 s3 s5 s6 s7 : Nat}
    (hg : ∀ q p (l : List Int), PInv Pg (.func (.method "caulkworks/rake.done") [gV] []) [.agg [.int .i64 q, .int .i64 p], L l] (.bool (Rk.dnB any p l))) :
    ∀ j, Rk.OnOk n f any S gV s2 s3 s5 s6 s7 j
  | 0 => rake_hull_plan_1_step hn hf hl hS hg 0 fun j' h => by omega
  | j + 1 => rake_hull_plan_1_step hn hf hl hS hg (j + 1) fun j' h => by
    obtain rfl : j = j' := by omega
    exact rake_hull_plan_1_ok hn hf hl hS hg j
end Go.Cw
end

/- Rake: the function that tells the next seam is made; the goal that all is known. -/
section
set_option maxRecDepth 100000
set_option linter.unusedSimpArgs false
namespace Go.Cw
open Go Go.Proofs

theorem rake_hull_plan_ok (n : Nat) (f : Nat → Int) (any : Bool) (S : List Int) (t : Nat) (K : AEnd → Heap → Prop)
    (hK : ∀ s2 s3 s5 s6 s7, K (.ret (Rk.onV s2 s3 s5 s6)) (hpV (Rk.rwK n f any S (.iface t (.agg [])) s2 s3 s5 s6 s7 []))) : ACalls Pg fn_rake_hull_plan [.pv (Rk.Hc f n S), .iface t (.agg [])] nilH K := by
  refine rake_hull_plan.enter 400 (by simp) ?_
  simp
  intro s2 s3 s7 s5 s6
  exact RetV.view (Rk.rwK n f any S (.iface t (.agg [])) (s2 + 1) (s3 + 1) (s5 + 1) (s6 + 1) (s7 + 1) []) (by simp [Rk.rwK, Rk.onV]) (hK (s2 + 1) (s3 + 1) (s5 + 1) (s6 + 1) (s7 + 1))

theorem done_all : MethAt Pg 133 "caulkworks/rake.done" fn_rake_all_done := ⟨fun _ _ => by kernel_rfl⟩
theorem rake_done_all (q p : Int) (l : List Int) : PInv Pg (.func (.method "caulkworks/rake.done") [.iface 133 (.agg [])] []) [.agg [.int .i64 q, .int .i64 p], L l] (.bool (Rk.dnB false p l)) := by
  intro hh
  exact AInvoke.meth done_all (rake_all_done_ok q p l hh)
end Go.Cw
end

/- Rake: what an order costs. -/
section
set_option maxRecDepth 100000
set_option linter.unusedSimpArgs false
namespace Go.Cw
open Go Go.Proofs

end Go.Cw
end

/- Rake: do some seams tell all? -/
section
set_option maxRecDepth 100000
set_option linter.unusedSimpArgs false
namespace Go.Cw
open Go Go.Proofs

end Go.Cw
end

/- Rakes, and what was found, as plain data; which sets agree, and what is told. -/
section
set_option maxRecDepth 100000
set_option linter.unusedSimpArgs false
namespace Go.Cw
open Go Go.Proofs
def fdC (x : Int × Bool) : List AVal := [.int .i64 x.1, .bool x.2]
theorem fdC_len (x : Int × Bool) : (fdC x).length = 2 := rfl
def fds (l : List (Int × Bool)) : List AVal := fl fdC l
section
variable (l : List (Int × Bool))
@[simp] theorem fds_length : (fds l).length = l.length * 2 := fl_len fdC_len l
@[simp] theorem fds_drop (k : Nat) : (fds l).drop (k * 2) = fds (l.drop k) := fl_drop fdC_len l k
@[simp] theorem fds_take2 : (fds l).take 2 = (l.head?.map fun a => [.int .i64 a.1, .bool a.2]).getD [] := fl_take fdC_len l
end
theorem fds_push (l : List (Int × Bool)) (a : Int × Bool) : fds l ++ [.int .i64 a.1, .bool a.2] = fds (l ++ [a]) := by simp [fds, fl, fdC]
def LK (l : List (Int × Bool)) : AVal := .vl l.length (fds l)
@[simp] theorem aLen_LK (l : List (Int × Bool)) : aLen (LK l) = some (.int .i64 l.length) := (rfl)
@[simp] theorem satIxS_LK (l : List (Int × Bool)) (k : IntKind) (n : Int) (K : AVal → Prop) : satIxS 2 (LK l) (.int k n) K = ((0 ≤ n ∧ n < l.length) ∧ K (.pv (fds (l.drop n.toNat)))) := by simp [LK]
structure Rak where
  h : Hul
  f : List Int

namespace Rak
variable (r : Rak)
def cells : List AVal := [LS r.h.seams, LD r.h.snds, L r.f]
def v : AVal := .agg [LS r.h.seams, LD r.h.snds, L r.f]
@[simp] theorem v_agg : r.v = .agg [LS r.h.seams, LD r.h.snds, L r.f] := (rfl)
def n : Nat := r.f.length
structure Small : Prop where
  h : r.h.Small
  f : r.f.length ≤ 40
structure Valid : Prop where
  h : r.h.Valid
  len : r.f.length = r.h.n
  fa : ∀ x ∈ r.f, 1 ≤ x ∧ x ≤ 20
noncomputable instance : Decidable r.Valid := Classical.propDecidable _
theorem Valid.n6 {r : Rak} (hv : r.Valid) : r.n ≤ 6 := by have := hv.h.n6; have := hv.len; unfold n; omega
theorem Valid.n1 {r : Rak} (hv : r.Valid) : 1 ≤ r.n := by have := hv.h.n1; have := hv.len; unfold n; omega
theorem Valid.fat {r : Rak} (hv : r.Valid) {i : Nat} (hi : i < r.n) : 1 ≤ ofL r.f i ∧ ofL r.f i ≤ 20 := by
  have hl : i < r.f.length := hi
  rw [← ofL_at r.f hl]
  exact hv.fa _ (by simp)
noncomputable def S : List Int := r.h.setsL
def F : Nat → Int := ofL r.f
variable {r : Rak}
theorem mem_S {s : Int} : s ∈ r.S ↔ ∃ t ∈ r.h.truths r.h.every, leaksT t = s := by
  unfold S Hul.setsL
  rw [(sortI_perm _).mem_iff]
  have := seenK_mem (r.h.truths r.h.every) (r.h.truths r.h.every).length s
  rwa [List.take_length] at this
theorem S_nodup : r.S.Nodup := by
  unfold S Hul.setsL
  rw [(sortI_perm _).nodup_iff]
  have := seenK_nodup (r.h.truths r.h.every) (r.h.truths r.h.every).length
  rwa [List.take_length] at this
theorem S_lt : r.S.Pairwise (· < ·) := by
  have h1 : r.S.Pairwise (· ≤ ·) := sortI_sorted (seenK (r.h.truths r.h.every))
  exact (h1.and (List.nodup_iff_pairwise_ne.1 S_nodup)).imp fun {a b} h => by omega
theorem S_nil : r.S = [] ↔ r.h.truths r.h.every = [] := by
  constructor
  · intro h
    cases ht : r.h.truths r.h.every with
    | nil => rfl
    | cons t l =>
      have : leaksT t ∈ r.S := mem_S.2 ⟨t, by rw [ht]; simp, rfl⟩
      rw [h] at this; cases this
  · intro h
    refine List.eq_nil_iff_forall_not_mem.2 fun s hs => ?_
    obtain ⟨t, ht, _⟩ := mem_S.1 hs
    rw [h] at ht; cases ht
theorem S_in (hv : r.Valid) : ∀ s ∈ r.S, 0 ≤ s ∧ s < 2 ^ r.n := fun s hs => by
  obtain ⟨t, ht, rfl⟩ := mem_S.1 hs
  have h1 := (truths_in hv.h ht).1
  unfold leaksT
  rw [h1, show r.n = r.h.n from hv.len]
  exact bits_lt _ _
theorem S_len (hv : r.Valid) : r.S.length ≤ 15625 := Hul.setsL_len hv.h
theorem F_in (hv : r.Valid) : ∀ i, i < r.n → 0 ≤ r.F i ∧ r.F i ≤ 100 := fun i hi => by have := hv.fat hi; unfold F; omega
variable (r)
def Fd (l : List (Int × Bool)) : Prop := ∀ x ∈ l, 0 ≤ x.1 ∧ x.1 < r.n
instance (l : List (Int × Bool)) : Decidable (r.Fd l) := inferInstanceAs (Decidable (∀ x ∈ l, _ ∧ _))
def Once (l : List (Int × Bool)) : Prop := (l.map Prod.fst).Nodup
instance (l : List (Int × Bool)) : Decidable (Once l) := inferInstanceAs (Decidable (List.Nodup _))
variable {r}
theorem fnd_iff {l : List (Int × Bool)} : Rk.Fnd r.n l ↔ r.Fd l ∧ Once l := ⟨fun h => ⟨h.rng, h.once⟩, fun h => ⟨h.1, h.2⟩⟩
variable (r)
noncomputable def errC (l : List (Int × Bool)) (is : Bool) : Int :=
  if r.Valid then (if r.Fd l ∧ is = true then (if Once l then 0 else 5) else 2) else 1
noncomputable def errE (l : List (Int × Bool)) (is : Bool) : Int :=
  if r.Valid then (if r.Fd l ∧ is = true then (if Once l then (if Rk.agF r.S l = [] then 10 else 0) else 5) else 2) else 1
variable {r}
theorem errE_zero {l : List (Int × Bool)} {is : Bool} : r.errE l is = 0 ↔ r.Valid ∧ Rk.Fnd r.n l ∧ is = true ∧ Rk.agF r.S l ≠ [] := by
  unfold errE
  rw [fnd_iff]
  by_cases h1 : r.Valid <;> by_cases h2 : r.Fd l <;> by_cases h3 : Once l <;> by_cases h4 : Rk.agF r.S l = [] <;> cases is <;> simp [h1, h2, h3, h4]
theorem errC_zero {l : List (Int × Bool)} {is : Bool} : r.errC l is = 0 ↔ r.Valid ∧ Rk.Fnd r.n l ∧ is = true := by
  unfold errC
  rw [fnd_iff]
  by_cases h1 : r.Valid <;> by_cases h2 : r.Fd l <;> by_cases h3 : Once l <;> cases is <;> simp [h1, h2, h3]
theorem errE_C {l : List (Int × Bool)} {is : Bool} (h : ¬ r.errC l is = 0) : r.errE l is = r.errC l is := by
  unfold errC at h
  unfold errE errC
  by_cases h1 : r.Valid <;> by_cases h2 : r.Fd l ∧ is = true <;> by_cases h3 : Once l
  all_goals first | (simp [h1, h2, h3]; done) | (exfalso; exact h (by simp [h1, h2, h3]))
theorem errE_of {l : List (Int × Bool)} {is : Bool} (hv : r.Valid) (hf : Rk.Fnd r.n l) (his : is = true) : r.errE l is = if Rk.agF r.S l = [] then 10 else 0 := by
  obtain ⟨h1, h2⟩ := fnd_iff.1 hf
  unfold errE
  simp [hv, h1, h2, his]
variable (r)
noncomputable def knownV (l : List (Int × Bool)) : AVal := .tup [L (if r.errE l true = 0 then Rk.agF r.S l else []), .int .i64 (r.errE l true)]
noncomputable def nextP (l : List (Int × Bool)) : Nat × Int × Int :=
  if r.errE l true = 0 then (if (Rk.agF r.S l).length ≤ 1 then (0, 0, 4) else ((Rk.planQ r.n r.F false (Rk.agF r.S l) (Rk.fq l)).1, (Rk.planQ r.n r.F false (Rk.agF r.S l) (Rk.fq l)).2, 0)) else (0, 0, r.errE l true)
noncomputable def nextV (l : List (Int × Bool)) : AVal := .tup [.int .i64 (r.nextP l).1, .int .i64 (r.nextP l).2.1, .int .i64 (r.nextP l).2.2]
noncomputable def worstV : AVal := .tup [.int .i64 (if r.errE [] true = 0 then (Rk.planQ r.n r.F false r.S 0).2 else 0), .int .i64 (r.errE [] true)]
noncomputable def anyP : Nat × Int × Int :=
  if r.errE [] true = 0 then (if (0 : Int) ∈ r.S then (0, 0, 11) else ((Rk.planQ r.n r.F true r.S 0).1, (Rk.planQ r.n r.F true r.S 0).2, 0)) else (0, 0, r.errE [] true)
noncomputable def anyV : AVal := .tup [.int .i64 r.anyP.1, .int .i64 r.anyP.2.1, .int .i64 r.anyP.2.2]
def Ask (o : List Int) (s : Int) : Prop := Rk.IsOrd r.n o ∧ 0 ≤ s ∧ s < 2 ^ r.n
noncomputable instance (o : List Int) (s : Int) : Decidable (r.Ask o s) := Classical.propDecidable _
noncomputable def costP (o : List Int) (s : Int) : Int × Int :=
  if r.errE [] (decide (r.Ask o s)) = 0 then (if s ∈ r.S then (Rk.costL r.F (Rk.toN o) r.S s, 0) else (0, 4)) else (0, r.errE [] (decide (r.Ask o s)))
noncomputable def costV (o : List Int) (s : Int) : AVal := .tup [.int .i64 (r.costP o s).1, .int .i64 (r.costP o s).2]
noncomputable def ordL : List Int := if r.errE [] true = 0 then Rk.toI (Rk.ordP r.n r.F r.S).1 else []
noncomputable def ordN : Int := if r.errE [] true = 0 then (Rk.ordP r.n r.F r.S).2 else 0
noncomputable def ordV : AVal := .tup [L r.ordL, .int .i64 r.ordN, .int .i64 (r.errE [] true)]
noncomputable def enV : AVal := .tup [.int .i64 (if r.errE [] true = 0 then (Rk.enP r.n r.F r.S).1 else 0 : Nat), .int .i64 (if r.errE [] true = 0 then (Rk.enP r.n r.F r.S).2 else 0), .int .i64 (r.errE [] true)]
end Rak
end Go.Cw
end

/- Rake: lists that are searched; is a rake valid? -/
section
set_option maxRecDepth 100000
set_option linter.unusedSimpArgs false
namespace Go.Cw
open Go Go.Proofs

theorem rake_check_1_ok (n : Int) : APure Pg fn_rake_check_1 [.int .i64 n] (.bool (!decide (1 ≤ n ∧ n ≤ 20))) := by
  refine rake_check_1.pure (by simp) ?_
  simp
  refine PCallK.intro (PInv.func (rake_within_ok _ _ _)) ?_
  simp
  exact RetV.refl (by simp)

theorem rake_check_all (r : Rak) (hs : r.Small) (l : List (Int × Bool)) (hl : l.length ≤ 40) (is : Bool) (K : AEnd → Prop)
    (hK : K (if r.errC l is = 0 then .ret (.tup []) else .pan (rkV (r.errC l is)))) : ACalls Pg fn_rake_check [r.v, LK l, .bool is] nilH fun e _ => K e := by
  have hf40 := hs.f
  have hs40 := hs.h.s
  have cR := leak_Rate_ok r.h hs.h (-1)
  have hns : ¬ r.h.Seam (-1) := by unfold Hul.Seam; omega
  have hR : r.h.sumV (r.h.Seam (-1)) (2 ^ (-1 : Int).toNat) = .tup [SP2 (0, 0), .int .i64 (if r.h.Valid then 2 else 1)] := by
    unfold Hul.sumV
    by_cases hv : r.h.Valid <;> simp [hv, hns]
  rw [hR] at cR
  have cF := slices_ContainsFunc_ok r.f (by omega) (.func (.func fn_rake_check_1) [] []) (fun n => !decide (1 ≤ n ∧ n ≤ 20)) fun x _ => PInv.func (rake_check_1_ok x)
  have hVal : r.Valid ↔ (r.h.Valid ∧ r.f.length = r.h.seams.length) ∧ r.f.any (fun n => !decide (1 ≤ n ∧ n ≤ 20)) = false := by
    rw [List.any_eq_false]
    exact ⟨fun v => ⟨⟨v.h, v.len⟩, fun x hx => by simpa using v.fa x hx⟩, fun h => ⟨h.1.1, h.1.2, fun x hx => by simpa using h.2 x hx⟩⟩
  refine rake_check.enter 0 (by simp) ?_
  simp
  intro s3
  refine PCallK.intro (PInv.func (first := []) (cap := []) (args := [r.h.v, .int .i64 (-1)]) cR) ?_
  simp [SP2]
  intro s6
  by_cases hh : ¬ r.h.Valid
  · have hnv : ¬ r.Valid := fun v => hh v.h
    have hE : r.errC l is = 1 := by simp [Rak.errC, hnv]
    rw [hE] at hK
    simp [hh]
    refine FCall.pan (PInvPan.func (rake_want_pan 1)) ?_
    simp
    exact ⟨_, HLe.refl _, hK⟩
  replace hh := Classical.not_not.1 hh
  by_cases hn : ¬ r.f.length = r.h.seams.length
  · have hnv : ¬ r.Valid := fun v => hn v.len
    have hE : r.errC l is = 1 := by simp [Rak.errC, hnv]
    rw [hE] at hK
    have hn' : ¬ (r.f.length : Int) = r.h.seams.length := by omega
    simp [hh, hn, hn']
    refine FCall.pan (PInvPan.func (rake_want_pan 1)) ?_
    simp
    exact ⟨_, HLe.refl _, hK⟩
  replace hn := Classical.not_not.1 hn
  simp [hh, hn]
  refine FCall.pure (PInv.func cF) ?_
  by_cases hb : ¬ (r.f.any fun n => !decide (1 ≤ n ∧ n ≤ 20)) = false
  · have hnv : ¬ r.Valid := fun v => hb (hVal.1 v).2
    have hE : r.errC l is = 1 := by simp [Rak.errC, hnv]
    rw [hE] at hK
    replace hb := (Bool.not_eq_false _).mp hb
    rw [hb]
    simp
    refine FCall.pan (PInvPan.func (rake_want_pan 1)) ?_
    simp
    exact ⟨_, HLe.refl _, hK⟩
  replace hb := Classical.not_not.1 hb
  have hv : r.Valid := hVal.2 ⟨⟨hh, hn⟩, hb⟩
  rw [hb]
  simp
  refine FCall.pure (PInv.func (rake_want_ok 1)) ?_
  simp
  have hn6 := hv.n6
  have hfn : r.f.length = r.n := rfl
  have e62 : (2 : Int) ^ 62 = 4611686018427387904 := by decide
  refine Lp.intro (σ := Nat) (inv := fun k => k ≤ l.length ∧ r.Fd (l.take k)) (vw := fun k => [(1, LK l), (2, .bool is), (3, .ptr 3 0 (s3+1)), (40, LK l), (41, .int .i64 l.length), (42, .int .i64 k)])
    (hp := fun _ => [(3, .row r.cells (s3+1))]) (ms := fun k => l.length - k) 0 ⟨by omega, by simp [Rak.Fd]⟩ (by simp) (by simp [Rak.cells]) ?_
  rintro k ⟨hk, inv⟩ J hJ
  by_cases hkc : k < l.length
  · obtain ⟨x, hx⟩ : ∃ x, l[k] = x := ⟨_, rfl⟩
    simp [hkc, hx, Rak.cells]
    refine ⟨by omega, fun s8 => ⟨by unfold Fits; omega, ?_⟩⟩
    refine PCallK.intro (PInv.func (rake_within_ok _ _ _)) ?_
    by_cases hq : ¬ (0 ≤ x.1 ∧ x.1 ≤ (r.f.length : Int) - 1)
    · have hE : r.errC l is = 2 := by
        have : ¬ (r.Fd l ∧ is = true) := fun h => hq (by have := h.1 x (by rw [← hx]; simp); omega)
        simp [Rak.errC, hv, this]
      rw [hE] at hK
      rw [show decide (0 ≤ x.1 ∧ x.1 ≤ (r.f.length : Int) - 1) = false by simpa using hq]
      simp
      refine FCall.pan (PInvPan.func (rake_want_pan 2)) ?_
      simp
      refine hJ.pan ?_
      simp
      exact ⟨_, HLe.refl _, hK⟩
    replace hq := Classical.not_not.1 hq
    rw [show decide (0 ≤ x.1 ∧ x.1 ≤ (r.f.length : Int) - 1) = true by simpa using hq]
    simp
    refine FCall.pure (PInv.func (rake_want_ok 2)) ?_
    simp
    (repeat first | refine And.intro (by omega) ?_ | refine And.intro (Fits.of (by omega) (by omega)) ?_)
    refine hJ.next (k + 1) ⟨by omega, ?_⟩ (by omega) (by simp) (by simp [Rak.cells])
    rw [← List.take_append_getElem hkc, hx]
    intro y hy
    rcases List.mem_append.1 hy with hy | hy
    · exact inv y hy
    · simp at hy; subst hy; omega
  obtain rfl : k = l.length := by omega
  rw [List.take_length] at inv
  simp
  refine hJ.exit ?_
  cases is with
  | false =>
    have hE : r.errC l false = 2 := by simp [Rak.errC, hv]
    rw [hE] at hK
    simp
    refine FCall.pan (PInvPan.func (rake_want_pan 2)) ?_
    simp
    exact ⟨_, HLe.refl _, hK⟩
  | true =>
  simp
  refine FCall.pure (PInv.func (rake_want_ok 2)) ?_
  simp
  intro s11
  refine Lp.intro (σ := Nat) (inv := fun k => k ≤ l.length ∧ Rk.Fnd r.n (l.take k)) (vw := fun k => [(11, .ptr 11 0 (s11+1)), (57, LK l), (58, .int .i64 l.length), (59, .int .i64 k)])
    (hp := fun k => [(11, .row [.int .i64 (Rk.fq (l.take k)), .int .i64 (Rk.fp (l.take k))] (s11+1))]) (ms := fun k => l.length - k) 0 ⟨by omega, by simp; exact Rk.Fnd.nil⟩ (by simp) (by simp [Rk.fq, Rk.fp]) ?_
  rintro k ⟨hk, inv2⟩ J2 hJ2
  by_cases hkc : k < l.length
  · obtain ⟨x, hx⟩ : ∃ x, l[k] = x := ⟨_, rfl⟩
    have hxr := inv x (by rw [← hx]; simp)
    obtain ⟨i, hi⟩ : ∃ i : Nat, x.1 = i := ⟨x.1.toNat, by omega⟩
    have hin : i < r.n := by omega
    obtain ⟨hkn, hm, _⟩ := Rk.fnd_kn inv2
    have hqr := hkn.qr
    have h2p := two_pow_le hn6
    have e6 : (2 : Int) ^ 6 = 64 := by decide
    have hdv : 0 ≤ Rk.fq (l.take k) / 2 ^ i := Int.ediv_nonneg hqr.1 (by have := two_pow_pos i; omega)
    have hand := bitI_and1 hdv (by have := Int.ediv_le_self (2 ^ i) hqr.1; omega)
    have htk : l.take (k + 1) = l.take k ++ [x] := by rw [← List.take_append_getElem hkc, hx]
    have hfq : Rk.fq (l.take (k + 1)) = Rk.fq (l.take k) + 2 ^ i := by rw [htk, Rk.fq_push, hi]; rfl
    have hfp : Rk.fp (l.take (k + 1)) = Rk.lk (Rk.fp (l.take k)) i x.2 := by rw [htk, Rk.fp_push, hi]; rfl
    simp [hkc, hx, hi]
    refine ⟨by omega, fun s13 => ⟨by omega, ?_⟩⟩
    cases hiq : inS (Rk.fq (l.take k)) i with
    | true =>
      have hmod : Rk.fq (l.take k) / 2 ^ i % 2 = 1 := by simpa [inS] using hiq
      have hmem : (i : Int) ∈ (l.take k).map Prod.fst := by
        have := hm i hin
        rw [hiq] at this
        simpa using this.symm
      have hE : r.errC l true = 5 := by
        have : ¬ Rak.Once l := fun h => by
          unfold Rak.Once at h
          rw [← List.take_append_drop k l, List.map_append, List.nodup_append] at h
          refine h.2.2 _ hmem x.1 ?_ hi.symm
          rw [List.drop_eq_getElem_cons hkc, hx]; simp
        simp [Rak.errC, hv, inv, this]
      rw [hE] at hK
      simp [hand, hmod]
      refine FCall.pan (PInvPan.func (rake_want_pan 5)) ?_
      simp
      refine hJ2.pan ?_
      simp
      exact ⟨_, HLe.refl _, hK⟩
    | false =>
      have hmod : ¬ Rk.fq (l.take k) / 2 ^ i % 2 = 1 := by simpa [inS] using hiq
      have hmod0 : Rk.fq (l.take k) / 2 ^ i % 2 = 0 := by omega
      have hnm : x.1 ∉ (l.take k).map Prod.fst := fun h => by
        have := hm i hin
        rw [hiq, hi] at *
        simp at this h
        exact absurd h (by simpa using this)
      simp [hand, hmod0]
      refine FCall.pure (PInv.func (rake_want_ok 5)) ?_
      simp
      refine PCallK.intro (PInv.func (rake_known_with_ok hn6 hkn hin hiq x.2)) ?_
      simp
      (repeat first | refine And.intro (by omega) ?_ | refine And.intro (Fits.of (by omega) (by omega)) ?_)
      exact hJ2.next (k + 1) ⟨by omega, by rw [htk]; exact inv2.push ⟨by omega, by omega⟩ hnm⟩ (by omega) (by simp) (by simp [hfq, hfp])
  obtain rfl : k = l.length := by omega
  rw [List.take_length] at inv2
  have hE : r.errC l true = 0 := Rak.errC_zero.2 ⟨hv, inv2, rfl⟩
  rw [hE] at hK
  simp
  refine hJ2.exit ?_
  simp
  exact RetV.refl hK
end Go.Cw
end

/- Rake: Known, Next, Worst, Any. -/
section
set_option maxRecDepth 100000
set_option linter.unusedSimpArgs false
namespace Go.Cw
open Go Go.Proofs

theorem rake_check_ok (r : Rak) (hs : r.Small) (l : List (Int × Bool)) (hl : l.length ≤ 40) (is : Bool) (hc : r.errC l is = 0) : APure Pg fn_rake_check [r.v, LK l, .bool is] (.tup []) :=
  APure.of_nil (rake_check_all r hs l hl is (fun e => e = .ret (.tup [])) (by rw [if_pos hc]))
theorem rake_check_pan (r : Rak) (hs : r.Small) (l : List (Int × Bool)) (hl : l.length ≤ 40) (is : Bool) (hc : ¬ r.errC l is = 0) : APan Pg fn_rake_check [r.v, LK l, .bool is] (rkV (r.errC l is)) :=
  APan.of_nil (rake_check_all r hs l hl is (fun e => e = .pan (rkV (r.errC l is))) (by rw [if_neg hc]))

theorem Rak.Hc_copy {f : List Int} (hf : f.length ≤ 6) (a b : AVal) : setRange [.int .i64 0, .int .i64 0, .int .i64 0, .int .i64 0, .int .i64 0, .int .i64 0, a, b] 0 (ints f) = ints (tab 6 (ofL f)) ++ [a, b] := by
  match f, hf with
  | [], _ => rfl
  | [x1], _ => rfl
  | [x1, x2], _ => rfl
  | [x1, x2, x3], _ => rfl
  | [x1, x2, x3, x4], _ => rfl
  | [x1, x2, x3, x4, x5], _ => rfl
  | [x1, x2, x3, x4, x5, x6], _ => rfl
  | _ :: _ :: _ :: _ :: _ :: _ :: _ :: _, h => simp at h
theorem Rak.Hc_set (f : Nat → Int) (a b c : AVal) : setRange (ints (tab 6 f) ++ [a, b]) 7 [c] = ints (tab 6 f) ++ [a, c] := rfl
theorem rake_open_all (r : Rak) (hs : r.Small) (l : List (Int × Bool)) (hl : l.length ≤ 40) (is : Bool) (K : AEnd → Prop)
    (hK : K (if r.errE l is = 0 then .ret (.tup [.pv (Rk.Hc r.F r.n r.S), .agg [.int .i64 (Rk.fq l), .int .i64 (Rk.fp l)]]) else .pan (rkV (r.errE l is)))) : ACalls Pg fn_rake_open [r.v, LK l, .bool is] nilH fun e _ => K e := by
  refine rake_open.enter 0 (by simp) ?_
  simp
  intro s3 s7
  by_cases hc : ¬ r.errC l is = 0
  · rw [Rak.errE_C hc, if_neg hc] at hK
    refine FCall.pan (PInvPan.func (first := []) (cap := []) (args := [r.v, LK l, .bool is]) (rake_check_pan r hs l hl is hc)) ?_
    simp
    exact ⟨_, HLe.refl _, hK⟩
  replace hc := Classical.not_not.1 hc
  obtain ⟨hv, hf, his⟩ := Rak.errC_zero.1 hc
  have hE := Rak.errE_of hv hf his
  have hn6 := hv.n6
  have hfn : r.f.length = r.n := rfl
  refine FCall.pure (PInv.func (first := []) (cap := []) (args := [r.v, LK l, .bool is]) (rake_check_ok r hs l hl is hc)) ?_
  simp
  intro s22
  refine ⟨by omega, ?_⟩
  refine PCallK.intro (PInv.func (first := []) (cap := []) (args := [r.h.v]) (leak_Sets_ok r.h hs.h)) ?_
  by_cases ht : r.h.truths r.h.every = []
  · have hS := Rak.S_nil.2 ht
    have h10 : r.errE l is = 10 := by rw [hE, hS]; simp [Rk.agF]
    rw [h10] at hK
    simp [Hul.setsV, hv.h, ht]
    refine FCall.pan (PInvPan.func (rake_want_pan 10)) ?_
    simp
    exact ⟨_, HLe.refl _, hK⟩
  have hSV : r.h.setsV = .tup [L r.S, .int .i64 0] := by simp [Hul.setsV, hv.h, ht]; rfl
  have hSl := Rak.S_len hv
  have hSi := Rak.S_in hv
  have hmin : (min r.f.length 6) = r.n := by omega
  have hcp := Rak.Hc_copy (f := r.f) (by omega) (.int .i64 r.f.length) .nils
  have htk : r.f.take r.n = r.f := List.take_of_length_le (by omega)
  have h8 : (ints (tab 6 (ofL r.f)) ++ [AVal.int IntKind.i64 r.f.length, .nils]).length = 8 := rfl
  have hst := Rak.Hc_set (ofL r.f) (.int .i64 r.f.length) .nils (L r.S)
  have hHc : ints (tab 6 (ofL r.f)) ++ [AVal.int IntKind.i64 r.f.length, L r.S] = Rk.Hc r.F r.n r.S := rfl
  rw [hSV, hmin, htk, hcp]
  simp
  refine FCall.pure (PInv.func (rake_want_ok 0)) ?_
  simp [hst, hHc]
  intro s11
  refine Lp.intro (σ := Nat) (inv := fun k => k ≤ l.length) (vw := fun k => [(8, .ptr 22 0 (s22+1)), (7, .ptr 7 0 (s7+1)), (11, .ptr 11 0 (s11+1)), (44, LK l), (45, .int .i64 l.length), (46, .int .i64 k)])
    (hp := fun k => [(7, .row [.int .i64 0, .int .i64 0] (s7+1)), (11, .row [.int .i64 (Rk.fq (l.take k)), .int .i64 (Rk.fp (l.take k))] (s11+1)), (22, .row (Rk.Hc r.F r.n r.S) (s22+1))]) (ms := fun k => l.length - k) 0 (by omega) (by simp) (by simp [Rk.fq, Rk.fp]) ?_
  rintro k hk J hJ
  by_cases hkc : k < l.length
  · obtain ⟨x, hx⟩ : ∃ x, l[k] = x := ⟨_, rfl⟩
    have hxr := hf.rng x (by rw [← hx]; simp)
    obtain ⟨i, hi⟩ : ∃ i : Nat, x.1 = i := ⟨x.1.toNat, by omega⟩
    have hin : i < r.n := by omega
    have htk : l.take (k + 1) = l.take k ++ [x] := by rw [← List.take_append_getElem hkc, hx]
    have hft : Rk.Fnd r.n (l.take k) := ⟨fun y hy => hf.rng y (List.mem_of_mem_take hy), hf.once.sublist ((List.take_sublist k l).map Prod.fst)⟩
    have hf1 : Rk.Fnd r.n (l.take k ++ [x]) := by rw [← htk]; exact ⟨fun y hy => hf.rng y (List.mem_of_mem_take hy), hf.once.sublist ((List.take_sublist (k+1) l).map Prod.fst)⟩
    obtain ⟨hkn, hm, _⟩ := Rk.fnd_kn hft
    have hiq : inS (Rk.fq (l.take k)) i = false := by
      rw [hm i hin, decide_eq_false_iff_not, ← hi]
      exact hf1.init.2.2
    have hfq : Rk.fq (l.take (k + 1)) = Rk.fq (l.take k) + 2 ^ i := by rw [htk, Rk.fq_push, hi]; rfl
    have hfp : Rk.fp (l.take (k + 1)) = Rk.lk (Rk.fp (l.take k)) i x.2 := by rw [htk, Rk.fp_push, hi]; rfl
    simp [hkc, hx, hi]
    refine ⟨by omega, fun s13 => ?_⟩
    refine PCallK.intro (PInv.func (rake_known_with_ok hn6 hkn hin hiq x.2)) ?_
    simp
    (repeat first | refine And.intro (by omega) ?_ | refine And.intro (Fits.of (by omega) (by omega)) ?_)
    exact hJ.next (k + 1) (by omega) (by omega) (by simp) (by simp [hfq, hfp])
  obtain rfl : k = l.length := by omega
  have hkn := (Rk.fnd_kn hf).1
  have cA := rake_hull_agreeing_ok r.F r.n hv.n6 r.S (by omega) (Rak.S_in hv) hkn
  rw [← Rk.agF_eq hf] at cA
  simp
  refine hJ.exitS (Sl.frz 22 (cells := Rk.Hc r.F r.n r.S) (s := s22 + 1) (by simp) (Sl.refl ?_))
  simp
  refine FCall.pure (PInv.func cA) ?_
  by_cases h0 : Rk.agF r.S l = []
  · rw [hE, if_pos h0] at hK
    simp [h0]
    refine FCall.pan (PInvPan.func (rake_want_pan 10)) ?_
    simp
    exact ⟨_, HLe.refl _, hK⟩
  · rw [hE, if_neg h0] at hK
    have hp : 0 < (Rk.agF r.S l).length := List.length_pos_iff.2 h0
    simp [hp]
    refine FCall.pure (PInv.func (rake_want_ok 10)) ?_
    simp
    exact RetV.refl hK
theorem rake_open_ok (r : Rak) (hs : r.Small) (l : List (Int × Bool)) (hl : l.length ≤ 40) (is : Bool) (he : r.errE l is = 0) : APure Pg fn_rake_open [r.v, LK l, .bool is] (.tup [.pv (Rk.Hc r.F r.n r.S), .agg [.int .i64 (Rk.fq l), .int .i64 (Rk.fp l)]]) :=
  APure.of_nil (rake_open_all r hs l hl is (fun e => e = .ret (.tup [.pv (Rk.Hc r.F r.n r.S), .agg [.int .i64 (Rk.fq l), .int .i64 (Rk.fp l)]])) (by rw [if_pos he]))
theorem rake_open_pan (r : Rak) (hs : r.Small) (l : List (Int × Bool)) (hl : l.length ≤ 40) (is : Bool) (he : ¬ r.errE l is = 0) : APan Pg fn_rake_open [r.v, LK l, .bool is] (rkV (r.errE l is)) :=
  APan.of_nil (rake_open_all r hs l hl is (fun e => e = .pan (rkV (r.errE l is))) (by rw [if_neg he]))
theorem rake_Known_ok (r : Rak) (hs : r.Small) (l : List (Int × Bool)) (hl : l.length ≤ 40) : APure Pg fn_rake_Known [r.v, LK l] (r.knownV l) := by
  by_cases he : ¬ r.errE l true = 0
  · refine rake_Known.pure (by simp) ?_
    simp
    intro s1 s2
    refine FCall.pan (PInvPan.func (rake_open_pan r hs l hl true he)) ?_
    simp
    refine RetD.panic rfl rake_Known_1.recClo ?_
    refine ACalls.cps [(5, .row [.int .i64 0] (s2 + 1))] (fun _ : Unit => .tup []) (fun _ => [(5, .row [.int .i64 (r.errE l true)] (s2 + 1))]) (fun _ => True) (fun K' hK' => rake_said_ref _ _ _ _ K' (hK' () trivial)) (by simp) (fun _ => rfl) fun _ _ => ?_
    simp
    exact RetV.ale (v' := .tup [L [], .int .i64 (r.errE l true)]) (ALe.tup ⟨ALe.nils_vl, ALe.refl _, trivial⟩) (RetV.refl (by simp [Rak.knownV, he]))
  replace he := Classical.not_not.1 he
  obtain ⟨hv, hf, _, hne⟩ := Rak.errE_zero.1 he
  have hkn := (Rk.fnd_kn hf).1
  have hSl := Rak.S_len hv
  have cO := rake_open_ok r hs l hl true he
  have cA := rake_hull_agreeing_ok r.F r.n hv.n6 r.S (by omega) (Rak.S_in hv) hkn
  rw [← Rk.agF_eq hf] at cA
  refine rake_Known.pure (by simp) ?_
  simp
  intro s1 s2
  refine FCall.pure (PInv.func cO) ?_
  simp
  intro s3
  refine FCall.pure (PInv.func cA) ?_
  simp
  refine RetD.ret rfl rake_Known_1.recClo ((rake_said_nil _ _).mono ?_)
  rintro e h' ⟨rfl, rfl⟩
  simp
  exact RetV.refl (by simp [Rak.knownV, he])

end Go.Cw
end

/- Rake: Next, Worst. -/
section
set_option maxRecDepth 100000
set_option linter.unusedSimpArgs false
namespace Go.Cw
open Go Go.Proofs

theorem FCall.plan {F n₀ : Nat} {inr : Bool} {keep : List Nat} {fa fl : List It} {t : Option Nat} {K : KT} {Q : Post} {tm : TM} {df : DF} {h : Heap} (n : Nat) (f : Nat → Int) (any : Bool) (S : List Int) (ty : Nat)
    (hh : h 402 = .dead ∧ h 403 = .dead ∧ h 405 = .dead ∧ h 406 = .dead ∧ h 407 = .dead) (hfa : FaOk F fa tm h)
    (next : ∀ s : Nat × Nat × Nat × Nat × Nat, FlOk fl (putD tm t (Rk.onV s.1 s.2.1 s.2.2.1 s.2.2.2.1)) (updL h (Rk.rwK n f any S (.iface ty (.agg [])) s.1 s.2.1 s.2.2.1 s.2.2.2.1 s.2.2.2.2 [])) ∧ K (putD tm t (Rk.onV s.1 s.2.1 s.2.2.1 s.2.2.2.1)) df (updL h (Rk.rwK n f any S (.iface ty (.agg [])) s.1 s.2.1 s.2.2.1 s.2.2.2.1 s.2.2.2.2 []))) :
    FCall ⟨Pg, F, n₀, inr, keep⟩ (.func (.func fn_rake_hull_plan) [] []) [.pv (Rk.Hc f n S), .iface ty (.agg [])] fa fl t K Q tm df h := by
  obtain ⟨h2, h3, h5, h6, h7⟩ := hh
  refine FCall.cps (σ := Nat × Nat × Nat × Nat × Nat) [(402, .dead), (403, .dead), (405, .dead), (406, .dead), (407, .dead)] (fun s => Rk.onV s.1 s.2.1 s.2.2.1 s.2.2.2.1) (fun s => Rk.rwK n f any S (.iface ty (.agg [])) s.1 s.2.1 s.2.2.1 s.2.2.2.1 s.2.2.2.2 []) (fun _ => True)
    (fun K' hK' => AInvoke.func ?_) (by simp [h2, h3, h5, h6, h7]) (fun _ => rfl) hfa (fun s _ => next s)
  have := rake_hull_plan_ok n f any S ty K' fun s2 s3 s5 s6 s7 => hK' (s2, s3, s5, s6, s7) trivial
  have e : hpV [(402, .dead), (403, .dead), (405, .dead), (406, .dead), (407, .dead)] = nilH := by
    simp only [hpV_cons, hpV_nil]
    repeat rw [upd_dead rfl]
  rw [e]
  exact this
theorem FCall.ask {F n₀ : Nat} {inr : Bool} {keep : List Nat} {fa fl : List It} {t : Option Nat} {K : KT} {Q : Post} {tm : TM} {df : DF} {h : Heap} {n : Nat} (hn : n ≤ 6) {f : Nat → Int} (hf : ∀ i, i < n → 0 ≤ f i ∧ f i ≤ 100) {any : Bool} {S : List Int} (hl : S.length ≤ 100000) (hS : ∀ s ∈ S, 0 ≤ s ∧ s < 2 ^ n) {ty : Nat} {s2 s3 s5 s6 s7 : Nat}
    (hg : ∀ q p (l : List Int), PInv Pg (.func (.method "caulkworks/rake.done") [.iface ty (.agg [])] []) [.agg [.int .i64 q, .int .i64 p], L l] (.bool (Rk.dnB any p l))) {q p : Int} (hk : Rk.Kn n q p)
    (hh : Hw (Rk.rwK n f any S (.iface ty (.agg [])) s2 s3 s5 s6 s7 []) h) (hfa : FaOk F fa tm h)
    (next : ∀ M : List (Int × Int), FlOk fl (putD tm t (.tup [.int .i64 (Rk.tellK n f any S q p).1, .int .i64 (Rk.tellK n f any S q p).2])) (updL h (Rk.rwK n f any S (.iface ty (.agg [])) s2 s3 s5 s6 s7 M)) ∧ K (putD tm t (.tup [.int .i64 (Rk.tellK n f any S q p).1, .int .i64 (Rk.tellK n f any S q p).2])) df (updL h (Rk.rwK n f any S (.iface ty (.agg [])) s2 s3 s5 s6 s7 M))) :
    FCall ⟨Pg, F, n₀, inr, keep⟩ (Rk.onV s2 s3 s5 s6) [.agg [.int .i64 q, .int .i64 p]] fa fl t K Q tm df h := by
  refine FCall.cps (σ := List (Int × Int)) (Rk.rwK n f any S (.iface ty (.agg [])) s2 s3 s5 s6 s7 []) (fun _ => .tup [.int .i64 (Rk.tellK n f any S q p).1, .int .i64 (Rk.tellK n f any S q p).2]) (fun M => Rk.rwK n f any S (.iface ty (.agg [])) s2 s3 s5 s6 s7 M) (fun _ => True)
    (fun K' hK' => ?_) hh (fun _ => rfl) hfa (fun M _ => next M)
  unfold Rk.onV
  refine AInvoke.func ?_
  have := rake_hull_plan_1_ok hn hf hl hS (s2 := s2) (s3 := s3) (s5 := s5) (s6 := s6) (s7 := s7) hg (Rk.un n q).length q p hk rfl [] (by simp) K' fun M _ => hK' M trivial
  simpa using this

theorem rake_Next_ok (r : Rak) (hs : r.Small) (l : List (Int × Bool)) (hl : l.length ≤ 40) : APure Pg fn_rake_Next [r.v, LK l] (r.nextV l) := by
  by_cases he : ¬ r.errE l true = 0
  · refine rake_Next.pure (by simp) ?_
    simp
    intro s1 s2
    refine FCall.pan (PInvPan.func (rake_open_pan r hs l hl true he)) ?_
    simp
    refine RetD.panic rfl rake_Next_1.recClo ?_
    refine ACalls.cps [(6, .row [.int .i64 0] (s2 + 1))] (fun _ : Unit => .tup []) (fun _ => [(6, .row [.int .i64 (r.errE l true)] (s2 + 1))]) (fun _ => True) (fun K' hK' => rake_said_ref _ _ _ _ K' (hK' () trivial)) (by simp) (fun _ => rfl) fun _ _ => ?_
    simp
    exact RetV.refl (by simp [Rak.nextV, Rak.nextP, he])
  replace he := Classical.not_not.1 he
  obtain ⟨hv, hf, _, hne⟩ := Rak.errE_zero.1 he
  have hkn := (Rk.fnd_kn hf).1
  have hSl := Rak.S_len hv
  have cO := rake_open_ok r hs l hl true he
  have cA := rake_hull_agreeing_ok r.F r.n hv.n6 r.S (by omega) (Rak.S_in hv) hkn
  rw [← Rk.agF_eq hf] at cA
  by_cases h1 : (Rk.agF r.S l).length ≤ 1
  · refine rake_Next.pure (by simp) ?_
    simp
    intro s1 s2
    refine FCall.pure (PInv.func cO) ?_
    simp
    intro s3
    refine FCall.pure (PInv.func cA) ?_
    simp [show ¬ (1 : Int) < (Rk.agF r.S l).length by omega]
    refine FCall.pan (PInvPan.func (rake_want_pan 4)) ?_
    simp
    refine RetD.panic rfl rake_Next_1.recClo ?_
    refine ACalls.cps [(6, .row [.int .i64 0] (s2 + 1))] (fun _ : Unit => .tup []) (fun _ => [(6, .row [.int .i64 4] (s2 + 1))]) (fun _ => True) (fun K' hK' => rake_said_ref _ _ _ _ K' (hK' () trivial)) (by simp) (fun _ => rfl) fun _ _ => ?_
    simp
    exact RetV.refl (by simp [Rak.nextV, Rak.nextP, he, h1])
  have hT : Rk.tellK r.n r.F false r.S (Rk.fq l) (Rk.fp l) = Rk.planQ r.n r.F false (Rk.agF r.S l) (Rk.fq l) := by
    unfold Rk.tellK; rw [← Rk.agF_eq hf]; simp
  refine rake_Next.pure (by simp) ?_
  simp
  intro s1 s2
  refine FCall.pure (PInv.func cO) ?_
  simp
  intro s3
  refine FCall.pure (PInv.func cA) ?_
  simp [show (1 : Int) < (Rk.agF r.S l).length by omega]
  refine FCall.pure (PInv.func (rake_want_ok 4)) ?_
  simp
  refine FCall.plan r.n r.F false r.S 133 (by simp) trivial fun t => ?_
  refine ⟨by simp [Rk.rwK], ?_⟩
  simp [Rk.rwK]
  refine FCall.ask (s7 := t.2.2.2.2) hv.n6 (Rak.F_in hv) (by omega) (Rak.S_in hv) rake_done_all hkn (by simp [Rk.rwK]) trivial fun M => ?_
  simp [Rk.rwK, hT]
  refine RetD.ret rfl rake_Next_1.recClo ((rake_said_nil _ _).mono ?_)
  rintro e h' ⟨rfl, rfl⟩
  simp
  exact RetV.refl (by simp [Rak.nextV, Rak.nextP, he, h1])

theorem rake_open0 (r : Rak) (hs : r.Small) (he : r.errE [] true = 0) : PInv Pg (.func (.func fn_rake_open) [] []) [r.v, .nils, .bool true] (.tup [.pv (Rk.Hc r.F r.n r.S), .agg [.int .i64 0, .int .i64 0]]) := fun hh =>
  AInvoke.ale (ALe.refl _) (args' := [r.v, LK [], .bool true]) ⟨ALe.refl _, ALe.nils_vl, ALe.refl _, trivial⟩ (PInv.func (first := []) (cap := []) (args := [r.v, LK [], .bool true]) (rake_open_ok r hs [] (by simp) true he) hh)
theorem rake_open0_pan (r : Rak) (hs : r.Small) (is : Bool) (he : ¬ r.errE [] is = 0) : PInvPan Pg (.func (.func fn_rake_open) [] []) [r.v, .nils, .bool is] (rkV (r.errE [] is)) := fun hh =>
  AInvoke.ale (ALe.refl _) (args' := [r.v, LK [], .bool is]) ⟨ALe.refl _, ALe.nils_vl, ALe.refl _, trivial⟩ (PInvPan.func (first := []) (cap := []) (args := [r.v, LK [], .bool is]) (rake_open_pan r hs [] (by simp) is he) hh)
theorem rake_Worst_ok (r : Rak) (hs : r.Small) : APure Pg fn_rake_Worst [r.v] r.worstV := by
  by_cases he : ¬ r.errE [] true = 0
  · refine rake_Worst.pure (by simp) ?_
    simp
    intro s1 s2
    refine FCall.pan (rake_open0_pan r hs true he) ?_
    simp
    refine RetD.panic rfl rake_Worst_1.recClo ?_
    refine ACalls.cps [(3, .row [.int .i64 0] (s2 + 1))] (fun _ : Unit => .tup []) (fun _ => [(3, .row [.int .i64 (r.errE [] true)] (s2 + 1))]) (fun _ => True) (fun K' hK' => rake_said_ref _ _ _ _ K' (hK' () trivial)) (by simp) (fun _ => rfl) fun _ _ => ?_
    simp
    exact RetV.refl (by simp [Rak.worstV, he])
  replace he := Classical.not_not.1 he
  obtain ⟨hv, _, _, hne⟩ := Rak.errE_zero.1 he
  have hSl := Rak.S_len hv
  have hT : Rk.tellK r.n r.F false r.S 0 0 = Rk.planQ r.n r.F false r.S 0 := by
    unfold Rk.tellK; rw [Rk.agQ_zero]; simp
  refine rake_Worst.pure (by simp) ?_
  simp
  intro s1 s2
  refine FCall.pure (rake_open0 r hs he) ?_
  simp
  intro s3
  refine FCall.plan r.n r.F false r.S 133 (by simp) trivial fun t => ?_
  refine ⟨by simp [Rk.rwK], ?_⟩
  simp [Rk.rwK]
  refine FCall.ask (s7 := t.2.2.2.2) hv.n6 (Rak.F_in hv) (by omega) (Rak.S_in hv) rake_done_all Rk.Kn.zero (by simp [Rk.rwK]) trivial fun M => ?_
  simp [Rk.rwK, hT]
  refine RetD.ret rfl rake_Worst_1.recClo ((rake_said_nil _ _).mono ?_)
  rintro e h' ⟨rfl, rfl⟩
  simp
  exact RetV.refl (by simp [Rak.worstV, he])

end Go.Cw
end
