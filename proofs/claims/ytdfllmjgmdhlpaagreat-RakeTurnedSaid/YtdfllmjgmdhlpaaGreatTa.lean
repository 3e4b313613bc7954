/-
  What the functions of layer 3 compute.
-/
import Derived.Test.YtdfllmjgmdhlpaaGreatQa
import Derived.Test.YtdfllmjgmdhlpaaGreatGa
import Derived.Test.YtdfllmjgmdhlpaaGreatGb
import Derived.Test.YtdfllmjgmdhlpaaGreatAf
import Derived.Test.YtdfllmjgmdhlpaaGreatLa
import Derived.Test.YtdfllmjgmdhlpaaGreatProg
import Derived.Shelf.SlSortCmp.NoneTotal
set_option linter.unusedVariables false
set_option linter.unusedSimpArgs false
set_option linter.unusedSectionVars false

/- Rake: the program's small functions. -/
section
set_option maxRecDepth 100000
set_option linter.unusedSimpArgs false
namespace Go.Cw
open Go Go.Proofs

theorem Rk.wrapI {n : Int} (h0 : 0 ≤ n) (h1 : n < 2 ^ 62) : IntKind.i64.wrap n = n := by
  have e : (2 : Int) ^ 62 = 4611686018427387904 := by decide
  exact wrap_fits (by unfold Fits; omega)
theorem rake_within_ok (n lo hi : Int) : APure Pg fn_rake_within [.int .i64 n, .int .i64 lo, .int .i64 hi] (.bool (decide (lo ≤ n ∧ n ≤ hi))) := by
  refine rake_within.pure (by simp) ?_
  by_cases h : lo ≤ n <;> simp [h] <;> refine RetV.refl ?_ <;> simp_all
/-- A refusal of this layer. -/
def rkV (e : Int) : AVal := .iface 133 (.agg [.int .i64 e])
theorem rake_want_ok (e : Int) : APure Pg fn_rake_want [.bool true, .int .i64 e] (.tup []) := by
  refine rake_want.pure (by simp) ?_
  simp
  exact RetV.refl rfl
theorem rake_want_pan (e : Int) : APan Pg fn_rake_want [.bool false, .int .i64 e] (rkV e) := by
  refine APan.of_nil (rake_want.enter 0 (by simp) ?_)
  simp
  exact ⟨_, HLe.refl _, rfl⟩
theorem rake_said_nil (p : AVal) : APure Pg fn_rake_said [.nili, p] (.tup []) := by
  refine rake_said.pure (by simp) ?_
  simp
  exact RetV.refl rfl
theorem rake_said_ref (e x : Int) (r s : Nat) (K : AEnd → Heap → Prop) (hK : K (.ret (.tup [])) (hpV [(r, .row [.int .i64 e] s)])) : ACalls Pg fn_rake_said [rkV e, .ptr r 0 s] (hpV [(r, .row [.int .i64 x] s)]) K := by
  obtain ⟨F, hF⟩ : ∃ F, r < F := ⟨r + 1, by omega⟩
  have e1 : ∀ k, ¬ F + k = r := fun k => by omega
  have e2 : ∀ k, ¬ r = F + k := fun k => by omega
  refine rake_said.enter F (by simp) ?_
  simp [rkV, e1, e2]
  intro s1
  exact RetV.view [(r, .row [.int .i64 e] s)] (by simp) hK

/-- What is known, as a value. -/
def knV (q p : Int) : AVal := .agg [.int .i64 q, .int .i64 p]
theorem rake_known_with_ok {n : Nat} (hn : n ≤ 6) {q p : Int} (h : Rk.Kn n q p) {i : Nat} (hi : i < n) (hq : inS q i = false) (b : Bool) :
    APure Pg fn_rake_known_with [.agg [.int .i64 q, .int .i64 p], .int .i64 i, .bool b] (.agg [.int .i64 (q + 2 ^ i), .int .i64 (Rk.lk p i b)]) := by
  have h1 := two_pow_le (show i ≤ 6 by omega)
  have h2 := two_pow_pos i
  have e6 : (2 : Int) ^ 6 = 64 := by decide
  have hw : IntKind.i64.wrap ((2 : Int) ^ i) = 2 ^ i := Rk.wrapI (by omega) (by omega)
  have hF : Fits ((2 : Int) ^ i) := by unfold Fits; omega
  have o1 := Rk.or_bit h.qr (by omega) hi hq
  have o2 := Rk.or_bit h.pr (by omega) hi (h.off hi hq)
  refine rake_known_with.pure (by simp) ?_
  cases b
  · simp [hw, o1]
    intro s1 s2
    exact ⟨by omega, hF, RetV.refl rfl⟩
  · simp [hw, o1, o2]
    intro s1 s2
    exact ⟨by omega, hF, by omega, hF, RetV.refl rfl⟩
theorem rake_known_agrees_ok (q p s : Int) : APure Pg fn_rake_known_agrees [.agg [.int .i64 q, .int .i64 p], .int .i64 s] (.bool (decide (bitI .and .i64 s q = p))) := by
  refine rake_known_agrees.pure (by simp) ?_
  simp
  intro s1
  exact RetV.refl rfl
theorem rake_all_done_ok (q p : Int) (l : List Int) : APure Pg fn_rake_all_done [.agg [], .agg [.int .i64 q, .int .i64 p], L l] (.bool (decide (l.length ≤ 1))) := by
  refine rake_all_done.pure (by simp) ?_
  simp
  intro s1 s2
  have e : decide ((l.length : Int) ≤ 1) = decide (l.length ≤ 1) := decide_eq_decide.2 (by omega)
  rw [e]
  exact RetV.refl rfl
theorem rake_lengths_of_ok (f : Nat → Int) (i : Nat) (hi : i < 6) : APure Pg fn_rake_lengths_of [.agg (ints (tab 6 f)), .int .i64 i] (.int .i64 (f i)) := by
  refine rake_lengths_of.pure (by simp) ?_
  have ht : (tab 6 f)[i]? = some (f i) := by simp [tab, hi]
  simp [ht, hi]
  intro s1
  exact ⟨by omega, RetV.refl rfl⟩
end Go.Cw
end

/- Rake: the sets that agree. -/
section
set_option maxRecDepth 100000
set_option linter.unusedSimpArgs false
namespace Go.Cw
open Go Go.Proofs

namespace Rk
/-- What is kept of a rake: the lengths, how many seams, the sets. -/
def Hc (f : Nat → Int) (n : Nat) (S : List Int) : List AVal := ints (tab 6 f) ++ [.int .i64 n, L S]
end Rk
theorem rake_hull_agreeing_ok (f : Nat → Int) (n : Nat) (hn : n ≤ 6) (S : List Int) (hl : S.length ≤ 100000) (hS : ∀ s ∈ S, 0 ≤ s ∧ s < 2 ^ n) {q p : Int} (hk : Rk.Kn n q p) :
    APure Pg fn_rake_hull_agreeing [.pv (Rk.Hc f n S), .agg [.int .i64 q, .int .i64 p]] (L (Rk.agQ n S q p)) := by
  refine rake_hull_agreeing.pure (by simp) ?_
  simp [Rk.Hc]
  intro s
  obtain ⟨m, hm⟩ : ∃ m : Nat → List Int, m = fun k => (S.take k).filter (fun s => Rk.same n q s p) := ⟨_, rfl⟩
  have hml : ∀ k, (m k).length ≤ k := fun k => by
    rw [hm]; have := List.length_filter_le (fun s => Rk.same n q s p) (S.take k); simp at this ⊢; omega
  have hm0 : m 0 = [] := by rw [hm]; rfl
  refine Lp.intro' (σ := Nat × Nat) (inv := fun x => x.1 ≤ S.length)
    (vw := fun x => [(3, .ptr 3 0 (s+1)), (4, gS 1 22 (m x.1).length x.2), (10, L S), (11, .int .i64 S.length), (12, .int .i64 x.1)])
    (hp := fun x => [(3, .row [.int .i64 q, .int .i64 p] (s+1)), (22, gO (m x.1).length (ints (m x.1)) x.2)]) (ms := fun x => S.length - x.1) (0, 0) (by simp) (Sl.wk 4 .es (by simpa using ALe.nils_es) (Sl.refl ⟨by simp, by simp [hm0], by simp [hm0]⟩)) ?_
  rintro ⟨k, st⟩ hk2 J hJ
  simp at hk2
  by_cases hkc : k < S.length
  · obtain ⟨x, hx⟩ : ∃ x, S[k] = x := ⟨_, rfl⟩
    have hxb := hS x (by rw [← hx]; simp)
    have hmk := hml k
    have hms : m (k + 1) = m k ++ (if Rk.same n q x p then [x] else []) := by
      rw [hm]
      simp only [← List.take_append_getElem hkc, List.filter_append, hx]
      congr 1
      cases h : Rk.same n q x p
      · simp [h]
      · simp [h]
    have cA := rake_known_agrees_ok q p x
    rw [Rk.agrees_bits hk (by omega) hxb] at cA
    simp [hkc, hx]
    refine PCallK.intro (PInv.func cA) ?_
    cases hfx : Rk.same n q x p
    · rw [hfx] at hms
      simp
      (repeat first | refine And.intro (by omega) ?_ | refine And.intro (Fits.of (by omega) (by omega)) ?_)
      exact hJ.next (k + 1, st) (by simp; omega) (by simp; omega) (by simp [hms]) (by simp [hms])
    · rw [hfx] at hms
      simp [hkc, hx]
      intro s4 s5
      refine xApN_gS (cells := ints (m k)) (by simp) (by simp) (by omega) (by omega) ?_
      simp
      (repeat first | refine And.intro (by omega) ?_ | refine And.intro (Fits.of (by omega) (by omega)) ?_)
      exact hJ.next (k + 1, s5 + 1) (by simp; omega) (by simp; omega) (by simp [hms]) (by simp [hms])
  obtain rfl : k = S.length := by omega
  simp
  refine hJ.exit ?_
  simp
  refine RetV.le (VLe.gS (cells := ints (m S.length)) (s := st) (by simp) (by simp)) (RetV.refl ?_)
  have : m S.length = Rk.agQ n S q p := by rw [hm]; simp only [List.take_length]; rfl
  rw [this]
  simp [L]
end Go.Cw
end

/- Rake: the greatest of two numbers; one thing more. -/
section
set_option maxRecDepth 100000
set_option linter.unusedSimpArgs false
namespace Go.Cw
open Go Go.Proofs

theorem slices_Max3_ok (a b : Int) : APure Pg fn_slices_Max_int_int [.vl 3 [.int .i64 a, .int .i64 b, .int .i64 0]] (.int .i64 (max a (max b 0))) := by
  refine slices_Max_int_int.pure (by simp) ?_
  simp
  refine Lp.intro (σ := Nat) (inv := fun k => 1 ≤ k ∧ k ≤ 3) (vw := fun k => [(0, .vl 3 [.int .i64 a, .int .i64 b, .int .i64 0]), (3, .int .i64 (if k = 1 then a else if k = 2 then max a b else max a (max b 0))), (4, .int .i64 k)])
    (hp := fun _ => []) (ms := fun k => 3 - k) 1 (by simp) (by simp) (by simp) ?_
  rintro k ⟨hk1, hk⟩ J hJ
  rcases (show k = 1 ∨ k = 2 ∨ k = 3 by omega) with rfl | rfl | rfl
  · simp
    (repeat first | refine And.intro (by omega) ?_ | refine And.intro (Fits.of (by omega) (by omega)) ?_)
    exact hJ.next 2 (by omega) (by omega) (by simp) (by simp)
  · simp
    (repeat first | refine And.intro (by omega) ?_ | refine And.intro (Fits.of (by omega) (by omega)) ?_)
    exact hJ.next 3 (by omega) (by omega) (by simp) (by simp)
  · simp
    refine hJ.exit ?_
    simp
    exact RetV.refl rfl
theorem rake_greatest_ok (a b : Int) (r s : Nat) (K : AEnd → Heap → Prop) (hK : K (.ret (.int .i64 (max a (max b 0)))) (hpV [(r, .row [.int .i64 a, .int .i64 b] s)])) :
    ACalls Pg fn_rake_greatest [.sl r 0 s 2 (.ex 2)] (hpV [(r, .row [.int .i64 a, .int .i64 b] s)]) K := by
  obtain ⟨F, hF⟩ : ∃ F, r < F := ⟨r + 1, by omega⟩
  have e1 : ∀ k, ¬ F + k = r := fun k => by omega
  have e2 : ∀ k, ¬ r = F + k := fun k => by omega
  refine rake_greatest.enter F (by simp) ?_
  simp [e1, e2]
  intro s1 s2
  refine FCall.frz1 (F + 5) (cells := [.int .i64 a, .int .i64 b, .int .i64 0]) (s := s2 + 1) (by simp [e1, e2]) (v := .int .i64 (max a (max b 0))) ?_ (by simp [e1, e2]) ?_
  · simp
    exact PInv.func (first := []) (cap := []) (args := [_]) (slices_Max3_ok a b)
  simp [e1, e2]
  exact RetV.view [(r, .row [.int .i64 a, .int .i64 b] s)] (by simp [e1, e2]) hK
end Go.Cw
end

/- Rake: the best of some things looks at one thing more, by a function that may write. -/
section
set_option maxRecDepth 100000
set_option linter.unusedSimpArgs false
namespace Go.Cw
open Go Go.Proofs

/-- The best so far, as cells. -/
def bstC (b : Option (Nat × Int)) (fv : AVal) : List AVal := [.bool b.isSome, .int .i64 ((b.map fun x => (x.1 : Int)).getD 0), .int .i64 ((b.map Prod.snd).getD 0), fv]
theorem rake_best_int_see_ok {τ : Type} (row : τ → List (Nat × AObj)) (hb : RowsB row 512) (fv : AVal) (i : Nat) (g : Int) (t₀ : τ) (b : Option (Nat × Int)) (sb : Nat)
    (hy : ∀ K : AEnd → Heap → Prop, (∀ t', K (.ret (.int .i64 g)) (hpV (row t'))) → AInvoke Pg fv [.int .i64 i] (hpV (row t₀)) K)
    (K : AEnd → Heap → Prop) (hK : ∀ t', K (.ret (.tup [])) (hpV ((512, .row (bstC (Rk.betR (fun _ => g) b i) fv) sb) :: row t'))) :
    ACalls Pg fn_rake_best_int_see [.ptr 512 0 sb, .int .i64 i] (hpV ((512, .row (bstC b fv) sb) :: row t₀)) K := by
  refine rake_best_int_see.enter 520 (by simp) ?_
  simp [bstC, hb.upd, hb.self]
  refine FCall.cps (σ := τ) (row t₀) (fun _ => .int .i64 g) (fun t' => row t') (fun _ => True) (fun K' hK' => hy K' fun t' => hK' t' trivial) (by simp [hb.upd, hb.self]) (fun t' => hb.hn _ _) trivial (fun t' _ => ⟨trivial, ?_⟩)
  have hK := hK t'
  cases b with
  | none =>
    simp [hb.upd, hb.self, hb.updL]
    exact RetV.view ((512, .row [.bool true, .int .i64 i, .int .i64 g, fv] sb) :: row t') (by simp [hb.upd, hb.self, hb.updL, hb.updL_self]) (by simpa [bstC, Rk.betR] using hK)
  | some c =>
    by_cases hc : g < c.2
    · simp [hb.upd, hb.self, hb.updL, hc]
      exact RetV.view ((512, .row [.bool true, .int .i64 i, .int .i64 g, fv] sb) :: row t') (by simp [hb.upd, hb.self, hb.updL, hb.updL_self]) (by simpa [bstC, Rk.betR, hc] using hK)
    · simp [hb.upd, hb.self, hb.updL, hc]
      exact RetV.view ((512, .row [.bool true, .int .i64 c.1, .int .i64 c.2, fv] sb) :: row t') (by simp [hb.upd, hb.self, hb.updL, hb.updL_self]) (by simpa [bstC, Rk.betR, hc] using hK)
end Go.Cw
end

/- Rake: how many fathoms are enough behind one seam: the function that is handed on. -/
section
set_option maxRecDepth 100000
set_option linter.unusedSimpArgs false
namespace Go.Cw
open Go Go.Proofs

namespace Rk
/-- The function that tells the next seam, in use. -/
def onV (s2 s3 s5 s6 : Nat) : AVal := .func (.func fn_rake_hull_plan_1) [] [.ptr 402 0 s2, .ptr 403 0 s3, .ptr 405 0 s5, .ptr 406 0 s6]
def ekK (x : Int × Int) : AVal := .agg [.int .i64 x.1, .int .i64 x.2]
theorem keyLawK : KeyLaw (true, [.i, .i]) ekK := ⟨fun a b => by
  unfold ekK
  simp only [keyEq, flatEq, if_true, Option.map_some]
  by_cases h : a = b
  · subst h; simp
  · by_cases h1 : a.1 = b.1
    · have : ¬ a.2 = b.2 := fun e => h (Prod.ext h1 e)
      simp [h, h1, this]
    · simp [h, h1]⟩
def vfK (n : Nat) (f : Nat → Int) (any : Bool) (S : List Int) (x : Int × Int) : AVal := .agg [.int .i64 (tellK n f any S x.1 x.2).1, .int .i64 (tellK n f any S x.1 x.2).2]
/-- What is kept while seams are gone through. -/
def rwK (n : Nat) (f : Nat → Int) (any : Bool) (S : List Int) (gV : AVal) (s2 s3 s5 s6 s7 : Nat) (M : List (Int × Int)) : List (Nat × AObj) :=
  [(402, .row [.pv (Hc f n S)] s2), (403, .row [gV] s3), (405, .row [.map 407 s7] s5), (406, .row [onV s2 s3 s5 s6] s6), (407, .map (entsK ekK (vfK n f any S) M) s7)]
def OnOk (n : Nat) (f : Nat → Int) (any : Bool) (S : List Int) (gV : AVal) (s2 s3 s5 s6 s7 : Nat) (j : Nat) : Prop :=
  ∀ q p, Kn n q p → (un n q).length = j → ∀ M : List (Int × Int), M.Nodup → ∀ K : AEnd → Heap → Prop, (∀ M' : List (Int × Int), M'.Nodup → K (.ret (.tup [.int .i64 (tellK n f any S q p).1, .int .i64 (tellK n f any S q p).2])) (hpV (rwK n f any S gV s2 s3 s5 s6 s7 M'))) →
    ACalls Pg fn_rake_hull_plan_1 [.agg [.int .i64 q, .int .i64 p], .ptr 402 0 s2, .ptr 403 0 s3, .ptr 405 0 s5, .ptr 406 0 s6] (hpV (rwK n f any S gV s2 s3 s5 s6 s7 M)) K
def ofV (f : Nat → Int) : AVal := .func (.func fn_rake_lengths_of) [.agg (ints (tab 6 f))] []
end Rk
theorem Rk.tellK_bound {n : Nat} (hn : n ≤ 6) {f : Nat → Int} (hf : ∀ i, i < n → 0 ≤ f i ∧ f i ≤ 100) {any : Bool} {S : List Int} {q p : Int} : (Rk.tellK n f any S q p).2 ≤ 600 := by
  unfold Rk.tellK
  split
  · show (0 : Int) ≤ 600; omega
  · have := Rk.planQ_bound hf (by omega) (any := any) (Rk.agQ n S q p) q
    omega
theorem rake_hull_plan_1_1_ok {n : Nat} (hn : n ≤ 6) {f : Nat → Int} (hf : ∀ i, i < n → 0 ≤ f i ∧ f i ≤ 100) {any : Bool} {S : List Int} {gV : AVal} {s2 s3 s5 s6 s7 j : Nat} (on : Rk.OnOk n f any S gV s2 s3 s5 s6 s7 j)
    {q p : Int} (hk : Rk.Kn n q p) (hj : (Rk.un n q).length = j + 1) {i : Nat} (hi : i ∈ Rk.un n q) (sk so : Nat) (M : List (Int × Int)) (hM : M.Nodup) (K : AEnd → Heap → Prop)
    (hK : ∀ M' : List (Int × Int), M'.Nodup → K (.ret (.int .i64 (f i + max (Rk.tellK n f any S (q + 2 ^ i) (Rk.lk p i true)).2 (Rk.tellK n f any S (q + 2 ^ i) (Rk.lk p i false)).2)))
      (hpV ((505, .row [.int .i64 q, .int .i64 p] sk) :: (511, .row [Rk.ofV f] so) :: Rk.rwK n f any S gV s2 s3 s5 s6 s7 M'))) :
    ACalls Pg fn_rake_hull_plan_1_1 [.int .i64 i, .ptr 406 0 s6, .ptr 505 0 sk, .ptr 511 0 so] (hpV ((505, .row [.int .i64 q, .int .i64 p] sk) :: (511, .row [Rk.ofV f] so) :: Rk.rwK n f any S gV s2 s3 s5 s6 s7 M)) K := by
  obtain ⟨hi1, hi2⟩ := Rk.mem_un.1 hi
  have hlen := Rk.un_len hk.qr hi
  have cW := fun b => rake_known_with_ok hn hk hi1 hi2 b
  have t0 := fun b => Rk.tellK_nonneg (n := n) (f := f) (any := any) (S := S) (q := q + 2 ^ i) (p := Rk.lk p i b) fun i hi => (hf i hi).1
  have hfi := hf i hi1
  refine rake_hull_plan_1_1.enter 600 (by simp) ?_
  simp [Rk.rwK, Rk.onV, Rk.ofV]
  refine PCallK.intro (PInv.func (cW true)) ?_
  simp
  refine FCall.cps (σ := {M' : List (Int × Int) // M'.Nodup}) (Rk.rwK n f any S gV s2 s3 s5 s6 s7 M) (fun _ => .tup [.int .i64 (Rk.tellK n f any S (q + 2 ^ i) (Rk.lk p i true)).1, .int .i64 (Rk.tellK n f any S (q + 2 ^ i) (Rk.lk p i true)).2]) (fun M' => Rk.rwK n f any S gV s2 s3 s5 s6 s7 M'.1) (fun _ => True)
    (fun K' hK' => AInvoke.func (on _ _ (hk.step hi1 hi2 true) (by omega) M hM K' fun M' h' => hK' ⟨M', h'⟩ trivial)) (by simp [Rk.rwK, Rk.onV]) (fun _ => rfl) trivial (fun M1 _ => ⟨trivial, ?_⟩)
  simp [Rk.rwK, Rk.onV]
  refine PCallK.intro (PInv.func (cW false)) ?_
  simp
  refine FCall.cps (σ := {M' : List (Int × Int) // M'.Nodup}) (Rk.rwK n f any S gV s2 s3 s5 s6 s7 M1.1) (fun _ => .tup [.int .i64 (Rk.tellK n f any S (q + 2 ^ i) (Rk.lk p i false)).1, .int .i64 (Rk.tellK n f any S (q + 2 ^ i) (Rk.lk p i false)).2]) (fun M' => Rk.rwK n f any S gV s2 s3 s5 s6 s7 M'.1) (fun _ => True)
    (fun K' hK' => AInvoke.func (on _ _ (hk.step hi1 hi2 false) (by omega) M1.1 M1.2 K' fun M' h' => hK' ⟨M', h'⟩ trivial)) (by simp [Rk.rwK, Rk.onV]) (fun _ => rfl) trivial (fun M2 _ => ⟨trivial, ?_⟩)
  simp [Rk.rwK, Rk.onV]
  refine FCall.pure (v := .int .i64 (f i)) ?_ ?_
  · simp
    exact PInv.func (first := [_]) (cap := []) (args := [_]) (rake_lengths_of_ok f i (by omega))
  simp
  intro s31
  have b1 := t0 true
  have b2 := t0 false
  have b3 := Rk.tellK_bound hn hf (any := any) (S := S) (q := q + 2 ^ i) (p := Rk.lk p i true)
  have b4 := Rk.tellK_bound hn hf (any := any) (S := S) (q := q + 2 ^ i) (p := Rk.lk p i false)
  generalize (Rk.tellK n f any S (q + 2 ^ i) (Rk.lk p i true)).2 = a at hK b1 b3 ⊢
  generalize (Rk.tellK n f any S (q + 2 ^ i) (Rk.lk p i false)).2 = b at hK b2 b4 ⊢
  refine FCall.cps (σ := Unit) [(631, .row [.int .i64 a, .int .i64 b] (s31 + 1))] (fun _ => .int .i64 (max a (max b 0))) (fun _ => [(631, .row [.int .i64 a, .int .i64 b] (s31 + 1))]) (fun _ => True)
    (fun K' hK' => AInvoke.func (rake_greatest_ok a b 631 (s31 + 1) K' (hK' () trivial))) (by simp) (fun _ => rfl) trivial (fun _ _ => ⟨trivial, ?_⟩)
  have e : max a (max b 0) = max a b := by omega
  simp [e]
  refine ⟨by unfold Fits; omega, ?_⟩
  refine RetV.view ((505, .row [.int .i64 q, .int .i64 p] sk) :: (511, .row [Rk.ofV f] so) :: Rk.rwK n f any S gV s2 s3 s5 s6 s7 M2.1) (by simp [Rk.rwK, Rk.onV, Rk.ofV]) (hK M2.1 M2.2)
end Go.Cw
end

/- Rake: the function that tells the next seam. -/
section
set_option maxRecDepth 100000
set_option linter.unusedSimpArgs false
namespace Go.Cw
open Go Go.Proofs

/-- Can one stop, by a goal? -/
def Rk.dnB (any : Bool) (p : Int) (l : List Int) : Bool := if any then decide (p ≠ 0 ∨ l = []) else decide (l.length ≤ 1)
theorem Rk.dn_done {n : Nat} {any : Bool} {S : List Int} {q p : Int} : (Rk.dnB any p (Rk.agQ n S q p) = true ∨ Rk.agQ n S q p = []) ↔ Rk.doneK n any S q p := by
  unfold Rk.dnB Rk.doneK
  generalize Rk.agQ n S q p = l
  cases any with
  | true => simp; exact or_comm
  | false =>
    simp
    cases l with
    | nil => simp
    | cons a l => simp
theorem rake_hull_plan_1_step {n : Nat} (hn : n ≤ 6) {f : Nat → Int} (hf : ∀ i, i < n → 0 ≤ f i ∧ f i ≤ 100) {any : Bool} {S : List Int} (hl : S.length ≤ 100000) (hS : ∀ s ∈ S, 0 ≤ s ∧ s < 2 ^ n) {gV : AVal} {s2 s3 s5 s6 s7 : Nat}
    (hg : ∀ q p (l : List Int), PInv Pg (.func (.method "caulkworks/rake.done") [gV] []) [.agg [.int .i64 q, .int .i64 p], L l] (.bool (Rk.dnB any p l)))
    (j : Nat) (ih : ∀ j', j = j' + 1 → Rk.OnOk n f any S gV s2 s3 s5 s6 s7 j') : Rk.OnOk n f any S gV s2 s3 s5 s6 s7 j := by
  intro q p hk hj M hM K hK
  have cA := rake_hull_agreeing_ok f n hn S hl hS hk
  refine rake_hull_plan_1.enter 500 (by simp) ?_
  simp [Rk.rwK, Rk.onV]
  intro s505
  refine FCall.pure (PInv.func cA) ?_
  simp
  refine FCall.pure (hg q p _) ?_
  by_cases hd : Rk.doneK n any S q p
  · have ht := Rk.tellK_done (f := f) hk hd
    have hK := hK M hM
    rw [ht] at hK
    cases hb : Rk.dnB any p (Rk.agQ n S q p)
    · have h0 : Rk.agQ n S q p = [] := by
        rcases Rk.dn_done.2 hd with h | h
        · rw [hb] at h; cases h
        · exact h
      simp [h0]
      refine RetV.view (Rk.rwK n f any S gV s2 s3 s5 s6 s7 M) (by simp [Rk.rwK, Rk.onV]) ?_
      simpa using hK
    · simp
      refine RetV.view (Rk.rwK n f any S gV s2 s3 s5 s6 s7 M) (by simp [Rk.rwK, Rk.onV]) ?_
      simpa using hK
  have hb : Rk.dnB any p (Rk.agQ n S q p) = false := by
    cases hb : Rk.dnB any p (Rk.agQ n S q p)
    · rfl
    · exact absurd (Rk.dn_done.1 (.inl hb)) hd
  have h0 : ¬ Rk.agQ n S q p = [] := fun h => hd (Rk.dn_done.1 (.inr h))
  have hlk : ∀ hh : Heap, hh 407 = .map (entsK Rk.ekK (Rk.vfK n f any S) M) s7 → ∀ zero, aLookup hh (true, [.i, .i]) true zero (.map 407 s7) (.agg [.int .i64 q, .int .i64 p]) = some (if (q, p) ∈ M then .tup [Rk.vfK n f any S (q, p), .bool true] else .tup [zero, .bool false]) :=
    fun hh hm zero => by
      rw [show (AVal.agg [.int .i64 q, .int .i64 p]) = Rk.ekK (q, p) from rfl, aLookup_K Rk.keyLawK hm zero]
      by_cases h : (q, p) ∈ M <;> simp [h]
  have hH1 : (Rk.Hc f n S).length = 8 := by simp [Rk.Hc]
  have hH6 : ∀ h, (Rk.Hc f n S)[6]'h = .int .i64 n := fun h => by simp [Rk.Hc]
  have hHt : (Rk.Hc f n S).take 6 = ints (tab 6 f) := by simp [Rk.Hc]
  simp [hb, h0]
  rw [hlk _ (by simp)]
  by_cases hin : (q, p) ∈ M
  · simp [hin, Rk.vfK]
    intro s9
    refine RetV.view (Rk.rwK n f any S gV s2 s3 s5 s6 s7 M) (by simp [Rk.rwK, Rk.onV, Rk.vfK]) ?_
    simpa using hK M hM
  simp [hin, hH1, hH6, hHt]
  intro s9 s511 s512
  obtain ⟨g, hgd⟩ : ∃ g : Nat → Int, g = fun i => f i + max (Rk.tellK n f any S (q + 2 ^ i) (Rk.lk p i true)).2 (Rk.tellK n f any S (q + 2 ^ i) (Rk.lk p i false)).2 := ⟨_, rfl⟩
  obtain ⟨bb, hbb⟩ : ∃ bb : Nat → Option (Nat × Int), bb = fun k => Rk.bestR g ((Rk.un n q).filter fun i => decide (i < k)) := ⟨_, rfl⟩
  obtain ⟨fv, hfv⟩ : ∃ fv, fv = AVal.func (.func fn_rake_hull_plan_1_1) [] [.ptr 406 0 s6, .ptr 505 0 (s505 + 1), .ptr 511 0 (s511 + 1)] := ⟨_, rfl⟩
  have hb0 : bb 0 = none := by rw [hbb]; simp only; rw [List.filter_eq_nil_iff.2 (by simp)]; rfl
  refine Lp.intro (σ := Nat × {M' : List (Int × Int) // M'.Nodup}) (inv := fun x => x.1 ≤ n)
    (vw := fun x => [(3, .ptr 405 0 s5), (5, .ptr 505 0 (s505 + 1)), (12, .ptr 512 0 (s512 + 1)), (47, .int .i64 n), (48, .int .i64 x.1)])
    (hp := fun x => (512, .row (bstC (bb x.1) fv) (s512 + 1)) :: (505, .row [.int .i64 q, .int .i64 p] (s505 + 1)) :: (511, .row [Rk.ofV f] (s511 + 1)) :: Rk.rwK n f any S gV s2 s3 s5 s6 s7 x.2.1) (ms := fun x => n - x.1) (0, ⟨M, hM⟩) (by simp) (by simp) (by simp [Rk.rwK, Rk.onV, Rk.ofV, bstC, hb0, hfv]) ?_
  have hpush : ∀ k, k < n → (Rk.un n q).filter (fun i => decide (i < k + 1)) = (Rk.un n q).filter (fun i => decide (i < k)) ++ if inS q k then [] else [k] := by
    intro k hk1
    unfold Rk.un
    rw [List.filter_filter, List.filter_filter]
    have e : ∀ m : Nat, m ≤ n → (List.range n).filter (fun i => decide (i < m) && !inS q i) = (List.range m).filter (fun i => !inS q i) := by
      intro m hm
      obtain ⟨d, rfl⟩ := Nat.exists_eq_add_of_le hm
      have e1 : (List.range m).filter (fun i => decide (i < m) && !inS q i) = (List.range m).filter (fun i => !inS q i) := List.filter_congr fun i hi => by simp [List.mem_range.1 hi]
      have e2 : ((List.range d).map (m + ·)).filter (fun i => decide (i < m) && !inS q i) = [] := List.filter_eq_nil_iff.2 fun i hi => by
        obtain ⟨x, _, rfl⟩ := List.mem_map.1 hi
        simp
        intro h; omega
      rw [List.range_add, List.filter_append, e1, e2, List.append_nil]
    rw [e (k + 1) (by omega), e k (by omega), List.range_succ, List.filter_append]
    cases h : inS q k <;> simp [h]
  have hbs : ∀ k, k < n → bb (k + 1) = if inS q k then bb k else Rk.betR (fun _ => g k) (bb k) k := by
    intro k hk1
    rw [hbb]
    simp only [hpush k hk1]
    cases h : inS q k
    · simp only [Bool.false_eq_true, if_false]
      rw [Rk.bestR_push]; rfl
    · simp
  rintro ⟨k, M1⟩ hkn J hJ
  simp at hkn
  by_cases hkc : k < n
  · have hp1 := Rk.add_lt (q := 0) (n := n)
    have hdv : 0 ≤ q / 2 ^ k := Int.ediv_nonneg hk.qr.1 (by have := two_pow_pos k; omega)
    have hq62 : q < 2 ^ 62 := by
      have h1 := hk.qr.2
      have h2 := two_pow_le hn
      have e : (2 : Int) ^ 6 = 64 := by decide
      have e2 : (2 : Int) ^ 62 = 4611686018427387904 := by decide
      omega
    have hand := bitI_and1 hdv (by have := Int.ediv_le_self (2 ^ k) hk.qr.1; omega)
    have hbk := hbs k hkc
    cases hkq : inS q k with
    | true =>
      have hmod : q / 2 ^ k % 2 = 1 := by simpa [inS] using hkq
      rw [hkq] at hbk
      simp [hkc, hand, hmod, Rk.rwK, Rk.onV]
      refine ⟨by omega, by unfold Fits; omega, ?_⟩
      exact hJ.next (k + 1, M1) (by simp; omega) (by simp; omega) (by simp) (by simp [hbk, Rk.rwK, Rk.onV])
    | false =>
      have hmod : ¬ q / 2 ^ k % 2 = 1 := by simpa [inS] using hkq
      rw [hkq] at hbk
      simp [hkc, hand, hmod, Rk.rwK, Rk.onV]
      refine ⟨by omega, ?_⟩
      have hrb : RowsB (fun t : {M' : List (Int × Int) // M'.Nodup} => (505, AObj.row [.int .i64 q, .int .i64 p] (s505 + 1)) :: (511, AObj.row [Rk.ofV f] (s511 + 1)) :: Rk.rwK n f any S gV s2 s3 s5 s6 s7 t.1) 512 :=
        ⟨fun _ _ => rfl, fun t x hx => by simp [Rk.rwK] at hx; omega, fun t => by simp [Rk.rwK]⟩
      have hui : k ∈ Rk.un n q := Rk.mem_un.2 ⟨hkc, hkq⟩
      refine FCall.cps (σ := {M' : List (Int × Int) // M'.Nodup}) ((512, .row (bstC (bb k) fv) (s512 + 1)) :: (505, .row [.int .i64 q, .int .i64 p] (s505 + 1)) :: (511, .row [Rk.ofV f] (s511 + 1)) :: Rk.rwK n f any S gV s2 s3 s5 s6 s7 M1.1) (fun _ => .tup [])
        (fun t => (512, .row (bstC (bb (k + 1)) fv) (s512 + 1)) :: (505, .row [.int .i64 q, .int .i64 p] (s505 + 1)) :: (511, .row [Rk.ofV f] (s511 + 1)) :: Rk.rwK n f any S gV s2 s3 s5 s6 s7 t.1) (fun _ => True)
        (fun K' hK' => AInvoke.func ?_) (by simp [Rk.rwK, Rk.onV]) (fun _ => rfl) trivial (fun M2 _ => ⟨trivial, ?_⟩)
      · refine rake_best_int_see_ok (fun t : {M' : List (Int × Int) // M'.Nodup} => (505, AObj.row [.int .i64 q, .int .i64 p] (s505 + 1)) :: (511, AObj.row [Rk.ofV f] (s511 + 1)) :: Rk.rwK n f any S gV s2 s3 s5 s6 s7 t.1) hrb fv k (g k) M1 (bb k) (s512 + 1) (fun K2 hK2 => ?_) K' fun t' => ?_
        · rw [hfv]
          refine AInvoke.func ?_
          obtain ⟨j', hj'⟩ : ∃ j', j = j' + 1 := ⟨j - 1, by have := List.length_pos_of_mem hui; omega⟩
          have := rake_hull_plan_1_1_ok hn hf (ih j' hj') hk (by omega) hui (s505 + 1) (s511 + 1) M1.1 M1.2 K2 fun M' hM' => by
            have := hK2 ⟨M', hM'⟩
            rw [hgd] at this
            exact this
          simpa using this
        · have := hK' t' trivial
          simp only [hbk, Bool.false_eq_true, if_false] at this
          exact this
      simp [Rk.rwK, Rk.onV]
      refine ⟨by unfold Fits; omega, ?_⟩
      exact hJ.next (k + 1, M2) (by simp; omega) (by simp; omega) (by simp) (by simp [Rk.rwK, Rk.onV])
  obtain rfl : k = n := by omega
  simp
  refine hJ.exit ?_
  have hall : (Rk.un k q).filter (fun i => decide (i < k)) = Rk.un k q := List.filter_eq_self.2 fun i hi => by simpa using (Rk.mem_un.1 hi).1
  have hT : Rk.tellK k f any S q p = (bb k).getD (0, 0) := by
    rw [Rk.tellK_step (fun i hi => (hf i hi).1) hk hd, hbb]
    simp only [hall]
    rw [hgd]
  have h1 : ((bb k).map fun x => (x.1 : Int)).getD 0 = (Rk.tellK k f any S q p).1 := by rw [hT]; cases bb k <;> rfl
  have h2 : ((bb k).map Prod.snd).getD 0 = (Rk.tellK k f any S q p).2 := by rw [hT]; cases bb k <;> rfl
  simp [Rk.rwK, Rk.onV, bstC, h1, h2]
  refine osat_iff.2 ⟨_, mapU_K Rk.keyLawK (k := (q, p)) (M := M1.1) (f := Rk.vfK k f any S) (f' := Rk.vfK k f any S) (m := 407) (s := s7) M1.2 (by simp) (by simp) (by simp [Rk.ekK]) (by simp [Rk.vfK]) (fun _ _ _ => rfl), ?_⟩
  simp [h1, h2]
  exact RetV.view (Rk.rwK k f any S gV s2 s3 s5 s6 s7 (insK (q, p) M1.1)) (by simp [Rk.rwK, Rk.onV]) (hK _ (nodup_insK M1.2))
theorem rake_hull_plan_1_ok {n : Nat} (hn : n ≤ 6) {f : Nat → Int} (hf : ∀ i, i < n → 0 ≤ f i ∧ f i ≤ 100) {any : Bool} {S : List Int} (hl : S.length ≤ 100000) (hS : ∀ s ∈ S, 0 ≤ s ∧ s < 2 ^ n) {gV : AVal} {s2 s3 s5 s6 s7 : Nat}
    (hg : ∀ q p (l : List Int), PInv Pg (.func (.method "caulkworks/rake.done") [gV] []) [.agg [.int .i64 q, .int .i64 p], L l] (.bool (Rk.dnB any p l))) :
    ∀ j, Rk.OnOk n f any S gV s2 s3 s5 s6 s7 j
  | 0 => rake_hull_plan_1_step hn hf hl hS hg 0 fun j' h => by omega
  | j + 1 => rake_hull_plan_1_step hn hf hl hS hg (j + 1) fun j' h => by
    obtain rfl : j = j' := by omega
    exact rake_hull_plan_1_ok hn hf hl hS hg j
end Go.Cw
end

/- Rake: the function that tells the next seam is made; the goal that all is known. -/
section
set_option maxRecDepth 100000
set_option linter.unusedSimpArgs false
namespace Go.Cw
open Go Go.Proofs

theorem rake_hull_plan_ok (n : Nat) (f : Nat → Int) (any : Bool) (S : List Int) (t : Nat) (K : AEnd → Heap → Prop)
    (hK : ∀ s2 s3 s5 s6 s7, K (.ret (Rk.onV s2 s3 s5 s6)) (hpV (Rk.rwK n f any S (.iface t (.agg [])) s2 s3 s5 s6 s7 []))) : ACalls Pg fn_rake_hull_plan [.pv (Rk.Hc f n S), .iface t (.agg [])] nilH K := by
  refine rake_hull_plan.enter 400 (by simp) ?_
  simp
  intro s2 s3 s7 s5 s6
  exact RetV.view (Rk.rwK n f any S (.iface t (.agg [])) (s2 + 1) (s3 + 1) (s5 + 1) (s6 + 1) (s7 + 1) []) (by simp [Rk.rwK, Rk.onV]) (hK (s2 + 1) (s3 + 1) (s5 + 1) (s6 + 1) (s7 + 1))

theorem done_all : MethAt Pg 90 "caulkworks/rake.done" fn_rake_all_done := ⟨fun _ _ => by kernel_rfl⟩
theorem rake_done_all (q p : Int) (l : List Int) : PInv Pg (.func (.method "caulkworks/rake.done") [.iface 90 (.agg [])] []) [.agg [.int .i64 q, .int .i64 p], L l] (.bool (Rk.dnB false p l)) := by
  intro hh
  exact AInvoke.meth done_all (rake_all_done_ok q p l hh)
end Go.Cw
end

/- Rake: what an order costs. -/
section
set_option maxRecDepth 100000
set_option linter.unusedSimpArgs false
namespace Go.Cw
open Go Go.Proofs

theorem rake_hull_cost_ok {n : Nat} (hn : n ≤ 6) {f : Nat → Int} (hf : ∀ i, i < n → 0 ≤ f i ∧ f i ≤ 100) {S : List Int} (hl : S.length ≤ 100000) (hS : ∀ s ∈ S, 0 ≤ s ∧ s < 2 ^ n) (o : List Nat) (ho : o.Nodup) (hon : ∀ i ∈ o, i < n) (s : Int) (hs : 0 ≤ s ∧ s < 2 ^ n) :
    APure Pg fn_rake_hull_cost [.pv (Rk.Hc f n S), L (Rk.toI o), .int .i64 s] (.int .i64 (Rk.costL f o S s)) := by
  have hH1 : (Rk.Hc f n S).length = 8 := by simp [Rk.Hc]
  have hHt : (Rk.Hc f n S).take 6 = ints (tab 6 f) := by simp [Rk.Hc]
  have hol : (Rk.toI o).length = o.length := by simp [Rk.toI]
  refine rake_hull_cost.pure (by simp) ?_
  simp [hol]
  intro s7
  refine Lp.intro (σ := Nat × Int × Int × Int) (inv := fun x => x.1 ≤ o.length ∧ Rk.Kn n x.2.1 x.2.2.1 ∧ (∀ i ∈ o.drop x.1, inS x.2.1 i = false) ∧ x.2.2.2 + Rk.costL f (o.drop x.1) (Rk.agQ n S x.2.1 x.2.2.1) s = Rk.costL f o S s ∧ 0 ≤ x.2.2.2 ∧ x.2.2.2 ≤ x.1 * 100)
    (vw := fun x => [(0, .pv (Rk.Hc f n S)), (2, .int .i64 s), (6, .int .i64 x.2.2.2), (7, .ptr 7 0 (s7+1)), (10, L (Rk.toI o)), (11, .int .i64 o.length), (12, .int .i64 x.1)])
    (hp := fun x => [(7, .row [.int .i64 x.2.1, .int .i64 x.2.2.1] (s7+1))]) (ms := fun x => o.length - x.1) (0, 0, 0, 0) ⟨by simp, Rk.Kn.zero, fun i _ => Rk.inS_zero i, by simp [Rk.agQ_zero]⟩ (by simp) (by simp) ?_
  rintro ⟨k, q, p, c⟩ ⟨hk1, hK, hfree, hsum, hc0, hc1⟩ J hJ
  simp at hk1 hK hfree hsum hc0 hc1
  have cA := rake_hull_agreeing_ok f n hn S hl hS hK
  have cD := rake_all_done_ok q p (Rk.agQ n S q p)
  by_cases hkc : k < o.length
  · have hoi : (Rk.toI o)[k]? = some ((o[k] : Nat) : Int) := by simp [Rk.toI, hkc]
    obtain ⟨i, hi⟩ : ∃ i, o[k] = i := ⟨_, rfl⟩
    rw [hi] at hoi
    have him : i ∈ o := by rw [← hi]; simp
    have hin := hon i him
    have hdr : o.drop k = i :: o.drop (k + 1) := by rw [List.drop_eq_getElem_cons hkc, hi]
    have hiq : inS q i = false := hfree i (by rw [hdr]; simp)
    have hnot : i ∉ o.drop (k + 1) := by
      have := ho.sublist (List.drop_sublist k o)
      rw [hdr, List.nodup_cons] at this
      exact this.1
    rw [hdr, Rk.costL_step hK hin hiq] at hsum
    simp [hkc, hol, hoi]
    refine FCall.pure' (v := L (Rk.agQ n S q p)) (PInv.func cA) (by simp) (by simp) ?_
    simp
    refine PCallK.intro (PInv.func cD) ?_
    by_cases h1 : (Rk.agQ n S q p).length ≤ 1
    · rw [if_pos h1] at hsum
      simp [h1]
      refine hJ.exit ?_
      simp
      exact RetV.refl (by rw [← hsum, Int.add_zero])
    · rw [if_neg h1] at hsum
      have hoi2 : ∀ h, (Rk.toI o)[k]'h = (i : Int) := fun h => by
        rw [List.getElem?_eq_getElem h] at hoi
        simpa using hoi
      have hl6 := Rk.nodup_len ho (m := List.range n) fun i hi => List.mem_range.2 (hon i hi)
      rw [List.length_range] at hl6
      have hfi := hf i hin
      have h2p := two_pow_pos i
      have hdv : 0 ≤ s / 2 ^ i := Int.ediv_nonneg hs.1 (by omega)
      have hs62 : s < 2 ^ 62 := by
        have h1 := hs.2
        have h2 := two_pow_le hn
        have e : (2 : Int) ^ 6 = 64 := by decide
        have e2 : (2 : Int) ^ 62 = 4611686018427387904 := by decide
        omega
      have hand := bitI_and1 hdv (by have := Int.ediv_le_self (2 ^ i) hs.1; omega)
      have hbit : decide (s / 2 ^ i % 2 = 1) = inS s i := rfl
      have cW := rake_known_with_ok hn hK hin hiq (inS s i)
      simp [h1, hoi2, hH1, hHt]
      refine PCallK.intro (PInv.func (rake_lengths_of_ok f i (by omega))) ?_
      simp [hoi2, hand, hbit]
      refine ⟨by unfold Fits; omega, by omega, ?_⟩
      refine PCallK.intro (PInv.func cW) ?_
      simp
      refine ⟨by unfold Fits; omega, ?_⟩
      refine hJ.next (k + 1, q + 2 ^ i, Rk.lk p i (inS s i), c + f i) ⟨by simp; omega, hK.step hin hiq _, fun j hj => ?_, by rw [← hsum, Int.add_assoc], by simp; omega, by simp; omega⟩ (by simp; omega) (by simp) (by simp)
      have hjo : j ∈ o := List.mem_of_mem_drop hj
      rw [Rk.inS_add hK.qr hin hiq (hon j hjo), hfree j (by rw [hdr]; simp [hj])]
      have : j ≠ i := fun e => hnot (e ▸ hj)
      simp [this]
  obtain rfl : k = o.length := by omega
  simp
  refine hJ.exit ?_
  have e : Rk.costL f o S s = c := by rw [← hsum, List.drop_length]; simp [Rk.costL]
  simp
  exact RetV.refl (by rw [e])
end Go.Cw
end

/- Rake: do some seams tell all? -/
section
set_option maxRecDepth 100000
set_option linter.unusedSimpArgs false
namespace Go.Cw
open Go Go.Proofs

theorem rake_hull_tells_ok {n : Nat} (hn : n ≤ 6) (f : Nat → Int) {S : List Int} (hl : S.length ≤ 100000) (hS : ∀ s ∈ S, 0 ≤ s ∧ s < 2 ^ n) (q : Int) (hq : 0 ≤ q ∧ q < 2 ^ n) :
    APure Pg fn_rake_hull_tells [.pv (Rk.Hc f n S), .int .i64 q] (.bool (decide (Rk.tellsP n S q))) := by
  have hH7 : ∀ h, (Rk.Hc f n S)[7]'h = L S := fun h => by simp [Rk.Hc]
  have hH1 : (Rk.Hc f n S).length = 8 := by simp [Rk.Hc]
  refine rake_hull_tells.pure (by simp) ?_
  simp [hH7, hH1]
  intro s9
  obtain ⟨key, hkey⟩ : ∃ key : Int → Int × Int, key = fun s => (q, bitI .and .i64 s q) := ⟨_, rfl⟩
  refine Lp.intro (σ := Nat) (inv := fun k => k ≤ S.length ∧ (S.take k).Pairwise fun s t => Rk.same n q s t = false)
    (vw := fun k => [(1, .int .i64 q), (5, .map 9 (s9+1)), (13, L S), (14, .int .i64 S.length), (15, .int .i64 k)])
    (hp := fun k => [(9, .map (entsK Rk.ekK (fun _ => .bool true) ((S.take k).map key)) (s9+1))]) (ms := fun k => S.length - k) 0 ⟨by simp, by simp⟩ (by simp) (by simp) ?_
  rintro k ⟨hk, inv⟩ J hJ
  have hsame : ∀ a ∈ S, ∀ b ∈ S, key a = key b ↔ Rk.same n q a b = true := fun a ha b hb => by
    rw [hkey]
    simp only [Prod.mk.injEq, true_and]
    exact Rk.and_same (by omega) hq (hS a ha) (hS b hb)
  have hMn : ((S.take k).map key).Nodup := by
    refine List.Pairwise.map key (R := fun a b => a ∈ S ∧ b ∈ S ∧ Rk.same n q a b = false) (fun a b h e => ?_) (inv.imp_of_mem fun {a b} ha hb h => ⟨List.mem_of_mem_take ha, List.mem_of_mem_take hb, h⟩)
    have := (hsame a h.1 b h.2.1).1 e
    rw [h.2.2] at this; cases this
  by_cases hkc : k < S.length
  · obtain ⟨x, hx⟩ : ∃ x, S[k] = x := ⟨_, rfl⟩
    have hxS : x ∈ S := by rw [← hx]; simp
    have hlk : ∀ hh : Heap, hh 9 = .map (entsK Rk.ekK (fun _ => .bool true) ((S.take k).map key)) (s9 + 1) → ∀ zero, aLookup hh (true, [.i, .i]) false zero (.map 9 (s9 + 1)) (.agg [.int .i64 q, .int .i64 (bitI .and .i64 x q)]) = some (if key x ∈ (S.take k).map key then .bool true else zero) := fun hh hm zero => by
      rw [show (AVal.agg [.int .i64 q, .int .i64 (bitI .and .i64 x q)]) = Rk.ekK (key x) by rw [hkey]; rfl, aLookup_K1 Rk.keyLawK hm zero]
      by_cases h : key x ∈ (S.take k).map key <;> simp [h]
    simp [hkc, hx]
    intro s8
    rw [hlk _ (by simp)]
    by_cases hin : key x ∈ (S.take k).map key
    · rw [if_pos hin]
      simp
      refine hJ.ret ?_
      simp
      refine RetV.refl ?_
      obtain ⟨y, hy, e⟩ := List.mem_map.1 hin
      have hyS := List.mem_of_mem_take hy
      have hno : ¬ Rk.tellsP n S q := fun h => by
        have h2 : ((S.take k) ++ [x]).Pairwise fun s t => Rk.same n q s t = false := by
          rw [← hx, List.take_append_getElem hkc]
          exact List.Pairwise.sublist (List.take_sublist _ _) h
        have := (List.pairwise_append.1 h2).2.2 y hy x (by simp)
        rw [(hsame y hyS x hxS).1 e] at this; cases this
      simp [hno]
    · have hmap : insK (key x) ((S.take k).map key) = (S.take (k + 1)).map key := by
        unfold insK
        rw [if_neg hin, ← List.take_append_getElem hkc, hx]
        simp
      rw [if_neg hin]
      simp
      refine osat_iff.2 ⟨_, mapU_K Rk.keyLawK (k := key x) (M := (S.take k).map key) (f := fun _ => .bool true) (f' := fun _ => .bool true) (m := 9) (s := s9 + 1) hMn (by simp) (by simp) (by rw [hkey]; simp [Rk.ekK]) (by simp) (fun _ _ _ => rfl), ?_⟩
      rw [hmap]
      simp
      refine ⟨by unfold Fits; omega, ?_⟩
      refine hJ.next (k + 1) ⟨by omega, ?_⟩ (by omega) (by simp) (by simp)
      rw [← List.take_append_getElem hkc, hx, List.pairwise_append]
      refine ⟨inv, by simp, fun a ha b hb => ?_⟩
      simp at hb; subst hb
      cases h : Rk.same n q a b
      · rfl
      · exact absurd (List.mem_map.2 ⟨a, ha, (hsame a (List.mem_of_mem_take ha) b hxS).2 h⟩) hin
  obtain rfl : k = S.length := by omega
  simp
  refine hJ.exit ?_
  simp
  have hyes : Rk.tellsP n S q := by
    rw [List.take_length] at inv
    exact inv
  exact RetV.refl (by simp [hyes])
end Go.Cw
end

/- Rakes, and what was found, as plain data; which sets agree, and what is told. -/
section
set_option maxRecDepth 100000
set_option linter.unusedSimpArgs false
namespace Go.Cw
open Go Go.Proofs
/-- A finding: the seam, and whether it leaks. -/
def fdC (x : Int × Bool) : List AVal := [.int .i64 x.1, .bool x.2]
theorem fdC_len (x : Int × Bool) : (fdC x).length = 2 := rfl
def fds (l : List (Int × Bool)) : List AVal := fl fdC l
section
variable (l : List (Int × Bool))
@[simp] theorem fds_length : (fds l).length = l.length * 2 := fl_len fdC_len l
@[simp] theorem fds_drop (k : Nat) : (fds l).drop (k * 2) = fds (l.drop k) := fl_drop fdC_len l k
@[simp] theorem fds_head : (fds l).head? = l.head?.map fun a => .int .i64 a.1 := by
  cases l <;> rfl
@[simp] theorem fds_get1 : (fds l)[1]? = l.head?.map fun a => .bool a.2 := by
  cases l <;> rfl
@[simp] theorem fds_take2 : (fds l).take 2 = (l.head?.map fun a => [.int .i64 a.1, .bool a.2]).getD [] := fl_take fdC_len l
end
theorem fds_push (l : List (Int × Bool)) (a : Int × Bool) : fds l ++ [.int .i64 a.1, .bool a.2] = fds (l ++ [a]) := by simp [fds, fl, fdC]
@[simp] theorem frzL_fds (r s : Nat) (cells : List AVal) (l : List (Int × Bool)) : frzL r s cells (fds l) = fds l := by
  induction l with
  | nil => rfl
  | cons a l ih =>
    show frzL r s cells (fdC a ++ fds l) = fdC a ++ fds l
    simp [fdC, ih]
def LK (l : List (Int × Bool)) : AVal := .vl l.length (fds l)
@[simp] theorem frz_LK (r s : Nat) (cells : List AVal) (l : List (Int × Bool)) : frz r s cells (LK l) = LK l := (rfl)
@[simp] theorem ren_LK (r nm : Nat) (l : List (Int × Bool)) : ren r nm (LK l) = LK l := (rfl)
@[simp] theorem acells_LK (l : List (Int × Bool)) : acells (LK l) = some [LK l] := (rfl)
@[simp] theorem aLen_LK (l : List (Int × Bool)) : aLen (LK l) = some (.int .i64 l.length) := (rfl)
@[simp] theorem satIxS_LK (l : List (Int × Bool)) (k : IntKind) (n : Int) (K : AVal → Prop) : satIxS 2 (LK l) (.int k n) K = ((0 ≤ n ∧ n < l.length) ∧ K (.pv (fds (l.drop n.toNat)))) := by simp [LK]
@[simp] theorem xEl_LK (h : Heap) (l : List (Int × Bool)) (K : Nat → List AVal → Prop) : xEl h 2 (LK l) K = K l.length (fds l) := by
  simp only [LK, xEl_vl, fds_length, Nat.le_refl, true_and]
  rw [List.take_of_length_le (by simp)]

structure Rak where
  h : Hul
  f : List Int

namespace Rak
variable (r : Rak)
def cells : List AVal := [LS r.h.seams, LD r.h.snds, L r.f]
def v : AVal := .agg [LS r.h.seams, LD r.h.snds, L r.f]
@[simp] theorem v_agg : r.v = .agg [LS r.h.seams, LD r.h.snds, L r.f] := (rfl)
def n : Nat := r.f.length
structure Small : Prop where
  h : r.h.Small
  f : r.f.length ≤ 40
structure Valid : Prop where
  h : r.h.Valid
  len : r.f.length = r.h.n
  fa : ∀ x ∈ r.f, 1 ≤ x ∧ x ≤ 20
noncomputable instance : Decidable r.Valid := Classical.propDecidable _
theorem Valid.n6 {r : Rak} (hv : r.Valid) : r.n ≤ 6 := by have := hv.h.n6; have := hv.len; unfold n; omega
theorem Valid.n1 {r : Rak} (hv : r.Valid) : 1 ≤ r.n := by have := hv.h.n1; have := hv.len; unfold n; omega
theorem Valid.fat {r : Rak} (hv : r.Valid) {i : Nat} (hi : i < r.n) : 1 ≤ ofL r.f i ∧ ofL r.f i ≤ 20 := by
  have hl : i < r.f.length := hi
  rw [← ofL_at r.f hl]
  exact hv.fa _ (by simp)
/-- The sets of seams that can leak, and how long seams are. -/
noncomputable def S : List Int := r.h.setsL
def F : Nat → Int := ofL r.f
variable {r : Rak}
theorem mem_S {s : Int} : s ∈ r.S ↔ ∃ t ∈ r.h.truths r.h.every, leaksT t = s := by
  unfold S Hul.setsL
  rw [(sortI_perm _).mem_iff]
  have := seenK_mem (r.h.truths r.h.every) (r.h.truths r.h.every).length s
  rwa [List.take_length] at this
theorem S_nodup : r.S.Nodup := by
  unfold S Hul.setsL
  rw [(sortI_perm _).nodup_iff]
  have := seenK_nodup (r.h.truths r.h.every) (r.h.truths r.h.every).length
  rwa [List.take_length] at this
theorem S_lt : r.S.Pairwise (· < ·) := by
  have h1 : r.S.Pairwise (· ≤ ·) := sortI_sorted (seenK (r.h.truths r.h.every))
  exact (h1.and (List.nodup_iff_pairwise_ne.1 S_nodup)).imp fun {a b} h => by omega
theorem S_nil : r.S = [] ↔ r.h.truths r.h.every = [] := by
  constructor
  · intro h
    cases ht : r.h.truths r.h.every with
    | nil => rfl
    | cons t l =>
      have : leaksT t ∈ r.S := mem_S.2 ⟨t, by rw [ht]; simp, rfl⟩
      rw [h] at this; cases this
  · intro h
    refine List.eq_nil_iff_forall_not_mem.2 fun s hs => ?_
    obtain ⟨t, ht, _⟩ := mem_S.1 hs
    rw [h] at ht; cases ht
theorem S_in (hv : r.Valid) : ∀ s ∈ r.S, 0 ≤ s ∧ s < 2 ^ r.n := fun s hs => by
  obtain ⟨t, ht, rfl⟩ := mem_S.1 hs
  have h1 := (truths_in hv.h ht).1
  unfold leaksT
  rw [h1, show r.n = r.h.n from hv.len]
  exact bits_lt _ _
theorem S_len (hv : r.Valid) : r.S.length ≤ 15625 := Hul.setsL_len hv.h
theorem F_in (hv : r.Valid) : ∀ i, i < r.n → 0 ≤ r.F i ∧ r.F i ≤ 100 := fun i hi => by have := hv.fat hi; unfold F; omega
variable (r)
/-- Are findings such, of seams of the rake? -/
def Fd (l : List (Int × Bool)) : Prop := ∀ x ∈ l, 0 ≤ x.1 ∧ x.1 < r.n
instance (l : List (Int × Bool)) : Decidable (r.Fd l) := inferInstanceAs (Decidable (∀ x ∈ l, _ ∧ _))
def Once (l : List (Int × Bool)) : Prop := (l.map Prod.fst).Nodup
instance (l : List (Int × Bool)) : Decidable (Once l) := inferInstanceAs (Decidable (List.Nodup _))
variable {r}
theorem fnd_iff {l : List (Int × Bool)} : Rk.Fnd r.n l ↔ r.Fd l ∧ Once l := ⟨fun h => ⟨h.rng, h.once⟩, fun h => ⟨h.1, h.2⟩⟩
variable (r)
/-- The errors ahead of a clash. -/
noncomputable def errC (l : List (Int × Bool)) (is : Bool) : Int :=
  if r.Valid then (if r.Fd l ∧ is = true then (if Once l then 0 else 5) else 2) else 1
/-- The errors. -/
noncomputable def errE (l : List (Int × Bool)) (is : Bool) : Int :=
  if r.Valid then (if r.Fd l ∧ is = true then (if Once l then (if Rk.agF r.S l = [] then 10 else 0) else 5) else 2) else 1
variable {r}
theorem errE_zero {l : List (Int × Bool)} {is : Bool} : r.errE l is = 0 ↔ r.Valid ∧ Rk.Fnd r.n l ∧ is = true ∧ Rk.agF r.S l ≠ [] := by
  unfold errE
  rw [fnd_iff]
  by_cases h1 : r.Valid <;> by_cases h2 : r.Fd l <;> by_cases h3 : Once l <;> by_cases h4 : Rk.agF r.S l = [] <;> cases is <;> simp [h1, h2, h3, h4]
theorem errC_zero {l : List (Int × Bool)} {is : Bool} : r.errC l is = 0 ↔ r.Valid ∧ Rk.Fnd r.n l ∧ is = true := by
  unfold errC
  rw [fnd_iff]
  by_cases h1 : r.Valid <;> by_cases h2 : r.Fd l <;> by_cases h3 : Once l <;> cases is <;> simp [h1, h2, h3]
theorem errE_C {l : List (Int × Bool)} {is : Bool} (h : ¬ r.errC l is = 0) : r.errE l is = r.errC l is := by
  unfold errC at h
  unfold errE errC
  by_cases h1 : r.Valid <;> by_cases h2 : r.Fd l ∧ is = true <;> by_cases h3 : Once l
  all_goals first | (simp [h1, h2, h3]; done) | (exfalso; exact h (by simp [h1, h2, h3]))
theorem errE_of {l : List (Int × Bool)} {is : Bool} (hv : r.Valid) (hf : Rk.Fnd r.n l) (his : is = true) : r.errE l is = if Rk.agF r.S l = [] then 10 else 0 := by
  obtain ⟨h1, h2⟩ := fnd_iff.1 hf
  unfold errE
  simp [hv, h1, h2, his]
theorem agF_nil (S : List Int) : Rk.agF S [] = S := by
  unfold Rk.agF
  exact List.filter_eq_self.2 fun s _ => rfl
variable (r)
/-- What is told. -/
noncomputable def knownV (l : List (Int × Bool)) : AVal := .tup [L (if r.errE l true = 0 then Rk.agF r.S l else []), .int .i64 (r.errE l true)]
/-- The next seam: the seam, how many fathoms, the error. -/
noncomputable def nextP (l : List (Int × Bool)) : Nat × Int × Int :=
  if r.errE l true = 0 then (if (Rk.agF r.S l).length ≤ 1 then (0, 0, 4) else ((Rk.planQ r.n r.F false (Rk.agF r.S l) (Rk.fq l)).1, (Rk.planQ r.n r.F false (Rk.agF r.S l) (Rk.fq l)).2, 0)) else (0, 0, r.errE l true)
noncomputable def nextV (l : List (Int × Bool)) : AVal := .tup [.int .i64 (r.nextP l).1, .int .i64 (r.nextP l).2.1, .int .i64 (r.nextP l).2.2]
noncomputable def worstV : AVal := .tup [.int .i64 (if r.errE [] true = 0 then (Rk.planQ r.n r.F false r.S 0).2 else 0), .int .i64 (r.errE [] true)]
noncomputable def anyP : Nat × Int × Int :=
  if r.errE [] true = 0 then (if (0 : Int) ∈ r.S then (0, 0, 11) else ((Rk.planQ r.n r.F true r.S 0).1, (Rk.planQ r.n r.F true r.S 0).2, 0)) else (0, 0, r.errE [] true)
noncomputable def anyV : AVal := .tup [.int .i64 r.anyP.1, .int .i64 r.anyP.2.1, .int .i64 r.anyP.2.2]
/-- An order, and a set that can be asked for. -/
def Ask (o : List Int) (s : Int) : Prop := Rk.IsOrd r.n o ∧ 0 ≤ s ∧ s < 2 ^ r.n
noncomputable instance (o : List Int) (s : Int) : Decidable (r.Ask o s) := Classical.propDecidable _
noncomputable def costP (o : List Int) (s : Int) : Int × Int :=
  if r.errE [] (decide (r.Ask o s)) = 0 then (if s ∈ r.S then (Rk.costL r.F (Rk.toN o) r.S s, 0) else (0, 4)) else (0, r.errE [] (decide (r.Ask o s)))
noncomputable def costV (o : List Int) (s : Int) : AVal := .tup [.int .i64 (r.costP o s).1, .int .i64 (r.costP o s).2]
noncomputable def ordL : List Int := if r.errE [] true = 0 then Rk.toI (Rk.ordP r.n r.F r.S).1 else []
noncomputable def ordN : Int := if r.errE [] true = 0 then (Rk.ordP r.n r.F r.S).2 else 0
noncomputable def ordV : AVal := .tup [L r.ordL, .int .i64 r.ordN, .int .i64 (r.errE [] true)]
noncomputable def enV : AVal := .tup [.int .i64 (if r.errE [] true = 0 then (Rk.enP r.n r.F r.S).1 else 0 : Nat), .int .i64 (if r.errE [] true = 0 then (Rk.enP r.n r.F r.S).2 else 0), .int .i64 (r.errE [] true)]
end Rak
end Go.Cw
end

/- Rake: lists that are searched; is a rake valid? -/
section
set_option maxRecDepth 100000
set_option linter.unusedSimpArgs false
namespace Go.Cw
open Go Go.Proofs

/-- The first place at which something is so. -/
def idx (p : Int → Bool) (l : List Int) : Int := match l.findIdx? p with
  | some i => i
  | none => -1

theorem slices_IndexFunc_ok (l : List Int) (hl : l.length ≤ 100000) (f : AVal) (p : Int → Bool) (hf : ∀ x ∈ l, PInv Pg f [.int .i64 x] (.bool (p x))) : APure Pg fn_slices_IndexFunc_int_int [L l, f] (.int .i64 (idx p l)) := by
  refine slices_IndexFunc_int_int.pure (by simp) ?_
  simp
  refine Lp.intro (σ := Nat) (inv := fun k => k ≤ l.length ∧ ∀ j (h : j < l.length), j < k → p l[j] = false) (vw := fun k => [(0, L l), (1, f), (7, .int .i64 l.length), (8, .int .i64 k)]) (hp := fun _ => []) (ms := fun k => l.length - k) 0 (by simp) (by simp) (by simp) ?_
  rintro k ⟨hk, inv⟩ J hJ
  by_cases hkc : k < l.length
  · simp [hkc]
    refine FCall.pure (hf l[k] (by simp)) ?_
    cases q : p l[k]
    · simp
      (repeat first | refine And.intro (by omega) ?_ | refine And.intro (Fits.of (by omega) (by omega)) ?_)
      refine hJ.next (k + 1) ⟨by omega, fun j hj hjk => ?_⟩ (by omega) (by simp) (by simp)
      by_cases h : j = k
      · subst h; exact q
      · exact inv j hj (by omega)
    · simp
      refine hJ.ret ?_
      simp
      refine RetV.refl ?_
      have : l.findIdx? p = some k := by
        rw [List.findIdx?_eq_some_iff_getElem]
        exact ⟨hkc, q, fun j hj => by simp [inv j (by omega) hj]⟩
      simp [idx, this]
  · simp [hkc]
    refine hJ.exit ?_
    simp
    refine RetV.refl ?_
    have : l.findIdx? p = none := by
      rw [List.findIdx?_eq_none_iff]
      intro x hx
      obtain ⟨j, hj, rfl⟩ := List.getElem_of_mem hx
      exact inv j hj (by omega)
    simp [idx, this]

theorem idx_ge (p : Int → Bool) (l : List Int) : decide (0 ≤ idx p l) = l.any p := by
  unfold idx
  cases h : l.findIdx? p with
  | none =>
    rw [List.findIdx?_eq_none_iff] at h
    symm
    simpa [List.any_eq_false] using h
  | some i =>
    rw [List.findIdx?_eq_some_iff_getElem] at h
    obtain ⟨h1, h2, _⟩ := h
    symm
    simp only [Int.natCast_nonneg, decide_true, List.any_eq_true]
    exact ⟨l[i], by simp, h2⟩

theorem slices_ContainsFunc_ok (l : List Int) (hl : l.length ≤ 100000) (f : AVal) (p : Int → Bool) (hf : ∀ x ∈ l, PInv Pg f [.int .i64 x] (.bool (p x))) : APure Pg fn_slices_ContainsFunc_int_int [L l, f] (.bool (l.any p)) := by
  refine slices_ContainsFunc_int_int.pure (by simp) ?_
  simp
  refine FCall.pure (PInv.func (slices_IndexFunc_ok l hl f p hf)) ?_
  simp
  exact RetV.refl (by rw [idx_ge])

theorem slices_Index_ok (l : List Int) (hl : l.length ≤ 100000) (y : Int) : APure Pg fn_slices_Index_int_int [L l, .int .i64 y] (.int .i64 (idx (fun x => decide (y = x)) l)) := by
  refine slices_Index_int_int.pure (by simp) ?_
  simp
  refine Lp.intro (σ := Nat) (inv := fun k => k ≤ l.length ∧ ∀ j (h : j < l.length), j < k → ¬ y = l[j]) (vw := fun k => [(0, L l), (1, .int .i64 y), (7, .int .i64 l.length), (8, .int .i64 k)]) (hp := fun _ => []) (ms := fun k => l.length - k) 0 (by simp) (by simp) (by simp) ?_
  rintro k ⟨hk, inv⟩ J hJ
  by_cases hkc : k < l.length
  · by_cases q : y = l[k]
    · simp [hkc, ← q]
      refine hJ.ret ?_
      simp
      refine RetV.refl ?_
      have : l.findIdx? (fun x => decide (y = x)) = some k := by
        rw [List.findIdx?_eq_some_iff_getElem]
        exact ⟨hkc, by simpa using q, fun j hj => by simpa using inv j (by omega) hj⟩
      simp [idx, this]
    · simp [hkc, q]
      (repeat first | refine And.intro (by omega) ?_ | refine And.intro (Fits.of (by omega) (by omega)) ?_)
      refine hJ.next (k + 1) ⟨by omega, fun j hj hjk => ?_⟩ (by omega) (by simp) (by simp)
      by_cases h : j = k
      · subst h; exact q
      · exact inv j hj (by omega)
  · simp [hkc]
    refine hJ.exit ?_
    simp
    refine RetV.refl ?_
    have : l.findIdx? (fun x => decide (y = x)) = none := by
      rw [List.findIdx?_eq_none_iff]
      intro x hx
      obtain ⟨j, hj, rfl⟩ := List.getElem_of_mem hx
      simpa using inv j hj (by omega)
    simp [idx, this]
theorem slices_Contains_ok (l : List Int) (hl : l.length ≤ 100000) (y : Int) : APure Pg fn_slices_Contains_int_int [L l, .int .i64 y] (.bool (decide (y ∈ l))) := by
  refine slices_Contains_int_int.pure (by simp) ?_
  simp
  refine FCall.pure (PInv.func (slices_Index_ok l hl y)) ?_
  simp
  refine RetV.refl ?_
  rw [idx_ge]
  refine congrArg (fun b => AEnd.ret (AVal.bool b)) ?_
  rw [Bool.eq_iff_iff, List.any_eq_true, decide_eq_true_eq]
  exact ⟨fun ⟨x, h1, h2⟩ => by rw [of_decide_eq_true h2]; exact h1, fun h => ⟨y, h, by simp⟩⟩
theorem rake_check_1_ok (n : Int) : APure Pg fn_rake_check_1 [.int .i64 n] (.bool (!decide (1 ≤ n ∧ n ≤ 20))) := by
  refine rake_check_1.pure (by simp) ?_
  simp
  refine PCallK.intro (PInv.func (rake_within_ok _ _ _)) ?_
  simp
  exact RetV.refl (by simp)

theorem rake_check_all (r : Rak) (hs : r.Small) (l : List (Int × Bool)) (hl : l.length ≤ 40) (is : Bool) (K : AEnd → Prop)
    (hK : K (if r.errC l is = 0 then .ret (.tup []) else .pan (rkV (r.errC l is)))) : ACalls Pg fn_rake_check [r.v, LK l, .bool is] nilH fun e _ => K e := by
  have hf40 := hs.f
  have hs40 := hs.h.s
  have cR := leak_Rate_ok r.h hs.h (-1)
  have hns : ¬ r.h.Seam (-1) := by unfold Hul.Seam; omega
  have hR : r.h.sumV (r.h.Seam (-1)) (2 ^ (-1 : Int).toNat) = .tup [SP2 (0, 0), .int .i64 (if r.h.Valid then 2 else 1)] := by
    unfold Hul.sumV
    by_cases hv : r.h.Valid <;> simp [hv, hns]
  rw [hR] at cR
  have cF := slices_ContainsFunc_ok r.f (by omega) (.func (.func fn_rake_check_1) [] []) (fun n => !decide (1 ≤ n ∧ n ≤ 20)) fun x _ => PInv.func (rake_check_1_ok x)
  have hVal : r.Valid ↔ (r.h.Valid ∧ r.f.length = r.h.seams.length) ∧ r.f.any (fun n => !decide (1 ≤ n ∧ n ≤ 20)) = false := by
    rw [List.any_eq_false]
    exact ⟨fun v => ⟨⟨v.h, v.len⟩, fun x hx => by simpa using v.fa x hx⟩, fun h => ⟨h.1.1, h.1.2, fun x hx => by simpa using h.2 x hx⟩⟩
  refine rake_check.enter 0 (by simp) ?_
  simp
  intro s3
  refine PCallK.intro (PInv.func (first := []) (cap := []) (args := [r.h.v, .int .i64 (-1)]) cR) ?_
  simp [SP2]
  intro s6
  by_cases hh : ¬ r.h.Valid
  · have hnv : ¬ r.Valid := fun v => hh v.h
    have hE : r.errC l is = 1 := by simp [Rak.errC, hnv]
    rw [hE] at hK
    simp [hh]
    refine FCall.pan (PInvPan.func (rake_want_pan 1)) ?_
    simp
    exact ⟨_, HLe.refl _, hK⟩
  replace hh := Classical.not_not.1 hh
  by_cases hn : ¬ r.f.length = r.h.seams.length
  · have hnv : ¬ r.Valid := fun v => hn v.len
    have hE : r.errC l is = 1 := by simp [Rak.errC, hnv]
    rw [hE] at hK
    have hn' : ¬ (r.f.length : Int) = r.h.seams.length := by omega
    simp [hh, hn, hn']
    refine FCall.pan (PInvPan.func (rake_want_pan 1)) ?_
    simp
    exact ⟨_, HLe.refl _, hK⟩
  replace hn := Classical.not_not.1 hn
  simp [hh, hn]
  refine FCall.pure (PInv.func cF) ?_
  by_cases hb : ¬ (r.f.any fun n => !decide (1 ≤ n ∧ n ≤ 20)) = false
  · have hnv : ¬ r.Valid := fun v => hb (hVal.1 v).2
    have hE : r.errC l is = 1 := by simp [Rak.errC, hnv]
    rw [hE] at hK
    replace hb := (Bool.not_eq_false _).mp hb
    rw [hb]
    simp
    refine FCall.pan (PInvPan.func (rake_want_pan 1)) ?_
    simp
    exact ⟨_, HLe.refl _, hK⟩
  replace hb := Classical.not_not.1 hb
  have hv : r.Valid := hVal.2 ⟨⟨hh, hn⟩, hb⟩
  rw [hb]
  simp
  refine FCall.pure (PInv.func (rake_want_ok 1)) ?_
  simp
  have hn6 := hv.n6
  have hfn : r.f.length = r.n := rfl
  have e62 : (2 : Int) ^ 62 = 4611686018427387904 := by decide
  refine Lp.intro (σ := Nat) (inv := fun k => k ≤ l.length ∧ r.Fd (l.take k)) (vw := fun k => [(1, LK l), (2, .bool is), (3, .ptr 3 0 (s3+1)), (40, LK l), (41, .int .i64 l.length), (42, .int .i64 k)])
    (hp := fun _ => [(3, .row r.cells (s3+1))]) (ms := fun k => l.length - k) 0 ⟨by omega, by simp [Rak.Fd]⟩ (by simp) (by simp [Rak.cells]) ?_
  rintro k ⟨hk, inv⟩ J hJ
  by_cases hkc : k < l.length
  · obtain ⟨x, hx⟩ : ∃ x, l[k] = x := ⟨_, rfl⟩
    simp [hkc, hx, Rak.cells]
    refine ⟨by omega, fun s8 => ⟨by unfold Fits; omega, ?_⟩⟩
    refine PCallK.intro (PInv.func (rake_within_ok _ _ _)) ?_
    by_cases hq : ¬ (0 ≤ x.1 ∧ x.1 ≤ (r.f.length : Int) - 1)
    · have hE : r.errC l is = 2 := by
        have : ¬ (r.Fd l ∧ is = true) := fun h => hq (by have := h.1 x (by rw [← hx]; simp); omega)
        simp [Rak.errC, hv, this]
      rw [hE] at hK
      rw [show decide (0 ≤ x.1 ∧ x.1 ≤ (r.f.length : Int) - 1) = false by simpa using hq]
      simp
      refine FCall.pan (PInvPan.func (rake_want_pan 2)) ?_
      simp
      refine hJ.pan ?_
      simp
      exact ⟨_, HLe.refl _, hK⟩
    replace hq := Classical.not_not.1 hq
    rw [show decide (0 ≤ x.1 ∧ x.1 ≤ (r.f.length : Int) - 1) = true by simpa using hq]
    simp
    refine FCall.pure (PInv.func (rake_want_ok 2)) ?_
    simp
    (repeat first | refine And.intro (by omega) ?_ | refine And.intro (Fits.of (by omega) (by omega)) ?_)
    refine hJ.next (k + 1) ⟨by omega, ?_⟩ (by omega) (by simp) (by simp [Rak.cells])
    rw [← List.take_append_getElem hkc, hx]
    intro y hy
    rcases List.mem_append.1 hy with hy | hy
    · exact inv y hy
    · simp at hy; subst hy; omega
  obtain rfl : k = l.length := by omega
  rw [List.take_length] at inv
  simp
  refine hJ.exit ?_
  cases is with
  | false =>
    have hE : r.errC l false = 2 := by simp [Rak.errC, hv]
    rw [hE] at hK
    simp
    refine FCall.pan (PInvPan.func (rake_want_pan 2)) ?_
    simp
    exact ⟨_, HLe.refl _, hK⟩
  | true =>
  simp
  refine FCall.pure (PInv.func (rake_want_ok 2)) ?_
  simp
  intro s11
  refine Lp.intro (σ := Nat) (inv := fun k => k ≤ l.length ∧ Rk.Fnd r.n (l.take k)) (vw := fun k => [(11, .ptr 11 0 (s11+1)), (57, LK l), (58, .int .i64 l.length), (59, .int .i64 k)])
    (hp := fun k => [(11, .row [.int .i64 (Rk.fq (l.take k)), .int .i64 (Rk.fp (l.take k))] (s11+1))]) (ms := fun k => l.length - k) 0 ⟨by omega, by simp; exact Rk.Fnd.nil⟩ (by simp) (by simp [Rk.fq, Rk.fp]) ?_
  rintro k ⟨hk, inv2⟩ J2 hJ2
  by_cases hkc : k < l.length
  · obtain ⟨x, hx⟩ : ∃ x, l[k] = x := ⟨_, rfl⟩
    have hxr := inv x (by rw [← hx]; simp)
    obtain ⟨i, hi⟩ : ∃ i : Nat, x.1 = i := ⟨x.1.toNat, by omega⟩
    have hin : i < r.n := by omega
    obtain ⟨hkn, hm, _⟩ := Rk.fnd_kn inv2
    have hqr := hkn.qr
    have h2p := two_pow_le hn6
    have e6 : (2 : Int) ^ 6 = 64 := by decide
    have hdv : 0 ≤ Rk.fq (l.take k) / 2 ^ i := Int.ediv_nonneg hqr.1 (by have := two_pow_pos i; omega)
    have hand := bitI_and1 hdv (by have := Int.ediv_le_self (2 ^ i) hqr.1; omega)
    have htk : l.take (k + 1) = l.take k ++ [x] := by rw [← List.take_append_getElem hkc, hx]
    have hfq : Rk.fq (l.take (k + 1)) = Rk.fq (l.take k) + 2 ^ i := by rw [htk, Rk.fq_push, hi]; rfl
    have hfp : Rk.fp (l.take (k + 1)) = Rk.lk (Rk.fp (l.take k)) i x.2 := by rw [htk, Rk.fp_push, hi]; rfl
    simp [hkc, hx, hi]
    refine ⟨by omega, fun s13 => ⟨by omega, ?_⟩⟩
    cases hiq : inS (Rk.fq (l.take k)) i with
    | true =>
      have hmod : Rk.fq (l.take k) / 2 ^ i % 2 = 1 := by simpa [inS] using hiq
      have hmem : (i : Int) ∈ (l.take k).map Prod.fst := by
        have := hm i hin
        rw [hiq] at this
        simpa using this.symm
      have hE : r.errC l true = 5 := by
        have : ¬ Rak.Once l := fun h => by
          unfold Rak.Once at h
          rw [← List.take_append_drop k l, List.map_append, List.nodup_append] at h
          refine h.2.2 _ hmem x.1 ?_ hi.symm
          rw [List.drop_eq_getElem_cons hkc, hx]; simp
        simp [Rak.errC, hv, inv, this]
      rw [hE] at hK
      simp [hand, hmod]
      refine FCall.pan (PInvPan.func (rake_want_pan 5)) ?_
      simp
      refine hJ2.pan ?_
      simp
      exact ⟨_, HLe.refl _, hK⟩
    | false =>
      have hmod : ¬ Rk.fq (l.take k) / 2 ^ i % 2 = 1 := by simpa [inS] using hiq
      have hmod0 : Rk.fq (l.take k) / 2 ^ i % 2 = 0 := by omega
      have hnm : x.1 ∉ (l.take k).map Prod.fst := fun h => by
        have := hm i hin
        rw [hiq, hi] at *
        simp at this h
        exact absurd h (by simpa using this)
      simp [hand, hmod0]
      refine FCall.pure (PInv.func (rake_want_ok 5)) ?_
      simp
      refine PCallK.intro (PInv.func (rake_known_with_ok hn6 hkn hin hiq x.2)) ?_
      simp
      (repeat first | refine And.intro (by omega) ?_ | refine And.intro (Fits.of (by omega) (by omega)) ?_)
      exact hJ2.next (k + 1) ⟨by omega, by rw [htk]; exact inv2.push ⟨by omega, by omega⟩ hnm⟩ (by omega) (by simp) (by simp [hfq, hfp])
  obtain rfl : k = l.length := by omega
  rw [List.take_length] at inv2
  have hE : r.errC l true = 0 := Rak.errC_zero.2 ⟨hv, inv2, rfl⟩
  rw [hE] at hK
  simp
  refine hJ2.exit ?_
  simp
  exact RetV.refl hK
end Go.Cw
end

/- Rake: Known, Next, Worst, Any. -/
section
set_option maxRecDepth 100000
set_option linter.unusedSimpArgs false
namespace Go.Cw
open Go Go.Proofs

theorem rake_check_ok (r : Rak) (hs : r.Small) (l : List (Int × Bool)) (hl : l.length ≤ 40) (is : Bool) (hc : r.errC l is = 0) : APure Pg fn_rake_check [r.v, LK l, .bool is] (.tup []) :=
  APure.of_nil (rake_check_all r hs l hl is (fun e => e = .ret (.tup [])) (by rw [if_pos hc]))
theorem rake_check_pan (r : Rak) (hs : r.Small) (l : List (Int × Bool)) (hl : l.length ≤ 40) (is : Bool) (hc : ¬ r.errC l is = 0) : APan Pg fn_rake_check [r.v, LK l, .bool is] (rkV (r.errC l is)) :=
  APan.of_nil (rake_check_all r hs l hl is (fun e => e = .pan (rkV (r.errC l is))) (by rw [if_neg hc]))

theorem Rak.Hc_copy {f : List Int} (hf : f.length ≤ 6) (a b : AVal) : setRange [.int .i64 0, .int .i64 0, .int .i64 0, .int .i64 0, .int .i64 0, .int .i64 0, a, b] 0 (ints f) = ints (tab 6 (ofL f)) ++ [a, b] := by
  match f, hf with
  | [], _ => rfl
  | [x1], _ => rfl
  | [x1, x2], _ => rfl
  | [x1, x2, x3], _ => rfl
  | [x1, x2, x3, x4], _ => rfl
  | [x1, x2, x3, x4, x5], _ => rfl
  | [x1, x2, x3, x4, x5, x6], _ => rfl
  | _ :: _ :: _ :: _ :: _ :: _ :: _ :: _, h => simp at h
theorem Rak.Hc_set (f : Nat → Int) (a b c : AVal) : setRange (ints (tab 6 f) ++ [a, b]) 7 [c] = ints (tab 6 f) ++ [a, c] := rfl
theorem Rak.Hc_len (f : Nat → Int) (n : Nat) (S : List Int) : (Rk.Hc f n S).length = 8 := rfl
theorem rake_open_all (r : Rak) (hs : r.Small) (l : List (Int × Bool)) (hl : l.length ≤ 40) (is : Bool) (K : AEnd → Prop)
    (hK : K (if r.errE l is = 0 then .ret (.tup [.pv (Rk.Hc r.F r.n r.S), .agg [.int .i64 (Rk.fq l), .int .i64 (Rk.fp l)]]) else .pan (rkV (r.errE l is)))) : ACalls Pg fn_rake_open [r.v, LK l, .bool is] nilH fun e _ => K e := by
  refine rake_open.enter 0 (by simp) ?_
  simp
  intro s3 s7
  by_cases hc : ¬ r.errC l is = 0
  · rw [Rak.errE_C hc, if_neg hc] at hK
    refine FCall.pan (PInvPan.func (first := []) (cap := []) (args := [r.v, LK l, .bool is]) (rake_check_pan r hs l hl is hc)) ?_
    simp
    exact ⟨_, HLe.refl _, hK⟩
  replace hc := Classical.not_not.1 hc
  obtain ⟨hv, hf, his⟩ := Rak.errC_zero.1 hc
  have hE := Rak.errE_of hv hf his
  have hn6 := hv.n6
  have hfn : r.f.length = r.n := rfl
  refine FCall.pure (PInv.func (first := []) (cap := []) (args := [r.v, LK l, .bool is]) (rake_check_ok r hs l hl is hc)) ?_
  simp
  intro s22
  refine ⟨by omega, ?_⟩
  refine PCallK.intro (PInv.func (first := []) (cap := []) (args := [r.h.v]) (leak_Sets_ok r.h hs.h)) ?_
  by_cases ht : r.h.truths r.h.every = []
  · have hS := Rak.S_nil.2 ht
    have h10 : r.errE l is = 10 := by rw [hE, hS]; simp [Rk.agF]
    rw [h10] at hK
    simp [Hul.setsV, hv.h, ht]
    refine FCall.pan (PInvPan.func (rake_want_pan 10)) ?_
    simp
    exact ⟨_, HLe.refl _, hK⟩
  have hSV : r.h.setsV = .tup [L r.S, .int .i64 0] := by simp [Hul.setsV, hv.h, ht]; rfl
  have hSl := Rak.S_len hv
  have hSi := Rak.S_in hv
  have hmin : (min r.f.length 6) = r.n := by omega
  have hcp := Rak.Hc_copy (f := r.f) (by omega) (.int .i64 r.f.length) .nils
  have htk : r.f.take r.n = r.f := List.take_of_length_le (by omega)
  have h8 : (ints (tab 6 (ofL r.f)) ++ [AVal.int IntKind.i64 r.f.length, .nils]).length = 8 := rfl
  have hst := Rak.Hc_set (ofL r.f) (.int .i64 r.f.length) .nils (L r.S)
  have hHc : ints (tab 6 (ofL r.f)) ++ [AVal.int IntKind.i64 r.f.length, L r.S] = Rk.Hc r.F r.n r.S := rfl
  rw [hSV, hmin, htk, hcp]
  simp
  refine FCall.pure (PInv.func (rake_want_ok 0)) ?_
  simp [hst, hHc]
  intro s11
  refine Lp.intro (σ := Nat) (inv := fun k => k ≤ l.length) (vw := fun k => [(8, .ptr 22 0 (s22+1)), (7, .ptr 7 0 (s7+1)), (11, .ptr 11 0 (s11+1)), (44, LK l), (45, .int .i64 l.length), (46, .int .i64 k)])
    (hp := fun k => [(7, .row [.int .i64 0, .int .i64 0] (s7+1)), (11, .row [.int .i64 (Rk.fq (l.take k)), .int .i64 (Rk.fp (l.take k))] (s11+1)), (22, .row (Rk.Hc r.F r.n r.S) (s22+1))]) (ms := fun k => l.length - k) 0 (by omega) (by simp) (by simp [Rk.fq, Rk.fp]) ?_
  rintro k hk J hJ
  by_cases hkc : k < l.length
  · obtain ⟨x, hx⟩ : ∃ x, l[k] = x := ⟨_, rfl⟩
    have hxr := hf.rng x (by rw [← hx]; simp)
    obtain ⟨i, hi⟩ : ∃ i : Nat, x.1 = i := ⟨x.1.toNat, by omega⟩
    have hin : i < r.n := by omega
    have htk : l.take (k + 1) = l.take k ++ [x] := by rw [← List.take_append_getElem hkc, hx]
    have hft : Rk.Fnd r.n (l.take k) := ⟨fun y hy => hf.rng y (List.mem_of_mem_take hy), hf.once.sublist ((List.take_sublist k l).map Prod.fst)⟩
    have hf1 : Rk.Fnd r.n (l.take k ++ [x]) := by rw [← htk]; exact ⟨fun y hy => hf.rng y (List.mem_of_mem_take hy), hf.once.sublist ((List.take_sublist (k+1) l).map Prod.fst)⟩
    obtain ⟨hkn, hm, _⟩ := Rk.fnd_kn hft
    have hiq : inS (Rk.fq (l.take k)) i = false := by
      rw [hm i hin, decide_eq_false_iff_not, ← hi]
      exact hf1.init.2.2
    have hfq : Rk.fq (l.take (k + 1)) = Rk.fq (l.take k) + 2 ^ i := by rw [htk, Rk.fq_push, hi]; rfl
    have hfp : Rk.fp (l.take (k + 1)) = Rk.lk (Rk.fp (l.take k)) i x.2 := by rw [htk, Rk.fp_push, hi]; rfl
    simp [hkc, hx, hi]
    refine ⟨by omega, fun s13 => ?_⟩
    refine PCallK.intro (PInv.func (rake_known_with_ok hn6 hkn hin hiq x.2)) ?_
    simp
    (repeat first | refine And.intro (by omega) ?_ | refine And.intro (Fits.of (by omega) (by omega)) ?_)
    exact hJ.next (k + 1) (by omega) (by omega) (by simp) (by simp [hfq, hfp])
  obtain rfl : k = l.length := by omega
  have hkn := (Rk.fnd_kn hf).1
  have cA := rake_hull_agreeing_ok r.F r.n hv.n6 r.S (by omega) (Rak.S_in hv) hkn
  rw [← Rk.agF_eq hf] at cA
  simp
  refine hJ.exitS (Sl.frz 22 (cells := Rk.Hc r.F r.n r.S) (s := s22 + 1) (by simp) (Sl.refl ?_))
  simp
  refine FCall.pure (PInv.func cA) ?_
  by_cases h0 : Rk.agF r.S l = []
  · rw [hE, if_pos h0] at hK
    simp [h0]
    refine FCall.pan (PInvPan.func (rake_want_pan 10)) ?_
    simp
    exact ⟨_, HLe.refl _, hK⟩
  · rw [hE, if_neg h0] at hK
    have hp : 0 < (Rk.agF r.S l).length := List.length_pos_iff.2 h0
    simp [hp]
    refine FCall.pure (PInv.func (rake_want_ok 10)) ?_
    simp
    exact RetV.refl hK
theorem rake_open_ok (r : Rak) (hs : r.Small) (l : List (Int × Bool)) (hl : l.length ≤ 40) (is : Bool) (he : r.errE l is = 0) : APure Pg fn_rake_open [r.v, LK l, .bool is] (.tup [.pv (Rk.Hc r.F r.n r.S), .agg [.int .i64 (Rk.fq l), .int .i64 (Rk.fp l)]]) :=
  APure.of_nil (rake_open_all r hs l hl is (fun e => e = .ret (.tup [.pv (Rk.Hc r.F r.n r.S), .agg [.int .i64 (Rk.fq l), .int .i64 (Rk.fp l)]])) (by rw [if_pos he]))
theorem rake_open_pan (r : Rak) (hs : r.Small) (l : List (Int × Bool)) (hl : l.length ≤ 40) (is : Bool) (he : ¬ r.errE l is = 0) : APan Pg fn_rake_open [r.v, LK l, .bool is] (rkV (r.errE l is)) :=
  APan.of_nil (rake_open_all r hs l hl is (fun e => e = .pan (rkV (r.errE l is))) (by rw [if_neg he]))
theorem rake_Known_ok (r : Rak) (hs : r.Small) (l : List (Int × Bool)) (hl : l.length ≤ 40) : APure Pg fn_rake_Known [r.v, LK l] (r.knownV l) := by
  by_cases he : ¬ r.errE l true = 0
  · refine rake_Known.pure (by simp) ?_
    simp
    intro s1 s2
    refine FCall.pan (PInvPan.func (rake_open_pan r hs l hl true he)) ?_
    simp
    refine RetD.panic rfl rake_Known_1.recClo ?_
    refine ACalls.cps [(5, .row [.int .i64 0] (s2 + 1))] (fun _ : Unit => .tup []) (fun _ => [(5, .row [.int .i64 (r.errE l true)] (s2 + 1))]) (fun _ => True) (fun K' hK' => rake_said_ref _ _ _ _ K' (hK' () trivial)) (by simp) (fun _ => rfl) fun _ _ => ?_
    simp
    exact RetV.ale (v' := .tup [L [], .int .i64 (r.errE l true)]) (ALe.tup ⟨ALe.nils_vl, ALe.refl _, trivial⟩) (RetV.refl (by simp [Rak.knownV, he]))
  replace he := Classical.not_not.1 he
  obtain ⟨hv, hf, _, hne⟩ := Rak.errE_zero.1 he
  have hkn := (Rk.fnd_kn hf).1
  have hSl := Rak.S_len hv
  have cO := rake_open_ok r hs l hl true he
  have cA := rake_hull_agreeing_ok r.F r.n hv.n6 r.S (by omega) (Rak.S_in hv) hkn
  rw [← Rk.agF_eq hf] at cA
  refine rake_Known.pure (by simp) ?_
  simp
  intro s1 s2
  refine FCall.pure (PInv.func cO) ?_
  simp
  intro s3
  refine FCall.pure (PInv.func cA) ?_
  simp
  refine RetD.ret rfl rake_Known_1.recClo ((rake_said_nil _ _).mono ?_)
  rintro e h' ⟨rfl, rfl⟩
  simp
  exact RetV.refl (by simp [Rak.knownV, he])

end Go.Cw
end

/- Rake: Next, Worst. -/
section
set_option maxRecDepth 100000
set_option linter.unusedSimpArgs false
namespace Go.Cw
open Go Go.Proofs

/-- The function that tells the next seam is made. -/
theorem FCall.plan {F n₀ : Nat} {inr : Bool} {keep : List Nat} {fa fl : List It} {t : Option Nat} {K : KT} {Q : Post} {tm : TM} {df : DF} {h : Heap} (n : Nat) (f : Nat → Int) (any : Bool) (S : List Int) (ty : Nat)
    (hh : h 402 = .dead ∧ h 403 = .dead ∧ h 405 = .dead ∧ h 406 = .dead ∧ h 407 = .dead) (hfa : FaOk F fa tm h)
    (next : ∀ s : Nat × Nat × Nat × Nat × Nat, FlOk fl (putD tm t (Rk.onV s.1 s.2.1 s.2.2.1 s.2.2.2.1)) (updL h (Rk.rwK n f any S (.iface ty (.agg [])) s.1 s.2.1 s.2.2.1 s.2.2.2.1 s.2.2.2.2 [])) ∧ K (putD tm t (Rk.onV s.1 s.2.1 s.2.2.1 s.2.2.2.1)) df (updL h (Rk.rwK n f any S (.iface ty (.agg [])) s.1 s.2.1 s.2.2.1 s.2.2.2.1 s.2.2.2.2 []))) :
    FCall ⟨Pg, F, n₀, inr, keep⟩ (.func (.func fn_rake_hull_plan) [] []) [.pv (Rk.Hc f n S), .iface ty (.agg [])] fa fl t K Q tm df h := by
  obtain ⟨h2, h3, h5, h6, h7⟩ := hh
  refine FCall.cps (σ := Nat × Nat × Nat × Nat × Nat) [(402, .dead), (403, .dead), (405, .dead), (406, .dead), (407, .dead)] (fun s => Rk.onV s.1 s.2.1 s.2.2.1 s.2.2.2.1) (fun s => Rk.rwK n f any S (.iface ty (.agg [])) s.1 s.2.1 s.2.2.1 s.2.2.2.1 s.2.2.2.2 []) (fun _ => True)
    (fun K' hK' => AInvoke.func ?_) (by simp [h2, h3, h5, h6, h7]) (fun _ => rfl) hfa (fun s _ => next s)
  have := rake_hull_plan_ok n f any S ty K' fun s2 s3 s5 s6 s7 => hK' (s2, s3, s5, s6, s7) trivial
  have e : hpV [(402, .dead), (403, .dead), (405, .dead), (406, .dead), (407, .dead)] = nilH := by
    simp only [hpV_cons, hpV_nil]
    repeat rw [upd_dead rfl]
  rw [e]
  exact this
/-- The function that tells the next seam is asked. -/
theorem FCall.ask {F n₀ : Nat} {inr : Bool} {keep : List Nat} {fa fl : List It} {t : Option Nat} {K : KT} {Q : Post} {tm : TM} {df : DF} {h : Heap} {n : Nat} (hn : n ≤ 6) {f : Nat → Int} (hf : ∀ i, i < n → 0 ≤ f i ∧ f i ≤ 100) {any : Bool} {S : List Int} (hl : S.length ≤ 100000) (hS : ∀ s ∈ S, 0 ≤ s ∧ s < 2 ^ n) {ty : Nat} {s2 s3 s5 s6 s7 : Nat}
    (hg : ∀ q p (l : List Int), PInv Pg (.func (.method "caulkworks/rake.done") [.iface ty (.agg [])] []) [.agg [.int .i64 q, .int .i64 p], L l] (.bool (Rk.dnB any p l))) {q p : Int} (hk : Rk.Kn n q p)
    (hh : Hw (Rk.rwK n f any S (.iface ty (.agg [])) s2 s3 s5 s6 s7 []) h) (hfa : FaOk F fa tm h)
    (next : ∀ M : List (Int × Int), FlOk fl (putD tm t (.tup [.int .i64 (Rk.tellK n f any S q p).1, .int .i64 (Rk.tellK n f any S q p).2])) (updL h (Rk.rwK n f any S (.iface ty (.agg [])) s2 s3 s5 s6 s7 M)) ∧ K (putD tm t (.tup [.int .i64 (Rk.tellK n f any S q p).1, .int .i64 (Rk.tellK n f any S q p).2])) df (updL h (Rk.rwK n f any S (.iface ty (.agg [])) s2 s3 s5 s6 s7 M))) :
    FCall ⟨Pg, F, n₀, inr, keep⟩ (Rk.onV s2 s3 s5 s6) [.agg [.int .i64 q, .int .i64 p]] fa fl t K Q tm df h := by
  refine FCall.cps (σ := List (Int × Int)) (Rk.rwK n f any S (.iface ty (.agg [])) s2 s3 s5 s6 s7 []) (fun _ => .tup [.int .i64 (Rk.tellK n f any S q p).1, .int .i64 (Rk.tellK n f any S q p).2]) (fun M => Rk.rwK n f any S (.iface ty (.agg [])) s2 s3 s5 s6 s7 M) (fun _ => True)
    (fun K' hK' => ?_) hh (fun _ => rfl) hfa (fun M _ => next M)
  unfold Rk.onV
  refine AInvoke.func ?_
  have := rake_hull_plan_1_ok hn hf hl hS (s2 := s2) (s3 := s3) (s5 := s5) (s6 := s6) (s7 := s7) hg (Rk.un n q).length q p hk rfl [] (by simp) K' fun M _ => hK' M trivial
  simpa using this

theorem rake_Next_ok (r : Rak) (hs : r.Small) (l : List (Int × Bool)) (hl : l.length ≤ 40) : APure Pg fn_rake_Next [r.v, LK l] (r.nextV l) := by
  by_cases he : ¬ r.errE l true = 0
  · refine rake_Next.pure (by simp) ?_
    simp
    intro s1 s2
    refine FCall.pan (PInvPan.func (rake_open_pan r hs l hl true he)) ?_
    simp
    refine RetD.panic rfl rake_Next_1.recClo ?_
    refine ACalls.cps [(6, .row [.int .i64 0] (s2 + 1))] (fun _ : Unit => .tup []) (fun _ => [(6, .row [.int .i64 (r.errE l true)] (s2 + 1))]) (fun _ => True) (fun K' hK' => rake_said_ref _ _ _ _ K' (hK' () trivial)) (by simp) (fun _ => rfl) fun _ _ => ?_
    simp
    exact RetV.refl (by simp [Rak.nextV, Rak.nextP, he])
  replace he := Classical.not_not.1 he
  obtain ⟨hv, hf, _, hne⟩ := Rak.errE_zero.1 he
  have hkn := (Rk.fnd_kn hf).1
  have hSl := Rak.S_len hv
  have cO := rake_open_ok r hs l hl true he
  have cA := rake_hull_agreeing_ok r.F r.n hv.n6 r.S (by omega) (Rak.S_in hv) hkn
  rw [← Rk.agF_eq hf] at cA
  by_cases h1 : (Rk.agF r.S l).length ≤ 1
  · refine rake_Next.pure (by simp) ?_
    simp
    intro s1 s2
    refine FCall.pure (PInv.func cO) ?_
    simp
    intro s3
    refine FCall.pure (PInv.func cA) ?_
    simp [show ¬ (1 : Int) < (Rk.agF r.S l).length by omega]
    refine FCall.pan (PInvPan.func (rake_want_pan 4)) ?_
    simp
    refine RetD.panic rfl rake_Next_1.recClo ?_
    refine ACalls.cps [(6, .row [.int .i64 0] (s2 + 1))] (fun _ : Unit => .tup []) (fun _ => [(6, .row [.int .i64 4] (s2 + 1))]) (fun _ => True) (fun K' hK' => rake_said_ref _ _ _ _ K' (hK' () trivial)) (by simp) (fun _ => rfl) fun _ _ => ?_
    simp
    exact RetV.refl (by simp [Rak.nextV, Rak.nextP, he, h1])
  have hT : Rk.tellK r.n r.F false r.S (Rk.fq l) (Rk.fp l) = Rk.planQ r.n r.F false (Rk.agF r.S l) (Rk.fq l) := by
    unfold Rk.tellK; rw [← Rk.agF_eq hf]; simp
  refine rake_Next.pure (by simp) ?_
  simp
  intro s1 s2
  refine FCall.pure (PInv.func cO) ?_
  simp
  intro s3
  refine FCall.pure (PInv.func cA) ?_
  simp [show (1 : Int) < (Rk.agF r.S l).length by omega]
  refine FCall.pure (PInv.func (rake_want_ok 4)) ?_
  simp
  refine FCall.plan r.n r.F false r.S 90 (by simp) trivial fun t => ?_
  refine ⟨by simp [Rk.rwK], ?_⟩
  simp [Rk.rwK]
  refine FCall.ask (s7 := t.2.2.2.2) hv.n6 (Rak.F_in hv) (by omega) (Rak.S_in hv) rake_done_all hkn (by simp [Rk.rwK]) trivial fun M => ?_
  simp [Rk.rwK, hT]
  refine RetD.ret rfl rake_Next_1.recClo ((rake_said_nil _ _).mono ?_)
  rintro e h' ⟨rfl, rfl⟩
  simp
  exact RetV.refl (by simp [Rak.nextV, Rak.nextP, he, h1])

theorem rake_open0 (r : Rak) (hs : r.Small) (he : r.errE [] true = 0) : PInv Pg (.func (.func fn_rake_open) [] []) [r.v, .nils, .bool true] (.tup [.pv (Rk.Hc r.F r.n r.S), .agg [.int .i64 0, .int .i64 0]]) := fun hh =>
  AInvoke.ale (ALe.refl _) (args' := [r.v, LK [], .bool true]) ⟨ALe.refl _, ALe.nils_vl, ALe.refl _, trivial⟩ (PInv.func (first := []) (cap := []) (args := [r.v, LK [], .bool true]) (rake_open_ok r hs [] (by simp) true he) hh)
theorem rake_open0_pan (r : Rak) (hs : r.Small) (is : Bool) (he : ¬ r.errE [] is = 0) : PInvPan Pg (.func (.func fn_rake_open) [] []) [r.v, .nils, .bool is] (rkV (r.errE [] is)) := fun hh =>
  AInvoke.ale (ALe.refl _) (args' := [r.v, LK [], .bool is]) ⟨ALe.refl _, ALe.nils_vl, ALe.refl _, trivial⟩ (PInvPan.func (first := []) (cap := []) (args := [r.v, LK [], .bool is]) (rake_open_pan r hs [] (by simp) is he) hh)
theorem rake_Worst_ok (r : Rak) (hs : r.Small) : APure Pg fn_rake_Worst [r.v] r.worstV := by
  by_cases he : ¬ r.errE [] true = 0
  · refine rake_Worst.pure (by simp) ?_
    simp
    intro s1 s2
    refine FCall.pan (rake_open0_pan r hs true he) ?_
    simp
    refine RetD.panic rfl rake_Worst_1.recClo ?_
    refine ACalls.cps [(3, .row [.int .i64 0] (s2 + 1))] (fun _ : Unit => .tup []) (fun _ => [(3, .row [.int .i64 (r.errE [] true)] (s2 + 1))]) (fun _ => True) (fun K' hK' => rake_said_ref _ _ _ _ K' (hK' () trivial)) (by simp) (fun _ => rfl) fun _ _ => ?_
    simp
    exact RetV.refl (by simp [Rak.worstV, he])
  replace he := Classical.not_not.1 he
  obtain ⟨hv, _, _, hne⟩ := Rak.errE_zero.1 he
  have hSl := Rak.S_len hv
  have hT : Rk.tellK r.n r.F false r.S 0 0 = Rk.planQ r.n r.F false r.S 0 := by
    unfold Rk.tellK; rw [Rk.agQ_zero]; simp
  refine rake_Worst.pure (by simp) ?_
  simp
  intro s1 s2
  refine FCall.pure (rake_open0 r hs he) ?_
  simp
  intro s3
  refine FCall.plan r.n r.F false r.S 90 (by simp) trivial fun t => ?_
  refine ⟨by simp [Rk.rwK], ?_⟩
  simp [Rk.rwK]
  refine FCall.ask (s7 := t.2.2.2.2) hv.n6 (Rak.F_in hv) (by omega) (Rak.S_in hv) rake_done_all Rk.Kn.zero (by simp [Rk.rwK]) trivial fun M => ?_
  simp [Rk.rwK, hT]
  refine RetD.ret rfl rake_Worst_1.recClo ((rake_said_nil _ _).mono ?_)
  rintro e h' ⟨rfl, rfl⟩
  simp
  exact RetV.refl (by simp [Rak.worstV, he])
theorem rake_Any_gen (hg : ∀ q p (l : List Int), PInv Pg (.func (.method "caulkworks/rake.done") [.iface 99 (.agg [])] []) [.agg [.int .i64 q, .int .i64 p], L l] (.bool (Rk.dnB true p l))) (r : Rak) (hs : r.Small) : APure Pg fn_rake_Any [r.v] r.anyV := by
  by_cases he : ¬ r.errE [] true = 0
  · refine rake_Any.pure (by simp) ?_
    simp
    intro s1 s2
    refine FCall.pan (rake_open0_pan r hs true he) ?_
    simp
    refine RetD.panic rfl rake_Any_1.recClo ?_
    refine ACalls.cps [(4, .row [.int .i64 0] (s2 + 1))] (fun _ : Unit => .tup []) (fun _ => [(4, .row [.int .i64 (r.errE [] true)] (s2 + 1))]) (fun _ => True) (fun K' hK' => rake_said_ref _ _ _ _ K' (hK' () trivial)) (by simp) (fun _ => rfl) fun _ _ => ?_
    simp
    exact RetV.refl (by simp [Rak.anyV, Rak.anyP, he])
  replace he := Classical.not_not.1 he
  obtain ⟨hv, _, _, hne⟩ := Rak.errE_zero.1 he
  have hSl := Rak.S_len hv
  have hH7 : ∀ h, (Rk.Hc r.F r.n r.S)[7]'h = L r.S := fun h => by simp [Rk.Hc]
  have hH8 := Rak.Hc_len r.F r.n r.S
  have cC := slices_Contains_ok r.S (by omega) 0
  by_cases h0 : (0 : Int) ∈ r.S
  · refine rake_Any.pure (by simp) ?_
    simp
    intro s1 s2
    refine FCall.pure (rake_open0 r hs he) ?_
    simp [hH7, hH8]
    intro s3
    refine FCall.pure (PInv.func cC) ?_
    simp [h0]
    refine FCall.pan (PInvPan.func (rake_want_pan 11)) ?_
    simp
    refine RetD.panic rfl rake_Any_1.recClo ?_
    refine ACalls.cps [(4, .row [.int .i64 0] (s2 + 1))] (fun _ : Unit => .tup []) (fun _ => [(4, .row [.int .i64 11] (s2 + 1))]) (fun _ => True) (fun K' hK' => rake_said_ref _ _ _ _ K' (hK' () trivial)) (by simp) (fun _ => rfl) fun _ _ => ?_
    simp
    exact RetV.refl (by simp [Rak.anyV, Rak.anyP, he, h0])
  have hT : Rk.tellK r.n r.F true r.S 0 0 = Rk.planQ r.n r.F true r.S 0 := by
    unfold Rk.tellK; rw [Rk.agQ_zero]; simp
  refine rake_Any.pure (by simp) ?_
  simp
  intro s1 s2
  refine FCall.pure (rake_open0 r hs he) ?_
  simp [hH7, hH8]
  intro s3
  refine FCall.pure (PInv.func cC) ?_
  simp [h0]
  refine FCall.pure (PInv.func (rake_want_ok 11)) ?_
  simp
  refine FCall.plan r.n r.F true r.S 99 (by simp) trivial fun t => ?_
  refine ⟨by simp [Rk.rwK], ?_⟩
  simp [Rk.rwK]
  refine FCall.ask (s7 := t.2.2.2.2) hv.n6 (Rak.F_in hv) (by omega) (Rak.S_in hv) hg Rk.Kn.zero (by simp [Rk.rwK]) trivial fun M => ?_
  simp [Rk.rwK, hT]
  refine RetD.ret rfl rake_Any_1.recClo ((rake_said_nil _ _).mono ?_)
  rintro e h' ⟨rfl, rfl⟩
  simp
  exact RetV.refl (by simp [Rak.anyV, Rak.anyP, he, h0])
end Go.Cw
end

/- Rake: the goals, walked by the kit's own steps. -/
section
namespace Go.Proofs
open Go Go.Shelf Go.RowKit Go.Lib Go.Sort
set_option maxHeartbeats 1000000 in
theorem Tryz.all100 (q p : Int) (o : Option Addr) (n c : Nat) (W : World) : Calls Tryz.prog 100 #[.agg #[], .agg #[.int .i64 q, .int .i64 p], .slice o n c] W fun e w' => e = .returned (.bool (decide ((n : Int) ≤ 1))) ∧ ∃ q os', w' = grow (W.drewN q) os' := by
  go_enter Tryz.func100, Tryz.ntmps100
  go_wp2
  go_ret
  exact ⟨rfl, 0, _, by rw [alloc_eq_grow, alloc_eq_grow, grow_grow]; rfl⟩
theorem Tryz.part99 (w : World) (b : Nat) (c : Array Value) (hb : w.heap[b]? = some (Obj.cells c 99)) : Sem.run Tryz.prog (partAt ⟨b, 0, none⟩ 0 0) w = .ok ⟨b, 0, none⟩ w := by
  have h2 : Tryz.prog.cellsOf 99 = 0 := by kernel_rfl
  simp [partAt, byteOf, noView, viewAt, World.shape?, hb, h2]
set_option maxHeartbeats 4000000 in
theorem Tryz.some174 (q p : Int) (o : Option Addr) (n c : Nat) (W : World) : Calls Tryz.prog 174 #[.agg #[], .agg #[.int .i64 q, .int .i64 p], .slice o n c] W fun e w' => e = .returned (.bool (decide (p ≠ 0 ∨ n = 0))) ∧ ∃ q os', w' = grow (W.drewN q) os' := by
  have h100 := fun W' => Tryz.all100 q p o n c W'
  have mixed : Tryz.prog.follows .mixedOrders = true := by kernel_rfl
  go_enter Tryz.func174, Tryz.ntmps174
  go_wp2_with fail
  rotate_left
  · go_ret
    rename_i hp hn
    exact ⟨by simp [hp, hn], 0, _, by rw [alloc_eq_grow, alloc_eq_grow, grow_grow]; rfl⟩
  · go_ret
    rename_i hp
    exact ⟨by simp [hp], 0, _, by rw [alloc_eq_grow, alloc_eq_grow, grow_grow]; rfl⟩
  obtain ⟨W2, hW2⟩ : ∃ W2, W2 = ((W.alloc (Obj.cells #[] 99)).alloc (Obj.cells #[Value.int IntKind.i64 q, Value.int IntKind.i64 0] 80)) := ⟨_, rfl⟩
  have hW3 : W2 = grow W #[Obj.cells #[] 99, Obj.cells #[Value.int IntKind.i64 q, Value.int IntKind.i64 0] 80] := by
    rw [hW2, alloc_eq_grow, alloc_eq_grow, grow_grow]; rfl
  have hh : W2.heap = W.heap ++ #[Obj.cells #[] 99, Obj.cells #[Value.int IntKind.i64 q, Value.int IntKind.i64 0] 80] := by rw [hW3]; rfl
  have hb1 : ∀ n' os', (grow (W2.drewN n') os').heap[W.heap.size]? = some (Obj.cells #[] 99) := by
    intro n' os'
    rw [heap_grow_old _ _ (by show _ < W2.heap.size; rw [hh]; simp)]
    show W2.heap[W.heap.size]? = _
    rw [hh]; simp
  have hb2 : ∀ n' os', (grow (W2.drewN n') os').heap[W.heap.size + 1]? = some (Obj.cells #[Value.int IntKind.i64 q, Value.int IntKind.i64 0] 80) := by
    intro n' os'
    rw [heap_grow_old _ _ (by show _ < W2.heap.size; rw [hh]; simp)]
    show W2.heap[W.heap.size + 1]? = _
    rw [hh]; simp
  have hc3 : ∀ n' os', (grow (W2.drewN n') os').cell? ⟨W.heap.size + 1, 0, none⟩ = some (.int .i64 q) := fun n' os' => by simp [World.cell?, hb2]
  have hc4 : ∀ n' os', (grow (W2.drewN n') os').cell? ⟨W.heap.size + 1, 1, none⟩ = some (.int .i64 0) := fun n' os' => by simp [World.cell?, hb2]
  have hpa : ∀ n' os', Sem.run Tryz.prog (partAt ⟨W.heap.size, 0, none⟩ 0 0) (grow (W2.drewN n') os') = .ok ⟨W.heap.size, 0, none⟩ (grow (W2.drewN n') os') := fun n' os' => Tryz.part99 _ _ _ (hb1 n' os')
  have hpa0 : Sem.run Tryz.prog (partAt ⟨W.heap.size, 0, none⟩ 0 0) W2 = .ok ⟨W.heap.size, 0, none⟩ W2 := Tryz.part99 _ _ #[] (by rw [hh]; simp)
  rw [← hW2]
  have HW3 : Hid (W2 = _) := hW3
  clear hW2 hW3 hh hb1 hb2
  rw [hpa0]
  simp only [Result.andThen]
  rw [Oper.upon_value]
  have hc3' : W2.cell? ⟨W.heap.size + 1, 0, none⟩ = some (.int .i64 q) := by have := hc3 0 #[]; rwa [grow_empty] at this
  have hc4' : W2.cell? ⟨W.heap.size + 1, 1, none⟩ = some (.int .i64 0) := by have := hc4 0 #[]; rwa [grow_empty] at this
  go_wp2_with fail
  refine (Tryz.all100 q 0 o 0 c W2).mono ?_
  rintro e w' ⟨rfl, nq, osq, rfl⟩
  simp only []
  go_wp2_with fail
  go_ret
  rename_i hn
  refine ⟨by simp [hn], nq, #[Obj.cells #[] 99, Obj.cells #[Value.int IntKind.i64 q, Value.int IntKind.i64 0] 80] ++ osq, ?_⟩
  rw [HW3.out]
  show grow (grow (W.drewN nq) #[Obj.cells #[] 99, Obj.cells #[Value.int IntKind.i64 q, Value.int IntKind.i64 0] 80]) osq = _
  rw [grow_grow]
end Go.Proofs
end

/- Rake: the goal that some leak was found; Any. -/
section
set_option maxRecDepth 100000
set_option linter.unusedSimpArgs false
namespace Go.Cw
open Go Go.Proofs Go.Sort

theorem Sim.grown {Z : Snap} {μ : Mu} {h : Heap} {g : Nat} {w : World} (S : Sim Z μ h g w) (q : Nat) (os : Array Obj) :
    Sim Z μ h g (grow (w.drewN q) os) ∧ Tr Z μ h g w Z μ h g (grow (w.drewN q) os) := by
  have hsz : w.heap.size ≤ (grow (w.drewN q) os).heap.size := by
    rw [size_grow]; exact Nat.le_add_right _ _
  have hfr : ∀ b, b < w.heap.size → (grow (w.drewN q) os).heap[b]? = w.heap[b]? := fun b hb => heap_grow_old (w.drewN q) os hb
  refine ⟨⟨fun r => (S.rows r).mono (Ext.refl _ _ _) (fun s hs => hfr _ (S.lt hs).2), S.inj, fun b c hb => ?_, S.sep⟩, ⟨Ext.refl _ _ _, hsz, fun b hb _ => hfr b hb, fun r s hs _ => ⟨r, s, hs, rfl⟩, fun _ _ hb _ => .inl hb, rfl, rfl⟩⟩
  obtain ⟨arr, elem, fr, h1, h2⟩ := S.imm b c hb
  exact ⟨arr, elem, fr, by rw [hfr b (S.imm_lt hb)]; exact h1, h2⟩

theorem APure.of_grown {P : Program} {f : FuncId} {args : List AVal} {v : AVal} (he : Enters P f)
    (hc : ∀ (Z : Snap) (μ : Mu) (g : Nat) (cargs : Array Value), cargs.size = args.length → VPre Z μ g args cargs.toList → ∃ cv, VRel Z μ g v cv ∧ ∀ w, Calls P f cargs w fun e w' => e = .returned cv ∧ ∃ q os', w' = grow (w.drewN q) os') : APure P f args v := by
  refine APure.of_nil ⟨he, fun Z μ g w cargs S hsz hv => ?_⟩
  obtain ⟨cv, hcv, hcall⟩ := hc Z μ g cargs hsz hv
  refine Calls.mono' (hcall w) ?_
  rintro e w' ⟨rfl, q, os, rfl⟩
  obtain ⟨S', T⟩ := S.grown q os
  exact ⟨Z, μ, g, .ret v, _, rfl, ⟨cv, hcv, rfl⟩, S', T⟩

theorem rake_some_done_ok (q p : Int) (l : List Int) : APure Pg fn_rake_some_done [.agg [], .agg [.int .i64 q, .int .i64 p], L l] (.bool (decide (p ≠ 0 ∨ l = []))) := by
  refine APure.of_grown ⟨_, _, Tryz.func174, rfl, rfl⟩ fun Z μ g cargs hsz hv => ?_
  obtain ⟨u, v, x, rfl⟩ : ∃ u v x, cargs = #[u, v, x] := by
    match cargs, hsz with
    | ⟨[u, v, x]⟩, _ => exact ⟨u, v, x, rfl⟩
  have h1 := (VPre_cons.1 hv).1
  have h2 := (VPre_cons.1 (VPre_cons.1 hv).2).1
  have h3 := (VPre_cons.1 (VPre_cons.1 (VPre_cons.1 hv).2).2).1
  simp only [VRel] at h1 h2
  obtain ⟨c1, rfl, hl1, hp1⟩ := h1
  obtain ⟨c2, rfl, hl2, hp2⟩ := h2
  obtain rfl : c1 = #[] := by
    match c1, hl1 with
    | ⟨[]⟩, _ => rfl
  obtain ⟨a2, b2, rfl⟩ : ∃ a b, c2 = #[a, b] := by
    match c2, hl2 with
    | ⟨[a, b]⟩, _ => exact ⟨a, b, rfl⟩
  have q3 := (VPre_cons.1 hp2.1).1
  have q4 := (VPre_cons.1 (VPre_cons.1 hp2.1).2).1
  simp only [VRel] at q3 q4
  subst q3 q4
  refine ⟨.bool (decide (p ≠ 0 ∨ l = [])), by simp [VRel], fun w => ?_⟩
  unfold L at h3
  simp only [VRel] at h3
  obtain ⟨a, cap, rfl, _⟩ := h3
  have := Tryz.some174 q p a l.length cap w
  have e : decide (p ≠ 0 ∨ l.length = 0) = decide (p ≠ 0 ∨ l = []) := by simp
  rw [e] at this
  exact this
theorem done_some : MethAt Pg 99 "caulkworks/rake.done" fn_rake_some_done := ⟨fun _ _ => by kernel_rfl⟩
theorem rake_done_some (q p : Int) (l : List Int) : PInv Pg (.func (.method "caulkworks/rake.done") [.iface 99 (.agg [])] []) [.agg [.int .i64 q, .int .i64 p], L l] (.bool (Rk.dnB true p l)) := by
  intro hh
  exact AInvoke.meth done_some (rake_some_done_ok q p l hh)
theorem rake_Any_ok (r : Rak) (hs : r.Small) : APure Pg fn_rake_Any [r.v] r.anyV := rake_Any_gen rake_done_some r hs
end Go.Cw
end

/- Rake: the library's Clone of an empty list, walked by the kit's own steps. -/
section
namespace Go.Proofs
open Go Go.Shelf Go.RowKit Go.Lib Go.Sort
set_option maxRecDepth 20000 in
set_option maxHeartbeats 1000000 in
theorem Tryz.clone0 (o : Option Addr) (c : Nat) (W : World) : Calls Tryz.prog 68 #[.slice o 0 c] W fun e w' => (∃ o' c', e = .returned (.slice o' 0 c')) ∧ ∃ q os', w' = grow (W.drewN q) os' := by
  go_enter Tryz.func68, Tryz.ntmps68
  go_wp2
  have hb : Sem.run Tryz.prog (binOp BinOp.eql 26 (Value.slice o 0 c) (Value.slice none 0 0)) W = .ok (.bool o.isNone) W := by
    show Sem.run Tryz.prog (do pure (Value.bool (← Op.equal 26 (Value.slice o 0 c) (Value.slice none 0 0)))) W = _
    have : Sem.run Tryz.prog (Op.equal 26 (Value.slice o 0 c) (Value.slice none 0 0)) W = .ok o.isNone W := by
      show Sem.run Tryz.prog (Op.equalIn (9999 + 1) 26 (Value.slice o 0 c) (Value.slice none 0 0)) W = _
      rw [Op.equalIn]
      cases o <;> simp [run_underlying (show Tryz.prog.underlying 26 = some (.slice 3) by kernel_rfl)]
    simp [this]
  rw [hb]
  simp only [Result.andThen]
  rw [Oper.upon_value]
  cases o
  all_goals simp only [Option.isNone]
  all_goals go_wp2
  · go_ret
    exact ⟨⟨_, _, rfl⟩, 0, #[], by rw [grow_empty]; rfl⟩
  · go_ret
    exact ⟨⟨_, _, rfl⟩, 0, _, by rw [alloc_eq_grow]; rfl⟩
end Go.Proofs
end

/- Rake: is a list an order? -/
section
set_option maxRecDepth 100000
set_option linter.unusedSimpArgs false
namespace Go.Cw
open Go Go.Proofs Go.Sort

theorem clone_empty : APure Pg fn_slices_Clone_int_int [L []] (L []) := by
  refine APure.of_nil ⟨⟨_, _, Tryz.func68, rfl, rfl⟩, fun Z μ g w cargs S hsz hv => ?_⟩
  obtain ⟨x, rfl⟩ : ∃ x, cargs = #[x] := by
    match cargs, hsz with
    | ⟨[x]⟩, _ => exact ⟨x, rfl⟩
  have h3 := (VPre_cons.1 hv).1
  unfold L at h3
  simp only [VRel] at h3
  obtain ⟨a, cap, rfl, _⟩ := h3
  refine Calls.mono' (Tryz.clone0 a cap w) ?_
  rintro e w' ⟨⟨o', c', rfl⟩, q, os, rfl⟩
  obtain ⟨S', T⟩ := S.grown q os
  exact ⟨Z, μ, g, .ret (L []), _, rfl, ⟨_, by unfold L; simp only [VRel]; exact ⟨o', c', rfl, by simp, .inl rfl⟩, rfl⟩, S', T⟩
theorem Len64_zero : APure Pg fn_math_bits_Len64 [.int .u64 0] (.int .i64 0) := by
  have w0 : IntKind.u8.wrap 0 = 0 := rfl
  refine math_bits_Len64.pure (by simp) ?_
  simp [w0]
  exact ⟨by unfold Fits; omega, RetV.refl rfl⟩
theorem Len_zero : APure Pg fn_math_bits_Len [.int .u64 0] (.int .i64 0) := by
  refine math_bits_Len.pure (by simp) ?_
  simp
  refine FCall.pure (PInv.func Len64_zero) ?_
  simp
  exact RetV.refl rfl
theorem insertion_empty : APure Pg fn_slices_insertionSortOrdered_int [L [], .int .i64 0, .int .i64 0] (.tup []) := by
  refine slices_insertionSortOrdered_int.pure (by simp) ?_
  simp
  refine ⟨by unfold Fits; omega, ?_⟩
  refine Lp.intro (σ := Unit) (inv := fun _ => True) (vw := fun _ => [(2, .int .i64 0), (6, .int .i64 1)]) (hp := fun _ => []) (ms := fun _ => 0) () trivial (by simp) (by simp) ?_
  intro _ _ J hJ
  simp
  refine hJ.exit ?_
  simp
  exact RetV.refl rfl
theorem pdq_empty : APure Pg fn_slices_pdqsortOrdered_int [L [], .int .i64 0, .int .i64 0, .int .i64 0] (.tup []) := by
  refine slices_pdqsortOrdered_int.pure (by simp) ?_
  simp
  refine Lp.intro (σ := Unit) (inv := fun _ => True) (vw := fun _ => [(0, L []), (1, .int .i64 0), (2, .int .i64 0), (3, .int .i64 0)]) (hp := fun _ => []) (ms := fun _ => 0) () trivial (by simp) (by simp) ?_
  intro _ _ J hJ
  simp
  refine ⟨by unfold Fits; omega, ?_⟩
  refine FCall.pure (PInv.func insertion_empty) ?_
  simp
  refine hJ.ret ?_
  simp
  exact RetV.refl rfl
theorem sort_empty : APure Pg fn_slices_Sort_int_int [L []] (.tup []) := by
  have w0 : IntKind.u64.wrap 0 = 0 := rfl
  refine slices_Sort_int_int.pure (by simp) ?_
  simp [w0]
  refine FCall.pure (PInv.func Len_zero) ?_
  simp
  refine FCall.pure (PInv.func pdq_empty) ?_
  simp
  exact RetV.refl rfl
theorem clone_L (b : List Int) (hb : b ≠ []) (hl : b.length ≤ 100000) (nm : Nat) (K : AEnd → Heap → Prop)
    (hK : ∀ s', K (.ret (.sl nm 0 s' b.length (.gr 1))) (hpV [(nm, .row (ints b) s')])) : ACalls Pg fn_slices_Clone_int_int [L b] (hpV [(nm, .dead)]) K := by
  have h0 : b.length ≠ 0 := by simpa using hb
  obtain ⟨F, hF⟩ : ∃ F, nm < F := ⟨nm + 1, by omega⟩
  have e3 : ∀ k, ¬ F + k = nm := fun k => by omega
  have e4 : ∀ k, ¬ nm = F + k := fun k => by omega
  refine slices_Clone_int_int.enter F (by simp) ?_
  have hnil : isNil .s (L b) = some false := isNil_vl h0 _
  simp [hnil, e3, e4, h0]
  intro s5 s7
  refine xAp_cp (by simp) (by simp) (by omega) ?_
  simp [cpV, cpO, h0, e3, e4]
  refine RetV.move (F + 7) nm (RetV.view [(nm, .row (ints b) (s7 + 1))] (by simp [e3, e4]) ?_)
  simpa using hK (s7 + 1)

namespace Rk
theorem sorted_end {l : List Int} (h : ∀ (j : Nat) (x : Int), l[j]? = some x → x = (j : Int)) : l = toI (List.range l.length) := by
  apply List.ext_getElem?
  intro j
  by_cases hj : j < l.length
  · rw [List.getElem?_eq_getElem hj, h j _ (List.getElem?_eq_getElem hj)]
    simp [toI, hj]
  · rw [List.getElem?_eq_none (by omega), List.getElem?_eq_none (by simp [toI]; omega)]
end Rk
theorem rake_isOrder_ok (r : Rak) (hs : r.Small) (o : List Int) (ho : o.length ≤ 40) : APure Pg fn_rake_isOrder [r.v, L o] (.bool (decide (Rk.IsOrd r.n o))) := by
  have hf40 := hs.f
  have hfn : r.f.length = r.n := rfl
  by_cases h0 : o = []
  · subst h0
    refine rake_isOrder.pure (by simp) ?_
    simp
    intro s2
    refine FCall.pure (PInv.func clone_empty) ?_
    simp
    refine FCall.pure (PInv.func sort_empty) ?_
    simp
    refine Lp.intro (σ := Unit) (inv := fun _ => True) (vw := fun _ => [(1, L []), (2, .ptr 2 0 (s2+1)), (12, L []), (13, .int .i64 0), (14, .int .i64 0)]) (hp := fun _ => [(2, .row r.cells (s2+1))]) (ms := fun _ => 0) () trivial (by simp) (by simp [Rak.cells]) ?_
    intro _ _ J hJ
    simp
    refine hJ.exit ?_
    simp [Rak.cells]
    refine RetV.refl ?_
    refine congrArg (fun b => AEnd.ret (AVal.bool b)) ?_
    rw [Bool.eq_iff_iff, decide_eq_true_eq, decide_eq_true_eq]
    constructor
    · intro h
      exact ⟨by simp; omega, by simp, by simp⟩
    · rintro ⟨h, _⟩
      simp at h; omega
  have hop := List.length_pos_iff.2 h0
  refine rake_isOrder.pure (by simp) ?_
  simp
  intro s2
  refine FCall.cps [(500, .dead)] (fun s : Nat => .sl 500 0 s o.length (.gr 1)) (fun s => [(500, .row (ints o) s)]) (fun _ => True) (fun K' hK' => AInvoke.func (clone_L o h0 (by omega) 500 K' fun s' => hK' s' trivial)) (by simp) (fun _ => rfl) trivial (fun s5 _ => ⟨trivial, ?_⟩)
  simp
  refine FCall.cps (σ := Unit) [(500, .row (ints o) s5)] (fun _ => .tup []) (fun _ => [(500, .row (ints (sortI o)) s5)]) (fun _ => True) (fun K k => AInvoke.func (slices_Sort_int_int.c (by omega) (k () trivial))) (by simp) (fun _ => rfl) trivial (fun _ _ => ⟨trivial, ?_⟩)
  have hsl := sortI_length o
  obtain ⟨m, hm⟩ : ∃ m, m = sortI o := ⟨_, rfl⟩
  rw [← hm] at hsl ⊢
  simp
  refine Lp.intro' (σ := Nat) (inv := fun k => k ≤ m.length ∧ ∀ (j : Nat) (x : Int), j < k → m[j]? = some x → x = (j : Int)) (vw := fun k => [(1, L o), (2, .ptr 2 0 (s2+1)), (12, L m), (13, .int .i64 m.length), (14, .int .i64 k)]) (hp := fun _ => [(2, .row r.cells (s2+1))]) (ms := fun k => m.length - k) 0 ⟨by omega, fun j x h => by omega⟩
    (Sl.frz 500 (cells := ints m) (s := s5) (by simp) (Sl.refl ⟨rfl, by simp [hsl, L], by simp [Rak.cells]⟩)) ?_
  rintro k ⟨hk, inv⟩ J hJ
  have hle : (∀ (j : Nat) (x : Int), m[j]? = some x → x = (j : Int)) ↔ m = Rk.toI (List.range m.length) := by
    constructor
    · exact fun h => Rk.sorted_end h
    · intro h j x hj
      rw [h] at hj
      rw [Rk.toI, List.getElem?_map] at hj
      by_cases hjm : j < m.length
      · rw [List.getElem?_range hjm] at hj
        simpa using hj.symm
      · rw [List.getElem?_eq_none (by simp; omega)] at hj
        cases hj
  by_cases hkc : k < m.length
  · obtain ⟨x, hx⟩ : ∃ x, m[k] = x := ⟨_, rfl⟩
    by_cases hxk : x = (k : Int)
    · simp [hkc, hx, hxk]
      (repeat first | refine And.intro (by omega) ?_ | refine And.intro (Fits.of (by omega) (by omega)) ?_)
      refine hJ.next (k + 1) ⟨by omega, fun j y hj hy => ?_⟩ (by omega) (by simp) (by simp)
      by_cases e : j = k
      · subst e
        obtain rfl : x = y := by simpa [hkc, hx] using hy
        exact hxk
      · exact inv j y (by omega) hy
    · simp [hkc, hx, show ¬ (k : Int) = x from fun h => hxk h.symm]
      refine hJ.ret ?_
      simp
      refine RetV.refl ?_
      have hno : ¬ Rk.IsOrd r.n o := fun h => hxk (by
        have h1 := (Rk.ord_sort h.1).1 h
        rw [← hm, ← h.1, ← hsl] at h1
        exact hle.2 h1 k x (by rw [List.getElem?_eq_getElem hkc, hx]))
      simp [hno]
  obtain rfl : k = m.length := by omega
  simp [Rak.cells]
  refine hJ.exit ?_
  simp
  refine RetV.refl ?_
  refine congrArg (fun b => AEnd.ret (AVal.bool b)) ?_
  rw [Bool.eq_iff_iff, decide_eq_true_eq, decide_eq_true_eq]
  constructor
  · intro h
    have hl : o.length = r.n := by omega
    rw [Rk.ord_sort hl, ← hm, ← hl, ← hsl]
    refine hle.1 fun j x hj => inv j x ?_ hj
    rw [List.getElem?_eq_some_iff] at hj
    exact hj.1
  · intro h
    have := h.1
    omega
end Go.Cw
end

/- Rake: Cost. -/
section
set_option maxRecDepth 100000
set_option linter.unusedSimpArgs false
namespace Go.Cw
open Go Go.Proofs

theorem Rak.ask_iff {r : Rak} (hf : r.f.length ≤ 40) {o : List Int} {s : Int} : r.Ask o s ↔ Rk.IsOrd r.n o ∧ 0 ≤ s ∧ s / 2 ^ r.f.length = 0 := by
  have hp := two_pow_pos r.f.length
  have hfn0 : r.f.length = r.n := rfl
  unfold Rak.Ask
  refine and_congr_right fun _ => and_congr_right fun h0 => ?_
  constructor
  · intro h
    exact Int.ediv_eq_zero_of_lt h0 h
  · intro h
    have := Int.lt_ediv_add_one_mul_self s hp
    rw [h] at this
    have e : (0 + 1) * (2 : Int) ^ r.f.length = 2 ^ r.n := by rw [hfn0]; omega
    omega
theorem rake_Cost_ok (r : Rak) (hs : r.Small) (o : List Int) (ho : o.length ≤ 40) (s : Int) : APure Pg fn_rake_Cost [r.v, L o, .int .i64 s] (r.costV o s) := by
  have hf40 := hs.f
  have hfn : r.f.length = r.n := rfl
  have hmin : (min (r.f.length : Int) 62).toNat = r.f.length := by omega
  have cI := rake_isOrder_ok r hs o ho
  obtain ⟨b, hb⟩ : ∃ b, b = decide (r.Ask o s) := ⟨_, rfl⟩
  have hask := Rak.ask_iff (r := r) hf40 (o := o) (s := s)
  refine rake_Cost.pure (by simp) ?_
  simp
  intro s1 s2
  refine PCallK.intro (PInv.func (first := []) (cap := []) (args := [r.v, L o]) cI) ?_
  by_cases he : ¬ r.errE [] b = 0
  · have hV : r.costV o s = .tup [.int .i64 0, .int .i64 (r.errE [] b)] := by
      unfold Rak.costV Rak.costP
      rw [← hb, if_neg he]
    rw [hV]
    by_cases h1 : Rk.IsOrd r.n o
    · by_cases h2 : 0 ≤ s
      · by_cases h3 : s / 2 ^ r.f.length = 0
        · have hb' : b = true := by rw [hb, decide_eq_true_eq, hask]; exact ⟨h1, h2, h3⟩
          rw [hb'] at he ⊢
          simp [h1, h2, hmin, h3]
          refine ⟨by omega, ?_⟩
          refine FCall.pan' (rake_open0_pan r hs true he) (by simp) ?_
          simp
          refine RetD.panic rfl rake_Cost_1.recClo ?_
          refine ACalls.cps [(7, .row [.int .i64 0] (s2 + 1))] (fun _ : Unit => .tup []) (fun _ => [(7, .row [.int .i64 (r.errE [] true)] (s2 + 1))]) (fun _ => True) (fun K' hK' => rake_said_ref _ _ _ _ K' (hK' () trivial)) (by simp) (fun _ => rfl) fun _ _ => ?_
          simp
          exact RetV.refl rfl
        · have hb' : b = false := by rw [hb, decide_eq_false_iff_not, hask]; exact fun h => h3 h.2.2
          rw [hb'] at he ⊢
          simp [h1, h2, hmin, h3]
          refine ⟨by omega, ?_⟩
          refine FCall.pan' (rake_open0_pan r hs false he) (by simp) ?_
          simp
          refine RetD.panic rfl rake_Cost_1.recClo ?_
          refine ACalls.cps [(7, .row [.int .i64 0] (s2 + 1))] (fun _ : Unit => .tup []) (fun _ => [(7, .row [.int .i64 (r.errE [] false)] (s2 + 1))]) (fun _ => True) (fun K' hK' => rake_said_ref _ _ _ _ K' (hK' () trivial)) (by simp) (fun _ => rfl) fun _ _ => ?_
          simp
          exact RetV.refl rfl
      · have hb' : b = false := by rw [hb, decide_eq_false_iff_not, hask]; exact fun h => h2 h.2.1
        rw [hb'] at he ⊢
        simp [h1, h2]
        refine FCall.pan' (rake_open0_pan r hs false he) (by simp) ?_
        simp
        refine RetD.panic rfl rake_Cost_1.recClo ?_
        refine ACalls.cps [(7, .row [.int .i64 0] (s2 + 1))] (fun _ : Unit => .tup []) (fun _ => [(7, .row [.int .i64 (r.errE [] false)] (s2 + 1))]) (fun _ => True) (fun K' hK' => rake_said_ref _ _ _ _ K' (hK' () trivial)) (by simp) (fun _ => rfl) fun _ _ => ?_
        simp
        exact RetV.refl rfl
    · have hb' : b = false := by rw [hb, decide_eq_false_iff_not, hask]; exact fun h => h1 h.1
      rw [hb'] at he ⊢
      simp [h1]
      refine FCall.pan' (rake_open0_pan r hs false he) (by simp) ?_
      simp
      refine RetD.panic rfl rake_Cost_1.recClo ?_
      refine ACalls.cps [(7, .row [.int .i64 0] (s2 + 1))] (fun _ : Unit => .tup []) (fun _ => [(7, .row [.int .i64 (r.errE [] false)] (s2 + 1))]) (fun _ => True) (fun K' hK' => rake_said_ref _ _ _ _ K' (hK' () trivial)) (by simp) (fun _ => rfl) fun _ _ => ?_
      simp
      exact RetV.refl rfl
  replace he := Classical.not_not.1 he
  obtain ⟨hv, _, hbt, hne⟩ := Rak.errE_zero.1 he
  rw [hbt] at he
  have hA : r.Ask o s := by rw [hb, decide_eq_true_eq] at hbt; exact hbt
  obtain ⟨h1, h2, h3⟩ := hask.1 hA
  have hSl := Rak.S_len hv
  have hH7 : ∀ h, (Rk.Hc r.F r.n r.S)[7]'h = L r.S := fun h => by simp [Rk.Hc]
  have hH8 := Rak.Hc_len r.F r.n r.S
  have cC := slices_Contains_ok r.S (by omega) s
  have hV : r.costV o s = if s ∈ r.S then .tup [.int .i64 (Rk.costL r.F (Rk.toN o) r.S s), .int .i64 0] else .tup [.int .i64 0, .int .i64 4] := by
    unfold Rak.costV Rak.costP
    rw [← hb, hbt, if_pos he]
    split <;> rfl
  rw [hV]
  simp [h1, h2, hmin, h3]
  refine ⟨by omega, ?_⟩
  refine FCall.pure' (rake_open0 r hs he) (by simp) (by simp) ?_
  by_cases hin : s ∈ r.S
  · obtain ⟨o', ho', e⟩ := Rk.ord_iff.1 h1
    obtain ⟨m1, m2, m3⟩ := Rk.mem_all.1 ho'
    have cK := rake_hull_cost_ok hv.n6 (Rak.F_in hv) (by omega) (Rak.S_in hv) o' m2 m3 s (Rak.S_in hv s hin)
    rw [← e, ← Rk.toN_toI o', ← e] at cK
    simp [hH7, hH8]
    intro s3
    refine FCall.pure (PInv.func cC) ?_
    simp [hin]
    refine FCall.pure (PInv.func (rake_want_ok 4)) ?_
    simp
    refine PCallK.intro (PInv.func cK) ?_
    simp
    refine RetD.ret rfl rake_Cost_1.recClo ((rake_said_nil _ _).mono ?_)
    rintro e h' ⟨rfl, rfl⟩
    simp
    exact RetV.refl rfl
  · simp [hH7, hH8]
    intro s3
    refine FCall.pure (PInv.func cC) ?_
    simp [hin]
    refine FCall.pan (PInvPan.func (rake_want_pan 4)) ?_
    simp
    refine RetD.panic rfl rake_Cost_1.recClo ?_
    refine ACalls.cps [(7, .row [.int .i64 0] (s2 + 1))] (fun _ : Unit => .tup []) (fun _ => [(7, .row [.int .i64 4] (s2 + 1))]) (fun _ => True) (fun K' hK' => rake_said_ref _ _ _ _ K' (hK' () trivial)) (by simp) (fun _ => rfl) fun _ _ => ?_
    simp
    exact RetV.refl rfl
end Go.Cw
end

/- Rake: all orders, one after the other. -/
section
set_option maxRecDepth 100000
set_option linter.unusedSimpArgs false
namespace Go.Cw
open Go Go.Proofs

namespace Rk
theorem fr_upto {n : Nat} {b : List Nat} {k : Nat} (hk : k < n) : (fr n b).filter (fun i => decide (i < k + 1)) = (fr n b).filter (fun i => decide (i < k)) ++ if k ∈ b then [] else [k] := by
  unfold fr
  rw [List.filter_filter, List.filter_filter]
  have e : ∀ m : Nat, m ≤ n → (List.range n).filter (fun i => decide (i < m) && !b.contains i) = (List.range m).filter (fun i => !b.contains i) := by
    intro m hm
    obtain ⟨d, rfl⟩ := Nat.exists_eq_add_of_le hm
    have e1 : (List.range m).filter (fun i => decide (i < m) && !b.contains i) = (List.range m).filter (fun i => !b.contains i) := List.filter_congr fun i hi => by simp [List.mem_range.1 hi]
    have e2 : ((List.range d).map (m + ·)).filter (fun i => decide (i < m) && !b.contains i) = [] := List.filter_eq_nil_iff.2 fun i hi => by
      obtain ⟨x, _, rfl⟩ := List.mem_map.1 hi
      simp
      intro h; omega
    rw [List.range_add, List.filter_append, e1, e2, List.append_nil]
  rw [e (k + 1) (by omega), e k (by omega), List.range_succ, List.filter_append]
  by_cases h : k ∈ b <;> simp [h]
/-- The orders that go on by a seam below a number. -/
def ordsTo (n j : Nat) (b : List Nat) (k : Nat) : List (List Nat) := ((fr n b).filter fun i => decide (i < k)).flatMap fun i => ords n j (b ++ [i])
theorem ordsTo_zero (n j : Nat) (b : List Nat) : ordsTo n j b 0 = [] := by
  unfold ordsTo; rw [List.filter_eq_nil_iff.2 (by simp)]; rfl
theorem ordsTo_all (n j : Nat) (b : List Nat) : ordsTo n j b n = ords n (j + 1) b := by
  unfold ordsTo; rw [List.filter_eq_self.2 fun i hi => by simpa using (mem_fr.1 hi).1]; rfl
theorem ordsTo_succ {n j : Nat} {b : List Nat} {k : Nat} (hk : k < n) : ordsTo n j b (k + 1) = ordsTo n j b k ++ if k ∈ b then [] else ords n j (b ++ [k]) := by
  unfold ordsTo
  rw [fr_upto hk, List.flatMap_append]
  split <;> simp
/-- A list, or none. -/
def bV (b : List Nat) : AVal := if b = [] then .nils else L (toI b)
/-- The function that calls itself. -/
def oV (H : AVal) (sy s : Nat) : AVal := .func (.func fn_rake_hull_orders_1_1) [] [.pv [H], .ptr 302 0 sy, .ptr 303 0 s]
theorem take_set (A B : List AVal) (v : AVal) : (setRange (A ++ B) A.length [v]).take (A.length + 1) = A ++ [v] := by
  rw [setRange_app, ← List.append_assoc, List.take_left' (by simp)]
theorem toI_len (b : List Nat) : (toI b).length = b.length := by simp [toI]
theorem mem_toI {b : List Nat} {k : Nat} : (k : Int) ∈ toI b ↔ k ∈ b := by
  unfold toI
  rw [List.mem_map]
  constructor
  · rintro ⟨i, hi, e⟩
    obtain rfl : i = k := by omega
    exact hi
  · exact fun h => ⟨k, h, rfl⟩
end Rk
theorem rake_orders_on_ok {n : Nat} (hn1 : 1 ≤ n) (hn : n ≤ 6) (f : Nat → Int) (S : List Int) {τ : Type} (row : τ → List (Nat × AObj)) (hb : RowsB row 300) (pr : τ → List (List Nat)) (yr ys : Nat)
    (hy : ∀ t x (K : AEnd → Heap → Prop), x.length = n → x.Nodup → (∀ i ∈ x, i < n) → (∀ t', pr t' = pr t ++ [x] → K (.ret (.bool true)) (hpV (row t'))) → AInvoke Pg (.yield yr ys) [L (Rk.toI x)] (hpV (row t)) K) (s sy : Nat) :
    ∀ (j : Nat) (b : List Nat) (t₀ : τ), b.length + j = n → b.Nodup → (∀ i ∈ b, i < n) →
    ∀ K : AEnd → Heap → Prop, (∀ t, pr t = pr t₀ ++ Rk.ords n j b → K (.ret (.bool true)) (hpV ((303, .row [Rk.oV (.pv (Rk.Hc f n S)) sy s] s) :: (302, .row [.yield yr ys] sy) :: row t))) →
      ACalls Pg fn_rake_hull_orders_1_1 [Rk.bV b, .pv [.pv (Rk.Hc f n S)], .ptr 302 0 sy, .ptr 303 0 s] (hpV ((303, .row [Rk.oV (.pv (Rk.Hc f n S)) sy s] s) :: (302, .row [.yield yr ys] sy) :: row t₀)) K := by
  obtain ⟨H, hH⟩ : ∃ H, H = Rk.Hc f n S := ⟨_, rfl⟩
  have hH6 : ∀ h, H[6]'h = .int .i64 n := fun h => by subst hH; simp [Rk.Hc]
  have hHl : H.length = 8 := by subst hH; rfl
  rw [← hH]
  intro j
  induction j with
  | zero =>
    intro b t₀ hbn hnd hbb K hK
    have hbl : b.length = n := hbn
    have hb0 : ¬ b = [] := by intro e; rw [e] at hbl; simp at hbl; omega
    rw [show Rk.ords n 0 b = [b] from rfl] at hK
    refine rake_hull_orders_1_1.enter 320 (by simp) ?_
    simp [Rk.bV, hb0, Rk.toI_len, hHl, hH6, hbl]
    refine FCall.cps (σ := {t' : τ // pr t' = pr t₀ ++ [b]}) (row t₀) (fun _ => .bool true) (fun t' => row t'.1) (fun _ => True) (fun K' hK' => hy t₀ b K' hbl hnd hbb fun t' ht' => hK' ⟨t', ht'⟩ trivial) (by simp [hb.upd, hb.self]) (fun t' => hb.hn _ _) (by simp) (fun t' _ => ⟨by simp, ?_⟩)
    obtain ⟨t', ht'⟩ := t'
    simp
    refine RetV.view ((303, .row [Rk.oV (.pv H) sy s] s) :: (302, .row [.yield yr ys] sy) :: row t') (by simp [hb.upd, hb.updL, hb.updL_self]) ?_
    exact hK t' ht'
  | succ j ih =>
    intro b t₀ hbn hnd hbb K hK
    have hbl : ¬ b.length = n := by omega
    rw [← Rk.ordsTo_all] at hK
    have hbln : b.length ≤ 5 := by omega
    obtain ⟨me, hme⟩ : ∃ me, me = Rk.oV (.pv H) sy s := ⟨_, rfl⟩
    rw [← hme] at hK ih ⊢
    have hbV : (Rk.bV b = .nils ∧ b = []) ∨ (Rk.bV b = L (Rk.toI b) ∧ b ≠ []) := by
      unfold Rk.bV; by_cases h : b = []
      · left; simp [h]
      · right; simp [h]
    have hlenb : aLen (Rk.bV b) = some (.int .i64 b.length) := by
      rcases hbV with ⟨e, rfl⟩ | ⟨e, _⟩ <;> rw [e]
      · rfl
      · simp [Rk.toI_len]
    have hac : acells (Rk.bV b) = some [Rk.bV b] := by
      rcases hbV with ⟨e, _⟩ | ⟨e, _⟩ <;> rw [e] <;> rfl
    have hale : ALe (Rk.bV b) (L (Rk.toI b)) := by
      rcases hbV with ⟨e, rfl⟩ | ⟨e, _⟩ <;> rw [e]
      · exact ALe.nils_vl
      · exact ALe.refl _
    have cC : ∀ k : Nat, PInv Pg (.func (.func fn_slices_Contains_int_int) [] []) [Rk.bV b, .int .i64 k] (.bool (decide (k ∈ b))) := fun k hh => by
      have := slices_Contains_ok (Rk.toI b) (by rw [Rk.toI_len]; omega) k
      rw [show decide ((k : Int) ∈ Rk.toI b) = decide (k ∈ b) from decide_eq_decide.2 Rk.mem_toI] at this
      exact AInvoke.ale (ALe.refl _) (args' := [L (Rk.toI b), .int .i64 k]) ⟨hale, ALe.refl _, trivial⟩ (PInv.func (first := []) (cap := []) (args := [L (Rk.toI b), .int .i64 k]) this hh)
    refine rake_hull_orders_1_1.enter 320 (by simp) ?_
    simp [hlenb, hac, hHl, hH6, hbl]
    refine Lp.intro (σ := Nat × τ) (inv := fun x => x.1 ≤ n ∧ pr x.2 = pr t₀ ++ Rk.ordsTo n j b x.1)
      (vw := fun x => [(0, Rk.bV b), (1, .pv [.pv H]), (2, .ptr 302 0 sy), (3, .ptr 303 0 s), (21, .int .i64 n), (22, .int .i64 x.1)])
      (hp := fun x => (303, .row [me] s) :: (302, .row [.yield yr ys] sy) :: row x.2)
      (ms := fun x => n - x.1) (0, t₀) (by simp [Rk.ordsTo_zero]) (by simp) (by simp [hb.upd, hb.self]) ?_
    rintro ⟨k, t⟩ ⟨hk, hpt⟩ J hJ
    simp only at hk hpt
    by_cases hkc : k < n
    · have hst := Rk.ordsTo_succ (j := j) (b := b) hkc
      simp [hkc, hb.upd, hb.self]
      refine FCall.pure (cC k) ?_
      by_cases hkb : k ∈ b
      · rw [if_pos hkb, List.append_nil] at hst
        simp [hkb]
        (repeat first | refine And.intro (by omega) ?_ | refine And.intro (Fits.of (by omega) (by omega)) ?_)
        exact hJ.next (k + 1, t) ⟨by simp; omega, by simp only [hst]; exact hpt⟩ (by simp; omega) (by simp) (by simp [hb.upd, hb.self])
      · rw [if_neg hkb] at hst
        simp [hkb, hlenb, hHl, hH6]
        obtain ⟨b2, hb2⟩ : ∃ b2, b2 = b ++ [k] := ⟨_, rfl⟩
        have hb2l : b2.length = b.length + 1 := by rw [hb2]; simp
        have hb2V : Rk.bV b2 = L (Rk.toI b2) := by
          unfold Rk.bV; rw [if_neg]; intro e; rw [e] at hb2l; simp at hb2l
        have hb2n : b2.Nodup := by
          rw [hb2, List.nodup_append]
          exact ⟨hnd, by simp, fun a ha c hc => by simp at hc; subst hc; exact fun e => hkb (e ▸ ha)⟩
        have hb2b : ∀ i ∈ b2, i < n := fun i hi => by
          rw [hb2] at hi
          rcases List.mem_append.1 hi with h | h
          · exact hbb i h
          · simp at h; omega
        rw [← hb2] at hst
        have call : ∀ (cs : List AVal) (s5 : Nat) (d' : Option Nat) (KK : KT) (Q : Post) (tm : TM) (df : DF) (h : Heap), cs.take (b.length + 1) = ints (Rk.toI b2) → Hw ((354, .row cs s5) :: (303, .row [me] s) :: (302, .row [.yield yr ys] sy) :: row t) h →
            (∀ t', pr t' = pr t ++ Rk.ords n j b2 → KK (putD tm d' (.bool true)) df (updL h ((354, .dead) :: (303, .row [me] s) :: (302, .row [.yield yr ys] sy) :: row t'))) →
            FCall ⟨Pg, 320, 46, false, []⟩ me [.sl 354 0 s5 (b.length + 1) (.ex n)] [] [] d' KK Q tm df h := by
          intro cs s5 d' KK Q tm df h hcs hw hk
          refine FCall.cps (σ := {t' : τ // pr t' = pr t ++ Rk.ords n j b2}) ((354, .row cs s5) :: (303, .row [me] s) :: (302, .row [.yield yr ys] sy) :: row t) (fun _ => .bool true) (fun t' => (354, .dead) :: (303, .row [me] s) :: (302, .row [.yield yr ys] sy) :: row t'.1) (fun _ => True) ?_ hw (fun t' => by simp [hb.hn t'.1 t]) trivial (fun t' _ => ⟨trivial, hk t'.1 t'.2⟩)
          intro K' hK'
          refine AInvoke.frz (cells := cs) (s := s5) 354 (upd_same _ _ _) ?_
          have dead : ∀ t'', hpV ((303, .row [me] s) :: (302, .row [.yield yr ys] sy) :: row t'') 354 = .dead := fun t'' => by
            rw [hpV_cons, upd_ne _ _ (by omega), hpV_cons, upd_ne _ _ (by omega)]; exact hb.hpV (by omega) t''
          have := ih b2 t (by omega) hb2n hb2b K' (fun t' ht' => by
            have := hK' ⟨t', ht'⟩ trivial
            rw [hpV_cons, upd_dead (dead t')] at this
            exact this)
          rw [hpV_cons, upd_upd, upd_dead (dead t)]
          rw [hb2V] at this
          have hfme : frz 354 s5 cs me = me := by rw [hme]; simp [Rk.oV]
          have e2 : frzL 354 s5 cs [.sl 354 0 s5 (b.length + 1) (.ex n)] = [.vl (b.length + 1) cs] := by simp
          rw [hfme, e2]
          have key : AInvoke Pg (Rk.oV (.pv H) sy s) [L (Rk.toI b2)] (hpV ((303, .row [me] s) :: (302, .row [.yield yr ys] sy) :: row t)) K' := AInvoke.func (by simpa using this)
          rw [← hme] at key
          have ea : ALe (.vl (b.length + 1) cs) (L (Rk.toI b2)) := by
            have h1 : L (Rk.toI b2) = .vl (b.length + 1) (cs.take (b.length + 1)) := by rw [hcs]; unfold L; rw [Rk.toI_len, hb2l]
            rw [h1]
            exact ALe.vl_take _
          exact AInvoke.ale (ALe.refl _) (args' := [L (Rk.toI b2)]) ⟨ea, trivial⟩ key
        have d361 : ∀ t'', hpV (row t'') 361 = .dead := fun t'' => hb.hpV (by omega) t''
        intro s34
        refine ⟨⟨by omega, by omega, by omega⟩, ?_⟩
        rcases hbV with ⟨e, hb0⟩ | ⟨e, hb0⟩
        · have hbl0 : b.length = 0 := by rw [hb0]; rfl
          rw [e]
          simp [hb.upd, hb.self]
          refine ⟨d361 t, fun s1 s2 => ⟨⟨by omega, by omega⟩, fun _ => ⟨by omega, ?_⟩, fun hx => by omega⟩⟩
          refine call (setRange (List.replicate n (AVal.int .i64 0)) b.length [AVal.int .i64 k]) _ _ _ _ _ _ _ ?_ (by simp [hb.upd, hb.self]) fun t' ht' => ?_
          · rw [hbl0, hb2, hb0]
            obtain ⟨m, hm⟩ : ∃ m, n = m + 1 := ⟨n - 1, by omega⟩
            rw [hm, List.replicate_succ]
            rfl
          simp
          (repeat first | refine And.intro (by omega) ?_ | refine And.intro (Fits.of (by omega) (by omega)) ?_)
          exact hJ.next (k + 1, t') ⟨by simp; omega, by simp only [hst]; rw [ht', hpt, List.append_assoc]⟩ (by simp; omega) (by simp [e]) (by simp [hb.upd, hb.updL, hb.updL_self])
        · have hl : List.take b.length (Rk.toI b) = Rk.toI b := List.take_of_length_le (by rw [Rk.toI_len]; omega)
          have hX : setRange (List.replicate n (AVal.int IntKind.i64 0)) 0 (ints (Rk.toI b)) = ints (Rk.toI b) ++ (List.replicate n (AVal.int IntKind.i64 0)).drop b.length := by simp [setRange, Rk.toI_len]
          have hcs : (setRange (setRange (List.replicate n (AVal.int IntKind.i64 0)) 0 (ints (List.take b.length (Rk.toI b)))) b.length [AVal.int IntKind.i64 k]).take (b.length + 1) = ints (Rk.toI b2) := by
            rw [hl, hX]
            have h1 := Rk.take_set (ints (Rk.toI b)) ((List.replicate n (AVal.int IntKind.i64 0)).drop b.length) (.int .i64 k)
            rw [show (ints (Rk.toI b)).length = b.length by simp [Rk.toI_len]] at h1
            rw [h1]
            simp [hb2, Rk.toI]
          have hsl : (setRange (List.replicate n (AVal.int IntKind.i64 0)) 0 (ints (List.take b.length (Rk.toI b)))).length = n := by
            rw [hl, hX]
            simp [Rk.toI_len]; omega
          rw [e]
          simp [hb.upd, hb.self, Rk.toI_len, hsl]
          refine ⟨by omega, d361 t, fun s1 s2 => ⟨⟨by omega, by omega⟩, fun _ => ⟨by omega, ?_⟩, fun hx => by omega⟩⟩
          refine call _ _ _ _ _ _ _ _ hcs (by simp [hb.upd, hb.self]) fun t' ht' => ?_
          simp
          (repeat first | refine And.intro (by omega) ?_ | refine And.intro (Fits.of (by omega) (by omega)) ?_)
          exact hJ.next (k + 1, t') ⟨by simp; omega, by simp only [hst]; rw [ht', hpt, List.append_assoc]⟩ (by simp; omega) (by simp [e]) (by simp [hb.upd, hb.updL, hb.updL_self])
    obtain rfl : k = n := by omega
    simp [hb.upd, hb.self]
    refine hJ.exit ?_
    simp
    refine RetV.view ((303, .row [me] s) :: (302, .row [.yield yr ys] sy) :: row t) (by simp [hb.upd, hb.self]) ?_
    exact hK t hpt
end Go.Cw
end

/- Rake: what an order costs at most; the best of some orders looks at one more. -/
section
set_option maxRecDepth 100000
set_option linter.unusedSimpArgs false
namespace Go.Cw
open Go Go.Proofs

theorem rake_hull_orders_ok (n : Nat) (f : Nat → Int) (S : List Int) : APure Pg fn_rake_hull_orders [.pv (Rk.Hc f n S)] (.func (.func fn_rake_hull_orders_1) [] [.pv [.pv (Rk.Hc f n S)]]) := by
  refine rake_hull_orders.pure (by simp) ?_
  simp
  intro s1
  refine RetV.frz 1 (cells := [.pv (Rk.Hc f n S)]) (s := s1 + 1) (by simp) ?_
  simp
  exact RetV.refl rfl
theorem rake_hull_orders_1_ok {n : Nat} (hn1 : 1 ≤ n) (hn : n ≤ 6) (f : Nat → Int) (S : List Int) {τ : Type} (row : τ → List (Nat × AObj)) (hb : RowsB row 300) (pr : τ → List (List Nat)) (yr ys : Nat)
    (hy : ∀ t x (K : AEnd → Heap → Prop), x.length = n → x.Nodup → (∀ i ∈ x, i < n) → (∀ t', pr t' = pr t ++ [x] → K (.ret (.bool true)) (hpV (row t'))) → AInvoke Pg (.yield yr ys) [L (Rk.toI x)] (hpV (row t)) K)
    (t₀ : τ) (h0 : pr t₀ = []) (K : AEnd → Heap → Prop) (hK : ∀ t, pr t = Rk.ords n n [] → K (.ret (.tup [])) (hpV (row t))) :
    ACalls Pg fn_rake_hull_orders_1 [.yield yr ys, .pv [.pv (Rk.Hc f n S)]] (hpV (row t₀)) K := by
  refine rake_hull_orders_1.enter 300 (by simp) ?_
  simp
  intro sy s
  obtain ⟨me, hme⟩ : ∃ me, me = Rk.oV (.pv (Rk.Hc f n S)) (sy + 1) (s + 1) := ⟨_, rfl⟩
  refine FCall.cps (σ := {t' : τ // pr t' = Rk.ords n n []}) ((303, .row [me] (s + 1)) :: (302, .row [.yield yr ys] (sy + 1)) :: row t₀) (fun _ => .bool true) (fun t' => (303, .row [me] (s + 1)) :: (302, .row [.yield yr ys] (sy + 1)) :: row t'.1) (fun _ => True) (fun K' hK' => ?_) ?_ (fun t' => by simp [hb.hn t'.1 t₀]) trivial (fun t' _ => ⟨trivial, ?_⟩)
  · refine AInvoke.func ?_
    have := rake_orders_on_ok hn1 hn f S row hb pr yr ys hy (s + 1) (sy + 1) n [] t₀ (by simp) (by simp) (by simp) K' (fun t' ht' => by
      have := hK' ⟨t', by rw [ht', h0]; rfl⟩ trivial
      rw [hme] at this
      exact this)
    rw [hme]
    simpa [Rk.bV] using this
  · rw [hme]
    simp [hb.upd, hb.self, Rk.oV]
  obtain ⟨t', ht'⟩ := t'
  simp
  refine RetV.view (row t') (by simp [hb.upd, hb.self, hb.updL, hb.updL_self]) ?_
  exact hK t' ht'

/-- An order, as a line. -/
def Rk.lnV (o : List Nat) : List AVal := ints (tab 6 (ofL (Rk.toI o)))
theorem Rk.lnV_take {n : Nat} {o : List Nat} (hol : o.length = n) (hn : n ≤ 6) : (Rk.lnV o).take n = ints (Rk.toI o) := by
  unfold Rk.lnV
  rw [ints_take]
  refine congrArg ints ?_
  apply List.ext_getElem?
  intro i
  have hl : (Rk.toI o).length = n := by rw [Rk.toI_len, hol]
  by_cases hi : i < n
  · have h1 : (tab 6 (ofL (Rk.toI o)))[i]? = some (ofL (Rk.toI o) i) := by simp [tab, show i < 6 by omega]
    rw [List.getElem?_take_of_lt hi, h1, ← ofL_at _ (by omega : i < (Rk.toI o).length), List.getElem?_eq_getElem]
  · rw [List.getElem?_eq_none (by simp; omega), List.getElem?_eq_none (by omega)]
theorem Rk.cost_nonneg {f : Nat → Int} : ∀ {o : List Nat} {l : List Int} {s : Int}, (∀ i ∈ o, 0 ≤ f i) → 0 ≤ Rk.costL f o l s
  | [], _, _, _ => by simp [Rk.costL]
  | i :: o, l, s, h => by
    have h1 := h i (by simp)
    have h2 := Rk.cost_nonneg (o := o) (l := Rk.wl l i (inS s i)) (s := s) fun j hj => h j (by simp [hj])
    unfold Rk.costL
    split <;> omega
theorem Rk.most_to {f : Nat → Int} {o : List Nat} {l S : List Int} {k : Nat} (hk : k < S.length) : Rk.mostL f o l (S.take (k + 1)) = max (Rk.mostL f o l (S.take k)) (Rk.costL f o l S[k]) := by
  unfold Rk.mostL
  rw [← List.take_append_getElem hk, List.foldl_append]
  rfl
theorem rake_Order_2_ok {n : Nat} (hn : n ≤ 6) {f : Nat → Int} (hf : ∀ i, i < n → 0 ≤ f i ∧ f i ≤ 100) {S : List Int} (hl : S.length ≤ 100000) (hS : ∀ s ∈ S, 0 ≤ s ∧ s < 2 ^ n) (o : List Nat) (hol : o.length = n) (ho : o.Nodup) (hon : ∀ i ∈ o, i < n) (s5 : Nat) (K : AEnd → Heap → Prop)
    (hK : K (.ret (.int .i64 (Rk.mostL f o S S))) (hpV [(5, .row [.pv (Rk.Hc f n S)] s5)])) : ACalls Pg fn_rake_Order_2 [.agg (Rk.lnV o), .ptr 5 0 s5] (hpV [(5, .row [.pv (Rk.Hc f n S)] s5)]) K := by
  obtain ⟨H, hH⟩ : ∃ H, H = Rk.Hc f n S := ⟨_, rfl⟩
  have hH6 : ∀ h, H[6]'h = .int .i64 n := fun h => by subst hH; simp [Rk.Hc]
  have hH7 : ∀ h, H[7]'h = L S := fun h => by subst hH; simp [Rk.Hc]
  have hHl : H.length = 8 := by subst hH; rfl
  have hlnl : (Rk.lnV o).length = 6 := by simp [Rk.lnV]
  have hol' : (Rk.toI o).length = n := by rw [Rk.toI_len, hol]
  refine rake_Order_2.enter 700 (by simp) ?_
  rw [← hH] at hK ⊢
  simp [hHl, hH7, hlnl]
  intro s2
  refine Lp.intro' (σ := Nat) (inv := fun k => k ≤ S.length) (vw := fun k => [(1, .ptr 5 0 s5), (2, .pv (Rk.lnV o)), (4, .int .i64 (Rk.mostL f o S (S.take k))), (10, L S), (11, .int .i64 S.length), (12, .int .i64 k)])
    (hp := fun _ => [(5, .row [.pv H] s5)]) (ms := fun k => S.length - k) 0 (by simp)
    (Sl.frz 702 (cells := Rk.lnV o) (s := s2 + 1) (by simp) (Sl.refl ⟨rfl, by simp [Rk.mostL], by simp⟩)) ?_
  intro k hk J hJ
  have hm0 : 0 ≤ Rk.mostL f o S (S.take k) := Rk.most_nonneg
  by_cases hkc : k < S.length
  · obtain ⟨x, hx⟩ : ∃ x, S[k] = x := ⟨_, rfl⟩
    have hxS : x ∈ S := by rw [← hx]; simp
    have cK := rake_hull_cost_ok hn hf hl hS o ho hon x (hS x hxS)
    rw [← hH] at cK
    have hst := Rk.most_to (f := f) (o := o) (l := S) hkc
    rw [hx] at hst
    simp [hkc, hx, hHl, hH6, hlnl]
    have ea : ALe (.vl n (Rk.lnV o)) (L (Rk.toI o)) := by
      have h1 : L (Rk.toI o) = .vl n ((Rk.lnV o).take n) := by rw [Rk.lnV_take hol hn]; unfold L; rw [hol']
      rw [h1]
      exact ALe.vl_take _
    have cst : 0 ≤ Rk.costL f o S x := Rk.cost_nonneg (fun i hi => (hf i (hon i hi)).1)
    refine ⟨by omega, ?_⟩
    refine PCallK.intro (v := .int .i64 (Rk.costL f o S x)) (fun hh => AInvoke.ale (ALe.refl _) (args' := [.pv H, L (Rk.toI o), .int .i64 x]) ⟨ALe.refl _, ea, ALe.refl _, trivial⟩ (PInv.func (first := []) (cap := []) (args := [.pv H, L (Rk.toI o), .int .i64 x]) cK hh)) ?_
    simp
    intro s25
    refine FCall.cps (σ := Unit) [(725, .row [.int .i64 (Rk.mostL f o S (S.take k)), .int .i64 (Rk.costL f o S x)] (s25 + 1))] (fun _ => .int .i64 (max (Rk.mostL f o S (S.take k)) (max (Rk.costL f o S x) 0))) (fun _ => [(725, .row [.int .i64 (Rk.mostL f o S (S.take k)), .int .i64 (Rk.costL f o S x)] (s25 + 1))]) (fun _ => True)
      (fun K' hK' => AInvoke.func (rake_greatest_ok _ _ 725 (s25 + 1) K' (hK' () trivial))) (by simp) (fun _ => rfl) trivial (fun _ _ => ⟨trivial, ?_⟩)
    have e : max (Rk.mostL f o S (S.take k)) (max (Rk.costL f o S x) 0) = Rk.mostL f o S (S.take (k + 1)) := by rw [hst]; omega
    rw [e]
    simp
    (repeat first | refine And.intro (by omega) ?_ | refine And.intro (Fits.of (by omega) (by omega)) ?_)
    exact hJ.next (k + 1) (by omega) (by omega) (by simp) (by simp)
  obtain rfl : k = S.length := by omega
  simp
  refine hJ.exit ?_
  simp
  exact RetV.view [(5, .row [.pv H] s5)] (by simp) hK
end Go.Cw
end

/- Rake: the best of some orders looks at one more. -/
section
set_option maxRecDepth 100000
set_option linter.unusedSimpArgs false
namespace Go.Cw
open Go Go.Proofs

theorem Rk.lnV_six (o : List Nat) : ∃ a b c d e f, Rk.lnV o = [.int .i64 a, .int .i64 b, .int .i64 c, .int .i64 d, .int .i64 e, .int .i64 f] := ⟨_, _, _, _, _, _, rfl⟩
/-- The best order so far, as cells. -/
def bstO (b : Option (List Nat × Int)) (fv : AVal) : List AVal := .bool b.isSome :: (Rk.lnV ((b.map Prod.fst).getD []) ++ [.int .i64 ((b.map Prod.snd).getD 0), fv])
theorem bstO_none (fv : AVal) : bstO none fv = [.bool false, .int .i64 0, .int .i64 0, .int .i64 0, .int .i64 0, .int .i64 0, .int .i64 0, .int .i64 0, fv] := rfl
theorem rake_best_line_see_ok {n : Nat} (hn : n ≤ 6) {f : Nat → Int} (hf : ∀ i, i < n → 0 ≤ f i ∧ f i ≤ 100) {S : List Int} (hl : S.length ≤ 100000) (hS : ∀ s ∈ S, 0 ≤ s ∧ s < 2 ^ n) (o : List Nat) (hol : o.length = n) (ho : o.Nodup) (hon : ∀ i ∈ o, i < n) (s5 sb : Nat) (fv : AVal) (hfv : fv = .func (.func fn_rake_Order_2) [] [.ptr 5 0 s5])
    (b : Option (List Nat × Int)) (K : AEnd → Heap → Prop) (hK : K (.ret (.tup [])) (hpV [(7, .row (bstO (Rk.betO (fun o => Rk.mostL f o S S) b o) fv) sb), (5, .row [.pv (Rk.Hc f n S)] s5)])) :
    ACalls Pg fn_rake_best_rake_line_see [.ptr 7 0 sb, .agg (Rk.lnV o)] (hpV [(7, .row (bstO b fv) sb), (5, .row [.pv (Rk.Hc f n S)] s5)]) K := by
  obtain ⟨H, hH⟩ : ∃ H, H = Rk.Hc f n S := ⟨_, rfl⟩
  have cO := fun K => rake_Order_2_ok hn hf hl hS o hol ho hon s5 K
  obtain ⟨m, hm⟩ : ∃ m, m = Rk.mostL f o S S := ⟨_, rfl⟩
  rw [← hH, ← hm] at cO
  rw [← hH] at hK ⊢
  obtain ⟨a1, a2, a3, a4, a5, a6, ea⟩ := Rk.lnV_six o
  obtain ⟨c1, c2, c3, c4, c5, c6, ec⟩ := Rk.lnV_six ((b.map Prod.fst).getD [])
  have hbs : bstO b fv = [.bool b.isSome, .int .i64 c1, .int .i64 c2, .int .i64 c3, .int .i64 c4, .int .i64 c5, .int .i64 c6, .int .i64 ((b.map Prod.snd).getD 0), fv] := by
    unfold bstO; rw [ec]; rfl
  have hst : bstO (Rk.betO (fun o => Rk.mostL f o S S) b o) fv = if b.isSome = true ∧ ¬ m < (b.map Prod.snd).getD 0 then bstO b fv else [.bool true, .int .i64 a1, .int .i64 a2, .int .i64 a3, .int .i64 a4, .int .i64 a5, .int .i64 a6, .int .i64 m, fv] := by
    have e : bstO (some (o, m)) fv = [.bool true, .int .i64 a1, .int .i64 a2, .int .i64 a3, .int .i64 a4, .int .i64 a5, .int .i64 a6, .int .i64 m, fv] := by
      unfold bstO
      show _ :: (Rk.lnV o ++ _) = _
      rw [ea]; rfl
    cases b with
    | none => simp [Rk.betO, ← hm, e]
    | some c =>
      by_cases hc : m < c.2
      · simp [Rk.betO, ← hm, hc, e]
      · simp [Rk.betO, ← hm, hc]
  rw [ea] at cO ⊢
  rw [hst] at hK
  rw [hbs] at hK ⊢
  obtain ⟨y, hy⟩ : ∃ y, y = (b.map Prod.snd).getD 0 := ⟨_, rfl⟩
  obtain ⟨sm, hsm⟩ : ∃ sm, sm = b.isSome := ⟨_, rfl⟩
  rw [← hy, ← hsm] at hK ⊢
  refine rake_best_rake_line_see.enter 600 (by simp) ?_
  simp
  intro s3
  rw [hfv]
  refine FCall.cps (σ := Unit) [(5, .row [.pv H] s5)] (fun _ => .int .i64 m) (fun _ => [(5, .row [.pv H] s5)]) (fun _ => True) (fun K' hK' => AInvoke.func (cO K' (hK' () trivial))) (by simp) (fun _ => rfl) trivial (fun _ _ => ⟨trivial, ?_⟩)
  rw [← hfv]
  cases sm with
  | false =>
    simp at hK
    simp
    exact RetV.view [(7, .row [.bool true, .int .i64 a1, .int .i64 a2, .int .i64 a3, .int .i64 a4, .int .i64 a5, .int .i64 a6, .int .i64 m, fv] sb), (5, .row [.pv H] s5)] (by simp) hK
  | true =>
    by_cases hc : m < y
    · simp [hc] at hK
      simp [hc]
      exact RetV.view [(7, .row [.bool true, .int .i64 a1, .int .i64 a2, .int .i64 a3, .int .i64 a4, .int .i64 a5, .int .i64 a6, .int .i64 m, fv] sb), (5, .row [.pv H] s5)] (by simp) hK
    · simp [hc] at hK
      simp [hc]
      exact RetV.view [(7, .row [.bool true, .int .i64 c1, .int .i64 c2, .int .i64 c3, .int .i64 c4, .int .i64 c5, .int .i64 c6, .int .i64 y, fv] sb), (5, .row [.pv H] s5)] (by simp) (by simpa using hK)
end Go.Cw
end

/- Rake: Order. -/
section
set_option maxRecDepth 100000
set_option linter.unusedSimpArgs false
namespace Go.Cw
open Go Go.Proofs

/-- What is kept while orders are gone through. -/
def Rk.oRow (n : Nat) (f : Nat → Int) (S : List Int) (fv : AVal) (s4 s5 s6 s7 sd : Nat) (O : AObj) (t : List (List Nat)) : List (Nat × AObj) :=
  [(4, .row [.int .i64 0] s4), (5, .row [.pv (Rk.Hc f n S)] s5), (6, .row [.int .i64 0, .int .i64 0] s6), (7, .row (bstO (Rk.bestO (fun o => Rk.mostL f o S S) t) fv) s7), (100, O), (101, .dfr false sd)]
theorem Rk.oRow_b (n : Nat) (f : Nat → Int) (S : List Int) (fv : AVal) (s4 s5 s6 s7 sd : Nat) (O : AObj) : RowsB (Rk.oRow n f S fv s4 s5 s6 s7 sd O) 300 := ⟨fun _ _ => rfl, fun t x hx => by simp [Rk.oRow] at hx; omega, fun t => by simp [Rk.oRow]⟩
theorem rake_Order_gen (r : Rak) (hs : r.Small) (he : r.errE [] true = 0) (K : AEnd → Heap → Prop)
    (hK : ∀ s', RetV K (hpV [(900, .row (ints r.ordL) s')]) (.tup [.sl 900 0 s' r.ordL.length (.gr 1), .int .i64 r.ordN, .int .i64 0])) : ACalls Pg fn_rake_Order [r.v] (hpV [(900, .dead)]) K := by
  obtain ⟨hv, _, _, hne⟩ := Rak.errE_zero.1 he
  have hSl := Rak.S_len hv
  have hSi := Rak.S_in hv
  have hn6 := hv.n6
  have hn1 := hv.n1
  have hFi := Rak.F_in hv
  have hH6 : ∀ h, (Rk.Hc r.F r.n r.S)[6]'h = .int .i64 r.n := fun h => by simp [Rk.Hc]
  have hHl := Rak.Hc_len r.F r.n r.S
  refine rake_Order.enter 0 (by simp) ?_
  simp
  intro s1 s4
  refine FCall.pure (rake_open0 r hs he) ?_
  simp
  intro s5 s6 s7
  obtain ⟨fv, hfv⟩ : ∃ fv, fv = AVal.func (.func fn_rake_Order_2) [] [.ptr 5 0 (s5 + 1)] := ⟨_, rfl⟩
  rw [← hfv, ← bstO_none fv]
  refine FCall.pure (PInv.func (rake_hull_orders_ok r.n r.F r.S)) ?_
  simp
  refine RF.intro 100 101 rfl (by simp) (by simp) (by simp) fun sl sd LO LB yl => ?_
  refine ACalls.cps (σ := List (List Nat)) ((900, .dead) :: Rk.oRow r.n r.F r.S fv (s4+1) (s5+1) (s6+1) (s7+1) sd (LO .go) []) (fun _ => .tup []) (fun t => (900, .dead) :: Rk.oRow r.n r.F r.S fv (s4+1) (s5+1) (s6+1) (s7+1) sd (LO .go) t) (fun t => t = Rk.ords r.n r.n []) (fun K' hK' => ?_) (by simp [Rk.oRow, Rk.bestO]) (fun _ => rfl) fun t ht => ?_
  · have dead : ∀ t'', hpV (Rk.oRow r.n r.F r.S fv (s4+1) (s5+1) (s6+1) (s7+1) sd (LO .go) t'') 900 = .dead := fun t'' => (Rk.oRow_b _ _ _ _ _ _ _ _ _ _).hpV (by omega) t''
    rw [hpV_cons, upd_dead (dead [])]
    refine rake_hull_orders_1_ok hn1 hn6 r.F r.S (Rk.oRow r.n r.F r.S fv (s4+1) (s5+1) (s6+1) (s7+1) sd (LO .go)) (Rk.oRow_b _ _ _ _ _ _ _ _ _ _) (fun t => t) 100 sl (fun t x K hxl hxn hxb hk => ?_) [] rfl K' fun t ht => by
      have := hK' t ht
      rw [hpV_cons, upd_dead (dead t)] at this
      exact this
    refine AInvoke.wk (yl _ _ _ rfl (by simp [Rk.oRow]) ?_)
    have hxl' : (Rk.toI x).length = r.n := by rw [Rk.toI_len, hxl]
    have hmin : (min (6 : Int) (Rk.toI x).length).toNat = r.n := by omega
    have hmin2 : min (Rk.toI x).length 6 = r.n := by omega
    have h6 : List.take 6 (ints (tab 6 (ofL (Rk.toI x)))) = Rk.lnV x := by unfold Rk.lnV; rw [List.take_of_length_le (by simp)]
    have h6l : (ints (tab 6 (ofL (Rk.toI x)))).length = 6 := by simp
    have htk : (Rk.toI x).take r.n = Rk.toI x := List.take_of_length_le (by omega)
    have hpre := setRange_pre6 (Rk.toI x) (by omega)
    have cS := rake_best_line_see_ok hn6 hFi (by omega) hSi x hxl hxn hxb (s5 + 1) (s7 + 1) fv hfv (Rk.bestO (fun o => Rk.mostL r.F o r.S r.S) t)
    rw [← Rk.bestO_push] at cS
    simp [Rk.oRow]
    intro s9
    rw [hmin2, htk, hpre, h6, h6l]
    refine ⟨by omega, by omega, ?_⟩
    refine FCall.cps (σ := Unit) [(7, .row (bstO (Rk.bestO (fun o => Rk.mostL r.F o r.S r.S) t) fv) (s7 + 1)), (5, .row [.pv (Rk.Hc r.F r.n r.S)] (s5 + 1))] (fun _ => .tup []) (fun _ => [(7, .row (bstO (Rk.bestO (fun o => Rk.mostL r.F o r.S r.S) (t ++ [x])) fv) (s7 + 1)), (5, .row [.pv (Rk.Hc r.F r.n r.S)] (s5 + 1))]) (fun _ => True) (fun K' hK' => AInvoke.func (cS K' (hK' () trivial))) (by simp) (fun _ => rfl) trivial (fun _ _ => ⟨trivial, ?_⟩)
    simp
    exact Wk.view (Rk.oRow r.n r.F r.S fv (s4+1) (s5+1) (s6+1) (s7+1) sd (LO .go) (t ++ [x])) (by simp [Rk.oRow]) (by simpa using hk (t ++ [x]) rfl)
  · refine ⟨.go, by simp [Rk.oRow], ?_⟩
    obtain ⟨b, hb⟩ : ∃ b, Rk.bestO (fun o => Rk.mostL r.F o r.S r.S) t = some b := by
      rw [ht]
      exact Rk.bestO_some (Rk.ords_ne r.n [] (by simp) (by simp) (by simp))
    have hbm : b.1 ∈ Rk.ords r.n r.n [] := by
      have := (Rk.bestO_spec (by rw [ht]; exact Rk.ords_lex _ _) hb).1
      rwa [ht] at this
    obtain ⟨m1, m2, m3⟩ := Rk.mem_all.1 hbm
    have hP : Rk.ordP r.n r.F r.S = b := by unfold Rk.ordP; rw [← ht, hb]; rfl
    have hL : r.ordL = Rk.toI b.1 := by unfold Rak.ordL; rw [if_pos he, hP]
    have hN : r.ordN = b.2 := by unfold Rak.ordN; rw [if_pos he, hP]
    rw [hL, hN] at hK
    obtain ⟨C, hC⟩ : ∃ C, C = bstO (some b) fv := ⟨_, rfl⟩
    have hC8 : C.length = 9 := by subst hC; rfl
    have hC7 : ∀ h, C[7]'h = .int .i64 b.2 := fun h => by subst hC; rfl
    have hC1 : C.drop 1 = Rk.lnV b.1 ++ [.int .i64 b.2, fv] := by subst hC; rfl
    have hc6 : (Rk.lnV b.1).length = 6 := by simp [Rk.lnV]
    have m1' : (Rk.toI b.1).length = r.n := by rw [Rk.toI_len, m1]
    simp only [Rk.oRow, hb, ← hC]
    simp
    refine Sl.frz 7 (cells := C) (s := s7 + 1) (by simp) (Sl.refl ?_)
    simp [hC8, hC7, hC1, hH6, hHl, hc6]
    have ea : ALe (.vl r.n (Rk.lnV b.1 ++ [AVal.int IntKind.i64 b.2, fv])) (L (Rk.toI b.1)) := by
      have h1 : L (Rk.toI b.1) = .vl r.n ((Rk.lnV b.1 ++ [AVal.int IntKind.i64 b.2, fv]).take r.n) := by
        rw [List.take_append_of_le_length (by rw [hc6]; exact hn6), Rk.lnV_take m1 hn6]; unfold L; rw [m1']
      rw [h1]
      exact ALe.vl_take _
    have hne0 : Rk.toI b.1 ≠ [] := fun h => by rw [h] at m1'; simp at m1'; omega
    refine ⟨by omega, ?_⟩
    refine FCall.cps [(900, .dead)] (fun s : Nat => .sl 900 0 s (Rk.toI b.1).length (.gr 1)) (fun s => [(900, .row (ints (Rk.toI b.1)) s)]) (fun _ => True) (fun K' hK' => AInvoke.ale (ALe.refl _) (args' := [L (Rk.toI b.1)]) ⟨ea, trivial⟩ (AInvoke.func (clone_L (Rk.toI b.1) hne0 (by omega) 900 K' fun s' => hK' s' trivial))) (by simp) (fun _ => rfl) (by simp) (fun s9 _ => ⟨?_, ?_⟩)
    · simp [hC8, hC7, hC1]
    · simp [hC7]
      refine RetD.ret rfl rake_Order_1.recClo ((rake_said_nil _ _).mono ?_)
      rintro e h' ⟨rfl, rfl⟩
      simp
      rw [m1'] at hK
      rw [m1']
      exact RetV.le (VLe.wk (HLe.view (k := [(900, .row (ints (Rk.toI b.1)) s9)]) (by simp))) (hK s9)
theorem rake_Order_ok (r : Rak) (hs : r.Small) : APure Pg fn_rake_Order [r.v] r.ordV := by
  by_cases he : ¬ r.errE [] true = 0
  · refine rake_Order.pure (by simp) ?_
    simp
    intro s1 s2
    refine FCall.pan (rake_open0_pan r hs true he) ?_
    simp
    refine RetD.panic rfl rake_Order_1.recClo ?_
    refine ACalls.cps [(4, .row [.int .i64 0] (s2 + 1))] (fun _ : Unit => .tup []) (fun _ => [(4, .row [.int .i64 (r.errE [] true)] (s2 + 1))]) (fun _ => True) (fun K' hK' => rake_said_ref _ _ _ _ K' (hK' () trivial)) (by simp) (fun _ => rfl) fun _ _ => ?_
    simp
    exact RetV.ale (v' := .tup [L [], .int .i64 0, .int .i64 (r.errE [] true)]) (ALe.tup ⟨ALe.nils_vl, ALe.refl _, ALe.refl _, trivial⟩) (RetV.refl (by simp [Rak.ordV, Rak.ordL, Rak.ordN, he]))
  replace he := Classical.not_not.1 he
  refine APure.of_nil ?_
  rw [← hpV_dead1 900]
  refine rake_Order_gen r hs he _ fun s' => ?_
  refine RetV.frz 900 rfl ?_
  simp
  exact RetV.refl (by simp [Rak.ordV, he, L])
end Go.Cw
end

/- Rake: how long some seams are together; Enough. -/
section
set_option maxRecDepth 100000
set_option linter.unusedSimpArgs false
namespace Go.Cw
open Go Go.Proofs

theorem Rk.lenS_0 (f : Nat → Int) (q : Int) : Rk.lenS f 0 q = 0 := rfl
theorem Rk.lenS_succ (f : Nat → Int) (k : Nat) (q : Int) : Rk.lenS f (k + 1) q = Rk.lenS f k q + if inS q k then f k else 0 := rfl
theorem Rk.inS_big {q : Int} {n k : Nat} (hq : 0 ≤ q ∧ q < 2 ^ n) (hk : n ≤ k) : inS q k = false := by
  have h1 := two_pow_le hk
  unfold inS
  rw [Int.ediv_eq_zero_of_lt hq.1 (by omega)]
  rfl
theorem Rk.lenS_more {f : Nat → Int} {q : Int} {n : Nat} (hq : 0 ≤ q ∧ q < 2 ^ n) : ∀ m, n ≤ m → Rk.lenS f m q = Rk.lenS f n q := by
  intro m hm
  obtain ⟨d, rfl⟩ := Nat.exists_eq_add_of_le hm
  clear hm
  induction d with
  | zero => rfl
  | succ d ih => rw [← Nat.add_assoc, Rk.lenS_succ, ih, Rk.inS_big hq (by omega)]; simp
theorem rake_lengths_sum_ok (f : Nat → Int) (hf : ∀ i, i < 6 → 0 ≤ f i ∧ f i ≤ 100) (q : Int) (hq : 0 ≤ q ∧ q < 2 ^ 62) : APure Pg fn_rake_lengths_sum [.agg (ints (tab 6 f)), .int .i64 q] (.int .i64 (Rk.lenS f 6 q)) := by
  refine rake_lengths_sum.pure (by simp) ?_
  simp
  intro s2
  have hb : ∀ k, k ≤ 6 → 0 ≤ Rk.lenS f k q ∧ Rk.lenS f k q ≤ k * 100 := by
    intro k
    induction k with
    | zero => intro _; simp [Rk.lenS_0]
    | succ k ih =>
      intro hk
      have h1 := ih (by omega)
      have h2 := hf k (by omega)
      rw [Rk.lenS_succ]
      split <;> omega
  refine Lp.intro (σ := Nat) (inv := fun k => k ≤ 6) (vw := fun k => [(1, .int .i64 q), (2, .ptr 2 0 (s2+1)), (4, .int .i64 (Rk.lenS f k q)), (6, .int .i64 k)])
    (hp := fun _ => [(2, .row (ints (tab 6 f)) (s2+1))]) (ms := fun k => 6 - k) 0 (by simp) (by simp [Rk.lenS_0]) (by simp) ?_
  intro k hk J hJ
  have hbk := hb k hk
  by_cases hkc : k < 6
  · have hkc6 : (k : Int) < 6 := by omega
    have hst := Rk.lenS_succ f k q
    have hdv : 0 ≤ q / 2 ^ k := Int.ediv_nonneg hq.1 (by have := two_pow_pos k; omega)
    have hand := bitI_and1 hdv (by have := Int.ediv_le_self (2 ^ k) hq.1; omega)
    have hfk := hf k hkc
    have cO := rake_lengths_of_ok f k hkc
    cases hkq : inS q k with
    | false =>
      have hmod : ¬ q / 2 ^ k % 2 = 1 := by simpa [inS] using hkq
      rw [hkq] at hst
      simp [hkc6, hkc, hand, hmod]

      (repeat first | refine And.intro (by omega) ?_ | refine And.intro (Fits.of (by omega) (by omega)) ?_)
      exact hJ.next (k + 1) (by omega) (by omega) (by simp [hst]) (by simp)
    | true =>
      have hmod : q / 2 ^ k % 2 = 1 := by simpa [inS] using hkq
      rw [hkq] at hst
      simp [hkc6, hkc, hand, hmod]

      refine ⟨by omega, ?_⟩
      refine PCallK.intro (PInv.func cO) ?_
      simp
      refine ⟨by unfold Fits; omega, ?_⟩
      (repeat first | refine And.intro (by omega) ?_ | refine And.intro (Fits.of (by omega) (by omega)) ?_)
      exact hJ.next (k + 1) (by omega) (by omega) (by simp [hst]) (by simp)
  obtain rfl : k = 6 := by omega
  simp
  refine hJ.exit ?_
  simp
  exact RetV.refl rfl
/-- What is kept while sets are gone through. -/
def Rk.eRow (n : Nat) (f : Nat → Int) (S : List Int) (s4 s5 s7 : Nat) : List (Nat × AObj) :=
  [(508, .row [.int .i64 0] s4), (509, .row [.pv (Rk.Hc f n S)] s5), (511, .row [.func (.func fn_rake_lengths_sum) [] []] s7)]
theorem rake_Enough_2_ok {n : Nat} (hn : n ≤ 6) {f : Nat → Int} (hf : ∀ i, i < 6 → 0 ≤ f i ∧ f i ≤ 100) {S : List Int} (q : Int) (hq : 0 ≤ q ∧ q < 2 ^ n) (s4 s5 s7 : Nat) (K : AEnd → Heap → Prop)
    (hK : K (.ret (.int .i64 (Rk.lenS f n q))) (hpV (Rk.eRow n f S s4 s5 s7))) : ACalls Pg fn_rake_Enough_2 [.int .i64 q, .ptr 511 0 s7, .ptr 509 0 s5] (hpV (Rk.eRow n f S s4 s5 s7)) K := by
  have h2p := two_pow_le hn
  have e6 : (2 : Int) ^ 6 = 64 := by decide
  have e62 : (2 : Int) ^ 62 = 4611686018427387904 := by decide
  have cS := rake_lengths_sum_ok f hf q (by omega)
  rw [Rk.lenS_more hq 6 hn] at cS
  have hH8 := Rak.Hc_len f n S
  have hHt : (Rk.Hc f n S).take 6 = ints (tab 6 f) := by simp [Rk.Hc]
  refine rake_Enough_2.enter 600 (by simp) ?_
  simp [Rk.eRow, hH8, hHt]
  refine FCall.pure (PInv.func cS) ?_
  simp
  exact RetV.view (Rk.eRow n f S s4 s5 s7) (by simp [Rk.eRow]) hK
end Go.Cw
end

/- Rake: Enough. -/
section
set_option maxRecDepth 100000
set_option linter.unusedSimpArgs false
namespace Go.Cw
open Go Go.Proofs

/-- The best of the sets below a number that tell all. -/
def Rk.enTo (n : Nat) (f : Nat → Int) (S : List Int) (k : Nat) : Option (Nat × Int) := Rk.bestR (fun q => Rk.lenS f n (q : Int)) ((List.range k).filter fun q => decide (Rk.tellsP n S (q : Int)))
theorem Rk.enTo_succ (n : Nat) (f : Nat → Int) (S : List Int) (k : Nat) : Rk.enTo n f S (k + 1) = if Rk.tellsP n S (k : Int) then Rk.betR (fun _ => Rk.lenS f n (k : Int)) (Rk.enTo n f S k) k else Rk.enTo n f S k := by
  unfold Rk.enTo
  rw [List.range_succ, List.filter_append]
  by_cases h : Rk.tellsP n S (k : Int)
  · rw [if_pos h, List.filter_cons_of_pos (by simpa using h), List.filter_nil, Rk.bestR_push]; rfl
  · rw [if_neg h, List.filter_cons_of_neg (by simpa using h), List.filter_nil, List.append_nil]
theorem Rk.enTo_all (n : Nat) (f : Nat → Int) (S : List Int) : (Rk.enTo n f S (2 ^ n)).getD (0, 0) = Rk.enP n f S := rfl
theorem Rak.F_in6 {r : Rak} (hv : r.Valid) : ∀ i, i < 6 → 0 ≤ r.F i ∧ r.F i ≤ 100 := fun i _ => by
  by_cases h : i < r.n
  · exact Rak.F_in hv i h
  · unfold Rak.F
    rw [ofL_none _ (by show r.f.length ≤ i; unfold Rak.n at h; omega)]
    omega
theorem rake_Enough_ok (r : Rak) (hs : r.Small) : APure Pg fn_rake_Enough [r.v] r.enV := by
  by_cases he : ¬ r.errE [] true = 0
  · refine rake_Enough.pure (by simp) ?_
    simp
    intro s1 s2
    refine FCall.pan (rake_open0_pan r hs true he) ?_
    simp
    refine RetD.panic rfl rake_Enough_1.recClo ?_
    refine ACalls.cps [(4, .row [.int .i64 0] (s2 + 1))] (fun _ : Unit => .tup []) (fun _ => [(4, .row [.int .i64 (r.errE [] true)] (s2 + 1))]) (fun _ => True) (fun K' hK' => rake_said_ref _ _ _ _ K' (hK' () trivial)) (by simp) (fun _ => rfl) fun _ _ => ?_
    simp
    exact RetV.refl (by simp [Rak.enV, he])
  replace he := Classical.not_not.1 he
  obtain ⟨hv, _, _, hne⟩ := Rak.errE_zero.1 he
  have hSl := Rak.S_len hv
  have hSi := Rak.S_in hv
  have hn6 := hv.n6
  have hH6 : ∀ h, (Rk.Hc r.F r.n r.S)[6]'h = .int .i64 r.n := fun h => by simp [Rk.Hc]
  have hHl := Rak.Hc_len r.F r.n r.S
  have h2p := two_pow_le hn6
  have h2q := two_pow_pos r.n
  have e6 : (2 : Int) ^ 6 = 64 := by decide
  have hw : IntKind.i64.wrap ((2 : Int) ^ r.n) = 2 ^ r.n := Rk.wrapI (by omega) (by omega)
  have hpc := Rk.pow_cast r.n
  refine APure.of_nil (rake_Enough.enter 504 (by simp) ?_)
  simp
  intro s1 s4
  refine FCall.pure (rake_open0 r hs he) ?_
  simp
  intro s5 s6 s7 s8
  simp [hH6, hHl, hw]
  obtain ⟨fv, hfv⟩ : ∃ fv, fv = AVal.func (.func fn_rake_Enough_2) [] [.ptr 511 0 (s7 + 1), .ptr 509 0 (s5 + 1)] := ⟨_, rfl⟩
  rw [← hfv]
  refine ⟨by omega, by unfold Fits; omega, ?_⟩
  refine Lp.intro (σ := Nat) (inv := fun k => k ≤ 2 ^ r.n) (vw := fun k => [(2, .int .i64 0), (3, .int .i64 0), (4, .ptr 508 0 (s4+1)), (5, .ptr 509 0 (s5+1)), (8, .ptr 512 0 (s8+1)), (22, .int .i64 (2 ^ r.n)), (23, .int .i64 k)])
    (hp := fun k => (512, .row (bstC (Rk.enTo r.n r.F r.S k) fv) (s8+1)) :: Rk.eRow r.n r.F r.S (s4+1) (s5+1) (s7+1)) (ms := fun k => 2 ^ r.n - k) 0 (by simp) (by simp) (by simp [Rk.eRow, bstC, Rk.enTo, Rk.bestR]) ?_
  intro k hk J hJ
  by_cases hkc : k < 2 ^ r.n
  · have hkc' : (k : Int) < 2 ^ r.n := by omega
    have hst := Rk.enTo_succ r.n r.F r.S k
    have cT := rake_hull_tells_ok hn6 r.F (by omega) hSi (k : Int) (by omega)
    simp [hkc', Rk.eRow]
    refine PCallK.intro (PInv.func cT) ?_
    by_cases ht : Rk.tellsP r.n r.S (k : Int)
    · rw [if_pos ht] at hst
      simp [ht]
      have hrb : RowsB (fun _ : Unit => Rk.eRow r.n r.F r.S (s4+1) (s5+1) (s7+1)) 512 := ⟨fun _ _ => rfl, fun t x hx => by simp [Rk.eRow] at hx; omega, fun t => by simp [Rk.eRow]⟩
      refine FCall.cps (σ := Unit) ((512, .row (bstC (Rk.enTo r.n r.F r.S k) fv) (s8 + 1)) :: Rk.eRow r.n r.F r.S (s4+1) (s5+1) (s7+1)) (fun _ => .tup [])
        (fun _ => (512, .row (bstC (Rk.enTo r.n r.F r.S (k + 1)) fv) (s8 + 1)) :: Rk.eRow r.n r.F r.S (s4+1) (s5+1) (s7+1)) (fun _ => True)
        (fun K' hK' => AInvoke.func ?_) (by simp [Rk.eRow]) (fun _ => rfl) trivial (fun _ _ => ⟨trivial, ?_⟩)
      · refine rake_best_int_see_ok (fun _ : Unit => Rk.eRow r.n r.F r.S (s4+1) (s5+1) (s7+1)) hrb fv k (Rk.lenS r.F r.n (k : Int)) () (Rk.enTo r.n r.F r.S k) (s8 + 1) (fun K2 hK2 => ?_) K' fun t' => ?_
        · rw [hfv]
          refine AInvoke.func ?_
          have := rake_Enough_2_ok hn6 (Rak.F_in6 hv) (S := r.S) (k : Int) (by omega) (s4 + 1) (s5 + 1) (s7 + 1) K2 (hK2 ())
          simpa using this
        · have := hK' t' trivial
          rw [hst] at this
          exact this
      simp [Rk.eRow]
      (repeat first | refine And.intro (by omega) ?_ | refine And.intro (Fits.of (by omega) (by omega)) ?_)
      exact hJ.next (k + 1) (by omega) (by omega) (by simp) (by simp [Rk.eRow])
    · rw [if_neg ht] at hst
      simp [ht]
      (repeat first | refine And.intro (by omega) ?_ | refine And.intro (Fits.of (by omega) (by omega)) ?_)
      exact hJ.next (k + 1) (by omega) (by omega) (by simp) (by simp [Rk.eRow, hst])
  obtain rfl : k = 2 ^ r.n := by omega
  simp [show ¬ ((2 ^ r.n : Nat) : Int) < 2 ^ r.n by omega]
  refine hJ.exit ?_
  have hE := Rk.enTo_all r.n r.F r.S
  have h1 : (((Rk.enTo r.n r.F r.S (2 ^ r.n)).map fun x => (x.1 : Int)).getD 0) = ((Rk.enP r.n r.F r.S).1 : Int) := by rw [← hE]; cases Rk.enTo r.n r.F r.S (2 ^ r.n) <;> rfl
  have h2 : (((Rk.enTo r.n r.F r.S (2 ^ r.n)).map Prod.snd).getD 0) = (Rk.enP r.n r.F r.S).2 := by rw [← hE]; cases Rk.enTo r.n r.F r.S (2 ^ r.n) <;> rfl
  simp [Rk.eRow, bstC, h1, h2]
  refine RetD.ret rfl rake_Enough_1.recClo ((rake_said_nil _ _).mono ?_)
  rintro e h' ⟨rfl, rfl⟩
  simp
  exact RetV.refl (by simp [Rak.enV, he])
end Go.Cw
end
