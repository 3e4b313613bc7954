/-
  Laws of layer 1; how a hull is read as an argument.
-/
import Derived.Test.YtmfpfgdjnhcllaaLb
import Derived.Test.YtmfpfgdjnhcllaaAe
import Derived.Test.YtmfpfgdjnhcllaaAf
import Derived.Test.YtmfpfgdjnhcllaaRows
set_option linter.unusedVariables false
set_option linter.unusedSimpArgs false
set_option linter.unusedSectionVars false

/- The laws Clashes and Names. -/
section
set_option maxRecDepth 100000
set_option linter.unusedSimpArgs false
namespace Go.Cw
open Go Go.Proofs

theorem law01_LeakNames_ok : APure Pg fn_law01_LeakNames [] (.bool true) := by
  refine law01_LeakNames.pure (by simp) ?_
  simp
  intro s19
  refine Lp.intro (σ := Nat) (inv := fun k => k ≤ 4) (vw := fun k => [(19, .sl 19 0 (s19+1) 4 (.ex 4)), (20, .int .i64 4), (21, .int .i64 k)])
    (hp := fun _ => [(19, .row [.int .i64 3, .int .i64 0, .int .i64 1, .int .i64 6, .int .i64 0, .int .i64 7, .int .i64 4, .int .i64 1, .int .i64 5, .int .i64 4, .int .i64 (-1), .int .i64 3] (s19+1))]) (ms := fun k => 4 - k) 0 (by simp) (by simp) (by simp) ?_
  intro k hk J hJ
  by_cases hkc : k < 4
  · have hcase : k = 0 ∨ k = 1 ∨ k = 2 ∨ k = 3 := by omega
    have go : ∀ (d l w : Int), Hul.At d l → (lsm false).wet d l = w → APure Pg fn_leak_Wet [(lsm false).v, .int .i64 d, .int .i64 l] (.tup [.int .i64 w, .int .i64 0]) := by
      intro d l w h1 h2
      have := leak_Wet_ok (lsm false) (lsm_small _) d l
      rwa [lsm_wet false d l h1 w h2] at this
    rcases hcase with rfl | rfl | rfl | rfl
    all_goals simp
    all_goals intro s2
    all_goals refine PCallK.intro (PInv.func (law01_sample_ok false)) ?_
    all_goals simp
    · refine PCallK.intro (PInv.func (go 3 0 1 (by decide) (by decide +kernel))) ?_
      simp
      (repeat first | refine And.intro (by omega) ?_ | refine And.intro (Fits.of (by omega) (by omega)) ?_)
      exact hJ.next 1 (by omega) (by omega) (by simp) (by simp)
    · refine PCallK.intro (PInv.func (go 6 0 7 (by decide) (by decide +kernel))) ?_
      simp
      (repeat first | refine And.intro (by omega) ?_ | refine And.intro (Fits.of (by omega) (by omega)) ?_)
      exact hJ.next 2 (by omega) (by omega) (by simp) (by simp)
    · refine PCallK.intro (PInv.func (go 4 1 5 (by decide) (by decide +kernel))) ?_
      simp
      (repeat first | refine And.intro (by omega) ?_ | refine And.intro (Fits.of (by omega) (by omega)) ?_)
      exact hJ.next 3 (by omega) (by omega) (by simp) (by simp)
    · refine PCallK.intro (PInv.func (go 4 (-1) 3 (by decide) (by decide +kernel))) ?_
      simp
      (repeat first | refine And.intro (by omega) ?_ | refine And.intro (Fits.of (by omega) (by omega)) ?_)
      exact hJ.next 4 (by omega) (by omega) (by simp) (by simp)
  obtain rfl : k = 4 := by omega
  simp
  refine hJ.exit ?_
  simp
  refine PCallK.intro (PInv.func (law01_span_ok _ _)) ?_
  simp [SP2]
  refine PCallK.intro (PInv.func (law01_span_ok _ _)) ?_
  simp [SP2]
  refine PCallK.intro (PInv.func (law01_span_ok _ _)) ?_
  simp [SP2]
  intro s46
  refine Lp.intro (σ := Nat) (inv := fun k => k ≤ 3) (vw := fun k => [(46, .sl 46 0 (s46+1) 3 (.ex 3)), (47, .int .i64 3), (48, .int .i64 k)])
    (hp := fun _ => [(46, .row [.int .i64 1, .int .i64 2, .int .i64 0, .int .i64 2, .int .i64 0, .int .i64 3] (s46+1))]) (ms := fun k => 3 - k) 0 (by simp) (by simp) (by simp) ?_
  intro k hk J hJ
  by_cases hkc : k < 3
  · have hcase : k = 0 ∨ k = 1 ∨ k = 2 := by omega
    have go : ∀ (q : Int) (lo hi : Int), (lsm false).Seam q → spanOf ([[1, 0, 3], [1, 1, 2], [1, 2, 1], [2, 0, 2], [2, 1, 1], [2, 2, 0]].map (Hul.sumT · (2 ^ q.toNat))) = (lo, hi) → APure Pg fn_leak_Rate [(lsm false).v, .int .i64 q] (.tup [SP2 (lo, hi), .int .i64 0]) := by
      intro q lo hi h1 h2
      have := leak_Rate_ok (lsm false) (lsm_small _) q
      rwa [lsm_sum _ h1 _ (lo, hi) h2] at this
    rcases hcase with rfl | rfl | rfl
    all_goals simp
    all_goals intro s6
    all_goals refine PCallK.intro (PInv.func (law01_sample_ok false)) ?_
    all_goals simp
    · refine PCallK.intro (PInv.func (go 0 1 2 (by decide) (by decide +kernel))) ?_
      simp [SP2]
      intro s7
      (repeat first | refine And.intro (by omega) ?_ | refine And.intro (Fits.of (by omega) (by omega)) ?_)
      exact hJ.next 1 (by omega) (by omega) (by simp) (by simp)
    · refine PCallK.intro (PInv.func (go 1 0 2 (by decide) (by decide +kernel))) ?_
      simp [SP2]
      intro s7
      (repeat first | refine And.intro (by omega) ?_ | refine And.intro (Fits.of (by omega) (by omega)) ?_)
      exact hJ.next 2 (by omega) (by omega) (by simp) (by simp)
    · refine PCallK.intro (PInv.func (go 2 0 3 (by decide) (by decide +kernel))) ?_
      simp [SP2]
      intro s7
      (repeat first | refine And.intro (by omega) ?_ | refine And.intro (Fits.of (by omega) (by omega)) ?_)
      exact hJ.next 3 (by omega) (by omega) (by simp) (by simp)
  obtain rfl : k = 3 := by omega
  simp
  refine hJ.exit ?_
  simp
  refine PCallK.intro (PInv.func (law01_sample_ok false)) ?_
  simp
  refine PCallK.intro (PInv.func (leak_Flow_ok (lsm false) (lsm_small _) 1 0)) ?_
  rw [lsm_sum _ (by decide) _ (0, 0) (by decide +kernel)]
  simp [SP2]
  intro s9
  refine PCallK.intro (PInv.func (law01_sample_ok false)) ?_
  simp
  refine PCallK.intro (PInv.func (leak_Clash_ok (lsm false) (lsm_small _))) ?_
  rw [lsm_clash]
  simp
  refine PCallK.intro (PInv.func (law01_sample_ok true)) ?_
  simp
  have hr3 : (lsm true).sumV ((lsm true).Seam 0) (2 ^ (0 : Int).toNat) = .tup [SP2 (0, 0), .int .i64 10] := by
    simp only [Hul.sumV, lsm_valid, lsm_none, if_true]
    rw [if_pos (by decide)]
  refine PCallK.intro (PInv.func (leak_Rate_ok (lsm true) (lsm_small _) 0)) ?_
  rw [hr3]
  simp [SP2]
  intro s13
  refine PCallK.intro (PInv.func law01_alive_ok) ?_
  simp
  refine PCallK.intro (PInv.func (law01_span_ok _ _)) ?_
  simp [SP2]
  exact RetV.refl rfl
end Go.Cw
end

/- How a hull is read as an argument. -/
section
set_option maxRecDepth 100000
namespace Go.Cw
open Go Go.Proofs

section
variable {w : World} {μ : Mu}

theorem opens_int : Opens Pg w μ 3 fun av => ∃ n, (Lit.int .i64 n).wf = true ∧ av = [.int .i64 n] := Opens.int Try.underlying3 (by kernel_rfl)
theorem opens_span : Opens Pg w μ 37 fun av => ∃ p : Int × Int, av = [.int .i64 p.1, .int .i64 p.2] := by
  refine (Opens.struct (Vs := [_, _]) Try.underlying37 (by kernel_rfl) ⟨rfl, opens_int, by kernel_rfl, opens_int, trivial⟩).mono ?_
  rintro av ⟨ass, h, rfl⟩
  obtain ⟨a, b, rfl, ⟨n, _, rfl⟩, ⟨m, _, rfl⟩⟩ := h.two
  exact ⟨(n, m), rfl⟩
theorem opens_seam : Opens Pg w μ 59 fun av => ∃ a : Sm, av = a.c := by
  refine (Opens.struct (Vs := [_, _, _]) Try.underlying59 (by kernel_rfl) ⟨rfl, opens_int, by kernel_rfl, opens_int, by kernel_rfl, opens_int, trivial⟩).mono ?_
  rintro av ⟨ass, h, rfl⟩
  obtain ⟨a, b, c, rfl, ⟨n, _, rfl⟩, ⟨m, _, rfl⟩, ⟨k, _, rfl⟩⟩ := h.three
  exact ⟨⟨n, m, k⟩, rfl⟩
theorem opens_sounding : Opens Pg w μ 63 fun av => ∃ a : Sd, av = a.c := by
  refine (Opens.struct (Vs := [_, _, _]) Try.underlying63 (by kernel_rfl) ⟨rfl, opens_int, by kernel_rfl, opens_int, by kernel_rfl, opens_span, trivial⟩).mono ?_
  rintro av ⟨ass, h, rfl⟩
  obtain ⟨a, b, c, rfl, ⟨n, _, rfl⟩, ⟨m, _, rfl⟩, ⟨p, rfl⟩⟩ := h.three
  exact ⟨⟨n, m, p.1, p.2⟩, rfl⟩
theorem c59 : 0 < Pg.cellsOf 59 := by rw [show Pg.cellsOf 59 = 3 by kernel_rfl]; omega
theorem c63 : 0 < Pg.cellsOf 63 := by rw [show Pg.cellsOf 63 = 4 by kernel_rfl]; omega
theorem opens_hull : Opens Pg w μ 25 fun av => ∃ h : Hul, av = h.cells := by
  refine (Opens.struct (Vs := [_, _]) Try.underlying25 (by kernel_rfl) ⟨rfl, Opens.fl Try.underlying22 (by kernel_rfl) c59 opens_seam, by kernel_rfl, Opens.fl Try.underlying23 (by kernel_rfl) c63 opens_sounding, trivial⟩).mono ?_
  rintro av ⟨ass, h, rfl⟩
  obtain ⟨a, b, rfl, ⟨n, rfl⟩, ⟨m, rfl⟩⟩ := h.two
  exact ⟨⟨n, m⟩, rfl⟩
end

theorem kids : Kids Pg (· < Pg.types.size) := kids_rows (by kernel_rfl) (by kernel_rfl)
theorem slices_full : ∀ t e, t < Pg.types.size → Pg.underlying t = some (.slice e) → 0 < Pg.cellsOf e := slices_full_of Pg (by kernel_rfl)
theorem ownKnobNone : ownKnob Pg.godebug = none := by kernel_rfl

end Go.Cw
end
