/-
  Laws of layer 1; how a hull is read as an argument.
-/
import Derived.Test.YtmfpfgdjnhcllaaLb
import Derived.Test.YtmfpfgdjnhcllaaAe
import Derived.Test.YtmfpfgdjnhcllaaAf
import Derived.Test.YtmfpfgdjnhcllaaRows
set_option linter.unusedVariables false
set_option linter.unusedSimpArgs false
set_option linter.unusedSectionVars false

/- The laws Clashes and Names. -/
section
set_option maxRecDepth 100000
set_option linter.unusedSimpArgs false
namespace Go.Cw
open Go Go.Proofs

theorem law01_LeakClashes_ok (h : Hul) : APure Pg fn_law01_LeakClashes [h.v] (.bool true) := by
  refine law01_LeakClashes.pure (by simp) ?_
  simp
  intro s
  refine PCallK.intro (PInv.func (law01_heavy_ok h 700 6)) ?_
  cases hb : h.heavyB 700 6 with
  | true =>
    simp
    refine PCallK.intro (PInv.func law01_alive_ok) ?_
    simp
    exact RetV.refl rfl
  | false =>
    have hs : h.Small := by
      rw [← Hul.longB_iff]
      unfold Hul.heavyB at hb
      split at hb
      · cases hb
      · rename_i hl; simpa using hl
    simp
    refine PCallK.intro (PInv.func (leak_Clash_ok h hs)) ?_
    obtain ⟨a, e, hae⟩ : ∃ a e, h.clashV = .tup [.int .i64 a, .int .i64 e] := by
      unfold Hul.clashV; split
      · split <;> exact ⟨_, _, rfl⟩
      · exact ⟨_, _, rfl⟩
    have hr := ref01_Clash_ok h hs
    rw [hae] at hr ⊢
    simp
    refine PCallK.intro (PInv.func hr) ?_
    simp
    refine PCallK.intro (PInv.func law01_alive_ok) ?_
    simp
    exact RetV.refl rfl

end Go.Cw
end

/- How a hull is read as an argument. -/
section
set_option maxRecDepth 100000
namespace Go.Cw
open Go Go.Proofs

section
variable {w : World} {μ : Mu}

theorem opens_int : Opens Pg w μ 3 fun av => ∃ n, (Lit.int .i64 n).wf = true ∧ av = [.int .i64 n] := Opens.int Try.underlying3 (by kernel_rfl)
theorem opens_span : Opens Pg w μ 37 fun av => ∃ p : Int × Int, av = [.int .i64 p.1, .int .i64 p.2] := by
  refine (Opens.struct (Vs := [_, _]) Try.underlying37 (by kernel_rfl) ⟨rfl, opens_int, by kernel_rfl, opens_int, trivial⟩).mono ?_
  rintro av ⟨ass, h, rfl⟩
  obtain ⟨a, b, rfl, ⟨n, _, rfl⟩, ⟨m, _, rfl⟩⟩ := h.two
  exact ⟨(n, m), rfl⟩
theorem opens_seam : Opens Pg w μ 59 fun av => ∃ a : Sm, av = a.c := by
  refine (Opens.struct (Vs := [_, _, _]) Try.underlying59 (by kernel_rfl) ⟨rfl, opens_int, by kernel_rfl, opens_int, by kernel_rfl, opens_int, trivial⟩).mono ?_
  rintro av ⟨ass, h, rfl⟩
  obtain ⟨a, b, c, rfl, ⟨n, _, rfl⟩, ⟨m, _, rfl⟩, ⟨k, _, rfl⟩⟩ := h.three
  exact ⟨⟨n, m, k⟩, rfl⟩
theorem opens_sounding : Opens Pg w μ 63 fun av => ∃ a : Sd, av = a.c := by
  refine (Opens.struct (Vs := [_, _, _]) Try.underlying63 (by kernel_rfl) ⟨rfl, opens_int, by kernel_rfl, opens_int, by kernel_rfl, opens_span, trivial⟩).mono ?_
  rintro av ⟨ass, h, rfl⟩
  obtain ⟨a, b, c, rfl, ⟨n, _, rfl⟩, ⟨m, _, rfl⟩, ⟨p, rfl⟩⟩ := h.three
  exact ⟨⟨n, m, p.1, p.2⟩, rfl⟩
theorem c59 : 0 < Pg.cellsOf 59 := by rw [show Pg.cellsOf 59 = 3 by kernel_rfl]; omega
theorem c63 : 0 < Pg.cellsOf 63 := by rw [show Pg.cellsOf 63 = 4 by kernel_rfl]; omega
theorem opens_hull : Opens Pg w μ 25 fun av => ∃ h : Hul, av = h.cells := by
  refine (Opens.struct (Vs := [_, _]) Try.underlying25 (by kernel_rfl) ⟨rfl, Opens.fl Try.underlying22 (by kernel_rfl) c59 opens_seam, by kernel_rfl, Opens.fl Try.underlying23 (by kernel_rfl) c63 opens_sounding, trivial⟩).mono ?_
  rintro av ⟨ass, h, rfl⟩
  obtain ⟨a, b, rfl, ⟨n, rfl⟩, ⟨m, rfl⟩⟩ := h.two
  exact ⟨⟨n, m⟩, rfl⟩
end

theorem kids : Kids Pg (· < Pg.types.size) := kids_rows (by kernel_rfl) (by kernel_rfl)
theorem slices_full : ∀ t e, t < Pg.types.size → Pg.underlying t = some (.slice e) → 0 < Pg.cellsOf e := slices_full_of Pg (by kernel_rfl)
theorem ownKnobNone : ownKnob Pg.godebug = none := by kernel_rfl

end Go.Cw
end
