/-
  For every hull, pitch and irons, and all numbers, the law TopBooks returns true and leaves its arguments as they were, the four listed package variables starting as the program's text lays them; no further conditions.
-/
import Derived.Test.YtemceffbimfblaaGreatDoorPd
import Derived.Test.YtemceffbimfblaaGreatDoorCards
import Derived.Test.YtemceffbimfblaaGreatDoorTie
set_option linter.unusedVariables false
set_option linter.unusedSimpArgs false
set_option linter.unusedSectionVars false

/- For every hull, pitch and irons, and all numbers, the law TopBooks returns true and leaves its arguments as they were, the four listed package variables starting as the program's text lays them; no further conditions. -/
section
set_option maxRecDepth 100000
namespace Go.Proofs.YtemceffbimfblaaGreatDoor
open Go Go.Cw

def setC (cs : Array Value) : Obj → Obj
  | .cells _ t frozen => .cells cs t frozen
  | o => o
noncomputable def laidWorld (os : Os) : World :=
  { World.holding Tryz.prog os ⟨#[], #[], []⟩ with
    heap := Array.modify (Array.modify (Array.modify (Array.modify (World.holding Tryz.prog os ⟨#[], #[], []⟩).heap 0 (setC #[strV [112], strV [107], strV [115]])) 2 (setC #[.int .u64 1, .int .u64 10, .int .u64 100, .int .u64 1000, .int .u64 10000, .int .u64 100000, .int .u64 1000000, .int .u64 10000000, .int .u64 100000000, .int .u64 1000000000, .int .u64 10000000000, .int .u64 100000000000, .int .u64 1000000000000, .int .u64 10000000000000, .int .u64 100000000000000, .int .u64 1000000000000000, .int .u64 10000000000000000, .int .u64 100000000000000000, .int .u64 1000000000000000000, .int .u64 10000000000000000000])) 3 (setC #[.int .u8 0, .int .u8 1, .int .u8 28, .int .u8 2, .int .u8 29, .int .u8 14, .int .u8 24, .int .u8 3, .int .u8 30, .int .u8 22, .int .u8 20, .int .u8 15, .int .u8 25, .int .u8 17, .int .u8 4, .int .u8 8, .int .u8 31, .int .u8 27, .int .u8 13, .int .u8 23, .int .u8 21, .int .u8 19, .int .u8 16, .int .u8 7, .int .u8 26, .int .u8 12, .int .u8 18, .int .u8 6, .int .u8 11, .int .u8 5, .int .u8 10, .int .u8 9])) 4 (setC #[.int .u8 0, .int .u8 1, .int .u8 56, .int .u8 2, .int .u8 57, .int .u8 49, .int .u8 28, .int .u8 3, .int .u8 61, .int .u8 58, .int .u8 42, .int .u8 50, .int .u8 38, .int .u8 29, .int .u8 17, .int .u8 4, .int .u8 62, .int .u8 47, .int .u8 59, .int .u8 36, .int .u8 45, .int .u8 43, .int .u8 51, .int .u8 22, .int .u8 53, .int .u8 39, .int .u8 33, .int .u8 30, .int .u8 24, .int .u8 18, .int .u8 12, .int .u8 5, .int .u8 63, .int .u8 55, .int .u8 48, .int .u8 27, .int .u8 60, .int .u8 41, .int .u8 37, .int .u8 16, .int .u8 46, .int .u8 35, .int .u8 44, .int .u8 21, .int .u8 52, .int .u8 32, .int .u8 23, .int .u8 11, .int .u8 54, .int .u8 26, .int .u8 40, .int .u8 15, .int .u8 34, .int .u8 20, .int .u8 31, .int .u8 10, .int .u8 25, .int .u8 14, .int .u8 19, .int .u8 9, .int .u8 13, .int .u8 8, .int .u8 7, .int .u8 6]) }
def wArgs : Array Value := #[.agg #[.slice none 0 0, .slice none 0 0], .agg #[.int .i64 0, .int .i64 0, .int .i64 0, .slice none 0 0, .slice none 0 0], .agg #[.int .i64 0, .slice none 0 0, .slice none 0 0, .slice none 0 0, .slice none 0 0], .int .u8 0, .int .u8 0]
theorem laid_met (os : Os) : laidMet Tryz.prog Rows.topBooksRow.laid ((laidWorld os).forCall (fun _ _ => 0) ⟨#[], wArgs, []⟩).memory :=
  laidMet_of_run' 8 (by kernel_rfl) (by kernel_rfl)
theorem reads (os : Os) {H : Type} (enc : TypeId × Value → H) : ∃ places, DataW.whole enc Tryz.prog ((laidWorld os).forCall (fun _ _ => 0) ⟨#[], wArgs, []⟩).memory Tryz.f3.params.toList Rows.topBooksSpec.vars false wArgs.toList 8 = some ([.agg [.nil, .nil], .agg [.lit (.int .i64 0), .lit (.int .i64 0), .lit (.int .i64 0), .nil, .nil], .agg [.lit (.int .i64 0), .nil, .nil, .nil, .nil], .lit (.int .u8 0), .lit (.int .u8 0)], [], places) :=
  ⟨[], by kernel_rfl⟩

theorem topBooks_lifted (os : Os) (started : os.Started) (H : Type) (enc : TypeId × Value → H) (F : Stop.Interp) :
    ReturnsInHanded {} Tryz.checked os 3 .any ((OpenSpec.ofChange Rows.topBooksSpec).preRow enc Tryz.prog Tryz.f3 Rows.topBooksRow.domain false Rows.topBooksRow.laid) (((OpenSpec.ofChange Rows.topBooksSpec).at F).post enc Tryz.prog Tryz.f3 false true false false) := by
  obtain ⟨places, hx⟩ := reads os enc
  exact law_lifted (C := Tryz.checked) (T := (· < Pg.types.size)) started ownKnobNone (by kernel_rfl) Tryz.func3
    (witness_row_at (enc := enc) (C := Tryz.checked) false (laidWorld os) wArgs rfl (by kernel_rfl) (by kernel_rfl) (by kernel_rfl)
      (OpenSpec.preRow_of_cond 8 hx (by kernel_rfl) (fun k hk => by cases hk) (by kernel_rfl) (laid_met os)))
    kids slices_full (by decide +kernel) rfl rfl Tryz.underlying4
    (fun ds h => match ds, h with | [_, _, _, _, _], _ => rfl)
    gok_books
    (fun w => by
      show OpensA Pg w _ [25, 29, 34, 5, 5] _
      refine .struct opens_hull Tryz.underlying25 ?_
      rintro _ ⟨x0, rfl⟩
      refine .struct opens_pitch Tryz.underlying29 ?_
      rintro _ ⟨x1, rfl⟩
      refine .struct opens_irons Tryz.underlying34 ?_
      rintro _ ⟨x2, ⟨hx2, hx3⟩, rfl⟩
      refine .cell opens_u8 (by kernel_rfl) (by rw [Tryz.underlying5]; simp) (by rw [Tryz.underlying5]; simp) fun a ha => ?_
      obtain ⟨b3, hb3, ha⟩ := ha
      obtain rfl : a = .int .u8 b3 := by simpa using ha
      refine .cell opens_u8 (by kernel_rfl) (by rw [Tryz.underlying5]; simp) (by rw [Tryz.underlying5]; simp) fun a ha => ?_
      obtain ⟨b4, hb4, ha⟩ := ha
      obtain rfl : a = .int .u8 b4 := by simpa using ha
      exact .nil (top_TopBooks_ok x0 x1 x2 b3 b4 hx2 hx3 hb3 hb4))

theorem cf1 : (Rows.topBooksRow.inPlace == Tryz.prog.inPlace 3) = true := by kernel_rfl
theorem cf2 : (Rows.topBooksRow.unfollowed == Tryz.prog.unfollowed 3) = true := by kernel_rfl
theorem cf3 : (Rows.topBooksRow.recurses == Tryz.prog.recurses 3) = true := by kernel_rfl
theorem cf4 : (Rows.topBooksRow.named == Tryz.prog.varsNamed 3) = true := by kernel_rfl
theorem cf5 : laidOutB Tryz.prog = true := by kernel_rfl
theorem cf6 : mapsRowed Tryz.prog = true := by kernel_rfl
theorem closed : joinedFacts Tryz.prog 3 Tryz.f3 (OpenSpec.ofChange Rows.topBooksSpec).bare Rows.topBooksRow = true := by
  unfold joinedFacts
  rw [cf1, cf2, cf3, cf4, cf5, cf6]
  kernel_rfl
theorem topBooks_said : Rows.TopBooksSaid :=
  OpenClaim.holds_of_cond 3 Tryz.f3 rfl rfl rfl rfl rfl rfl rfl ⟨rfl, rfl, rfl, rfl, rfl⟩ rfl rfl rfl rfl rfl (by kernel_rfl) Tryz.func3 closed
    (of_decide_eq_true (by kernel_rfl)) (by unfold Func.isWrapper; first | (rw [if_pos (by decide +kernel)]; kernel_rfl) | (rw [if_neg (by decide +kernel)]; exact ⟨rfl, rfl⟩))
    (fun os started H enc _ F => by rw [OpenClaim.pre_eq_preRow]; exact topBooks_lifted os started H enc F)
theorem plain (f : FuncId) (fn : Func) (hf : Tryz.pinned.checked.prog.funcNamed "caulkworks/caulkworkstop.TopBooks" = some f) (hfn : Tryz.pinned.checked.prog.funcs[f]? = some fn) :
    true = Tryz.pinned.checked.prog.looks [] ∧ ∀ (j : Nat) t, fn.params[j]? = some t → Tryz.pinned.checked.prog.wantsStandIn t = false := by
  obtain rfl : f = 3 := (Option.some.inj ((show Tryz.prog.funcNamed "caulkworks/caulkworkstop.TopBooks" = some 3 by kernel_rfl).symm.trans hf)).symm
  obtain rfl : fn = Tryz.f3 := (Option.some.inj (Tryz.func3.symm.trans hfn)).symm
  refine ⟨by kernel_rfl, fun j t ht => ?_⟩
  rw [Tryz.params3] at ht
  have hm := Array.mem_of_getElem? ht
  simp only [List.mem_toArray, List.mem_cons, List.not_mem_nil, or_false] at hm
  rcases hm with rfl | rfl | rfl | rfl | rfl
  · exact (show Tryz.prog.wantsStandIn 25 = false by kernel_rfl)
  · exact (show Tryz.prog.wantsStandIn 29 = false by kernel_rfl)
  · exact (show Tryz.prog.wantsStandIn 34 = false by kernel_rfl)
  · exact (show Tryz.prog.wantsStandIn 5 = false by kernel_rfl)
  · exact (show Tryz.prog.wantsStandIn 5 = false by kernel_rfl)
theorem topBooks_holds : Rows.TopBooksCardSaid :=
  Claim7.holds_tied_plain_at .later [] _ _ _ _ topBooks_said (fun _ h => by cases h) (by kernel_rfl) (fun _ h => by cases h) topBooks_row_tie rfl ⟨rfl, rfl⟩ (by kernel_rfl) rfl plain (by kernel_rfl)
#print axioms topBooks_holds
end Go.Proofs.YtemceffbimfblaaGreatDoor
end
