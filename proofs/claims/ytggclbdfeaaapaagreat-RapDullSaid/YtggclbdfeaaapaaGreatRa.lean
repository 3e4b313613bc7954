/-
  What the functions of layer 13 compute.
-/
import Derived.Test.YtggclbdfeaaapaaGreatProg
import Derived.Shelf.SlSortCmp.NoneTotal
import Derived.Test.YtggclbdfeaaapaaGreatAf
import Derived.Test.YtggclbdfeaaapaaGreatGa
import Derived.Test.YtggclbdfeaaapaaGreatDa
set_option linter.unusedVariables false
set_option linter.unusedSimpArgs false
set_option linter.unusedSectionVars false

/- Two small functions of the program that are walked by the kit's own steps: the comparing function of its sort, and what a rap hears. -/
section
namespace Go.Proofs
open Go Go.Shelf Go.RowKit Go.Lib Go.Sort
set_option maxHeartbeats 1000000 in
theorem Tryz.cmp104 (x y a b : Int) (W : World) (hx : IntKind.i64.wrap x = x) (hy : IntKind.i64.wrap y = y) (hxy : IntKind.i64.wrap (x - y) = x - y) : Calls Tryz.prog 104 #[.agg #[.int .u64 x, .int .u64 a], .agg #[.int .u64 y, .int .u64 b]] W fun e w' => e = .returned (.int .i64 (x - y)) ∧ ∃ q os', w' = grow (W.drewN q) os' := by
  go_enter Tryz.func104, Tryz.ntmps104
  go_wp2
  go_ret
  exact ⟨rfl, 0, _, by rw [alloc_eq_grow, alloc_eq_grow, grow_grow]; rfl⟩
set_option maxHeartbeats 1000000 in
theorem Tryz.nothing160 (a b : Int) (W : World) : Calls Tryz.prog 160 #[.agg #[], .agg #[.int .u64 a, .int .u64 b]] W fun e w' => e = .returned (.bool true) ∧ ∃ q os', w' = grow (W.drewN q) os' := by
  go_enter Tryz.func160, Tryz.ntmps160
  go_wp2
  go_ret
  exact ⟨rfl, 0, _, by rw [alloc_eq_grow, alloc_eq_grow, grow_grow]; rfl⟩
theorem Tryz.part (w : World) (b : Nat) (c : Array Value) (hb : w.heap[b]? = some (Obj.cells c 170)) : Sem.run Tryz.prog (partAt ⟨b, 0, none⟩ 0 0) w = .ok ⟨b, 0, none⟩ w := by
  have h2 : ¬ Tryz.prog.cellsOf 170 = 0 := by rw [show Tryz.prog.cellsOf 170 = 2 by kernel_rfl]; omega
  have h3 : byteOfCell Tryz.prog Tryz.prog.depth 170 0 = some 0 := by kernel_rfl
  simp [partAt, byteOf, noView, viewAt, World.shape?, hb, h2, h3]
theorem Tryz.place (w : World) (b : Nat) (c : Array Value) (hb : w.heap[b]? = some (Obj.cells c 170)) : Sem.run Tryz.prog (fieldPlace ⟨b, 0, none⟩ { name := "nothing", type := 168, offset := 0, embedded := true, tag := "", pkgPath := "caulkworks/rap", byteOffset := 0 }) w = .ok ⟨b, 0, none⟩ w := by
  simp [fieldPlace, Tryz.sizeOf168, Tryz.part w b c hb]
/-- The bit of a number. -/
def bitQ (s n : Int) : Bool := Go.bits BinOp.and IntKind.u64 (s / 2 ^ min n.toNat 64) 1 == 1
set_option maxHeartbeats 1000000 in
theorem Tryz.has71 (s : Int) (n : Int) (hn : 0 ≤ n) (W : World) : Calls Tryz.prog 71 #[.int .u64 s, .int .i64 n] W fun e w' => e = .returned (.bool (bitQ s n)) ∧ ∃ q os', w' = grow (W.drewN q) os' := by
  go_enter Tryz.func71, Tryz.ntmps71
  go_wp2
  go_ret
  exact ⟨rfl, 0, #[], by rw [grow_empty]; rfl⟩
set_option maxHeartbeats 4000000 in
theorem Tryz.hears161 (n : Int) (d : Bool) (o s : Int) (hn : 0 ≤ n) (W : World) : Calls Tryz.prog 161 #[.agg #[.int .i64 n, .bool d], .agg #[.int .u64 o, .int .u64 s]] W fun e w' => e = .returned (.bool (bitQ s n == d)) ∧ ∃ q os', w' = grow (W.drewN q) os' := by
  have h160 := fun W' => Tryz.nothing160 o s W'
  have h71 := fun W' => Tryz.has71 s n hn W'
  generalize bitQ s n = bq at h71 ⊢
  have mixed : Tryz.prog.follows .mixedOrders = true := by kernel_rfl
  go_enter Tryz.func161, Tryz.ntmps161
  go_wp2_with fail
  obtain ⟨W2, hW2⟩ : ∃ W2, W2 = ((W.alloc (Obj.cells #[Value.int IntKind.i64 n, Value.bool d] 170)).alloc (Obj.cells #[Value.int IntKind.u64 o, Value.int IntKind.u64 s] 80)) := ⟨_, rfl⟩
  have hW3 : W2 = grow W #[Obj.cells #[Value.int IntKind.i64 n, Value.bool d] 170, Obj.cells #[Value.int IntKind.u64 o, Value.int IntKind.u64 s] 80] := by
    rw [hW2, alloc_eq_grow, alloc_eq_grow, grow_grow]; rfl
  have hh : W2.heap = W.heap ++ #[Obj.cells #[Value.int IntKind.i64 n, Value.bool d] 170, Obj.cells #[Value.int IntKind.u64 o, Value.int IntKind.u64 s] 80] := by rw [hW3]; rfl
  have hb1 : ∀ n' os', (grow (W2.drewN n') os').heap[W.heap.size]? = some (Obj.cells #[Value.int IntKind.i64 n, Value.bool d] 170) := by
    intro n' os'
    rw [heap_grow_old _ _ (by show _ < W2.heap.size; rw [hh]; simp)]
    show W2.heap[W.heap.size]? = _
    rw [hh]; simp
  have hb2 : ∀ n' os', (grow (W2.drewN n') os').heap[W.heap.size + 1]? = some (Obj.cells #[Value.int IntKind.u64 o, Value.int IntKind.u64 s] 80) := by
    intro n' os'
    rw [heap_grow_old _ _ (by show _ < W2.heap.size; rw [hh]; simp)]
    show W2.heap[W.heap.size + 1]? = _
    rw [hh]; simp
  have hc1 : ∀ n' os', (grow (W2.drewN n') os').cell? ⟨W.heap.size, 0, none⟩ = some (.int .i64 n) := fun n' os' => by simp [World.cell?, hb1]
  have hc2 : ∀ n' os', (grow (W2.drewN n') os').cell? ⟨W.heap.size, 1, none⟩ = some (.bool d) := fun n' os' => by simp [World.cell?, hb1]
  have hc3 : ∀ n' os', (grow (W2.drewN n') os').cell? ⟨W.heap.size + 1, 0, none⟩ = some (.int .u64 o) := fun n' os' => by simp [World.cell?, hb2]
  have hc4 : ∀ n' os', (grow (W2.drewN n') os').cell? ⟨W.heap.size + 1, 1, none⟩ = some (.int .u64 s) := fun n' os' => by simp [World.cell?, hb2]
  have hpa : ∀ n' os', Sem.run Tryz.prog (partAt ⟨W.heap.size, 0, none⟩ 0 0) (grow (W2.drewN n') os') = .ok ⟨W.heap.size, 0, none⟩ (grow (W2.drewN n') os') := fun n' os' => Tryz.part _ _ _ (hb1 n' os')
  rw [← hW2]
  have HW3 : Hid (W2 = _) := hW3
  clear hW2 hW3 hh hb1 hb2
  cases bq
  all_goals
    go_quiet_grown (first | exact Calls.grown_of (h160 _) | exact Calls.grown_of (h71 _))
    go_wp2
    go_ret
    refine ⟨by cases d <;> rfl, nq, #[Obj.cells #[Value.int IntKind.i64 n, Value.bool d] 170, Obj.cells #[Value.int IntKind.u64 o, Value.int IntKind.u64 s] 80] ++ osq, ?_⟩
    rw [HW3.out]
    show grow (grow (W.drewN nq) #[Obj.cells #[Value.int IntKind.i64 n, Value.bool d] 170, Obj.cells #[Value.int IntKind.u64 o, Value.int IntKind.u64 s] 80]) osq = _
    rw [grow_grow]
#print axioms Tryz.hears161
end Go.Proofs
end

/- Where the library's sort by a comparing function lies in this program. Printed by a program of this seat's proofs. -/
section
set_option linter.unusedSimpArgs false
namespace Go.Cw
open Go Go.Proofs

def sortRenF : Go.Shelf.Ren where
  f := fun
    | 6 => 103
    | 15 => 125
    | 14 => 124
    | 28 => 137
    | 29 => 138
    | 20 => 129
    | 21 => 130
    | 22 => 131
    | 23 => 132
    | 24 => 133
    | 25 => 134
    | 26 => 135
    | 27 => 136
    | 46 => 139
    | 47 => 140
    | 48 => 141
    | 49 => 142
    | 50 => 143
    | 57 => 144
    | n => n
  t := fun
    | 22 => 77
    | 24 => 80
    | 25 => 141
    | 3 => 3
    | 39 => 69
    | 0 => 0
    | 53 => 132
    | 55 => 134
    | 4 => 4
    | 46 => 176
    | 45 => 175
    | 50 => 130
    | 5 => 5
    | 9 => 9
    | 66 => 181
    | 70 => 185
    | 76 => 187
    | 77 => 188
    | n => n
  g := fun n => n

theorem sortLaysF : Go.Proofs.SlLaysF0.n6 Pg sortRenF where
  mixed := by kernel_rfl
  f6 := ⟨"slices.SortFunc[[]caulkworks/rap.sound,caulkworks/rap.sound]", by decide, Eq.trans Tryz.func103 (congrArg some (by kernel_rfl))⟩
  f14 := ⟨"slices.pdqsortCmpFunc[caulkworks/rap.sound]", by decide, Eq.trans Tryz.func124 (congrArg some (by kernel_rfl))⟩
  f15 := Eq.trans Tryz.func125 (congrArg some (by kernel_rfl))
  f20 := ⟨"slices.insertionSortCmpFunc[caulkworks/rap.sound]", by decide, Eq.trans Tryz.func129 (congrArg some (by kernel_rfl))⟩
  f21 := ⟨"slices.heapSortCmpFunc[caulkworks/rap.sound]", by decide, Eq.trans Tryz.func130 (congrArg some (by kernel_rfl))⟩
  f22 := ⟨"slices.breakPatternsCmpFunc[caulkworks/rap.sound]", by decide, Eq.trans Tryz.func131 (congrArg some (by kernel_rfl))⟩
  f23 := ⟨"slices.choosePivotCmpFunc[caulkworks/rap.sound]", by decide, Eq.trans Tryz.func132 (congrArg some (by kernel_rfl))⟩
  f24 := ⟨"slices.reverseRangeCmpFunc[caulkworks/rap.sound]", by decide, Eq.trans Tryz.func133 (congrArg some (by kernel_rfl))⟩
  f25 := ⟨"slices.partialInsertionSortCmpFunc[caulkworks/rap.sound]", by decide, Eq.trans Tryz.func134 (congrArg some (by kernel_rfl))⟩
  f26 := ⟨"slices.partitionEqualCmpFunc[caulkworks/rap.sound]", by decide, Eq.trans Tryz.func135 (congrArg some (by kernel_rfl))⟩
  f27 := ⟨"slices.partitionCmpFunc[caulkworks/rap.sound]", by decide, Eq.trans Tryz.func136 (congrArg some (by kernel_rfl))⟩
  f28 := Eq.trans Tryz.func137 (congrArg some (by kernel_rfl))
  f29 := Eq.trans Tryz.func138 (congrArg some (by kernel_rfl))
  f46 := ⟨"slices.siftDownCmpFunc[caulkworks/rap.sound]", by decide, Eq.trans Tryz.func139 (congrArg some (by kernel_rfl))⟩
  f47 := Eq.trans Tryz.func140 (congrArg some (by kernel_rfl))
  f48 := Eq.trans Tryz.func141 (congrArg some (by kernel_rfl))
  f49 := ⟨"slices.medianAdjacentCmpFunc[caulkworks/rap.sound]", by decide, Eq.trans Tryz.func142 (congrArg some (by kernel_rfl))⟩
  f50 := ⟨"slices.medianCmpFunc[caulkworks/rap.sound]", by decide, Eq.trans Tryz.func143 (congrArg some (by kernel_rfl))⟩
  f57 := ⟨"slices.order2CmpFunc[caulkworks/rap.sound]", by decide, Eq.trans Tryz.func144 (congrArg some (by kernel_rfl))⟩
  t0 := Tryz.underlying0
  a0 := Tryz.isAgg0
  z0 := Tryz.sizeOf0
  v0 := Tryz.zeroValue0
  t3 := Tryz.underlying3
  a3 := Tryz.isAgg3
  z3 := Tryz.sizeOf3
  v3 := Tryz.zeroValue3
  t4 := Tryz.underlying4
  a4 := Tryz.isAgg4
  z4 := Tryz.sizeOf4
  v4 := Tryz.zeroValue4
  t5 := Tryz.underlying5
  a5 := Tryz.isAgg5
  z5 := Tryz.sizeOf5
  v5 := Tryz.zeroValue5
  t9 := Tryz.underlying9
  a9 := Tryz.isAgg9
  z9 := Tryz.sizeOf9
  v9 := Tryz.zeroValue9
  t22 := Tryz.underlying77
  a22 := Tryz.isAgg77
  z22 := Tryz.sizeOf77
  v22 := Tryz.zeroValue77
  t25 := Tryz.underlying141
  a25 := Tryz.isAgg141
  z25 := Tryz.sizeOf141
  v25 := Tryz.zeroValue141
  t39 := Tryz.underlying69
  a39 := Tryz.isAgg69
  z39 := Tryz.sizeOf69
  v39 := Tryz.zeroValue69
  t45 := Tryz.underlying175
  a45 := Tryz.isAgg175
  z45 := Tryz.sizeOf175
  v45 := Tryz.zeroValue175
  t46 := Tryz.underlying176
  a46 := Tryz.isAgg176
  z46 := Tryz.sizeOf176
  v46 := Tryz.zeroValue176
  t50 := Tryz.underlying130
  a50 := Tryz.isAgg130
  z50 := Tryz.sizeOf130
  v50 := Tryz.zeroValue130
  t53 := Tryz.underlying132
  a53 := Tryz.isAgg132
  z53 := Tryz.sizeOf132
  v53 := Tryz.zeroValue132
  t55 := Tryz.underlying134
  a55 := Tryz.isAgg134
  z55 := Tryz.sizeOf134
  v55 := Tryz.zeroValue134
  t66 := Tryz.underlying181
  a66 := Tryz.isAgg181
  z66 := Tryz.sizeOf181
  v66 := Tryz.zeroValue181
  t70 := Tryz.underlying185
  a70 := Tryz.isAgg185
  z70 := Tryz.sizeOf185
  v70 := Tryz.zeroValue185
  t76 := Tryz.underlying187
  a76 := Tryz.isAgg187
  z76 := Tryz.sizeOf187
  v76 := Tryz.zeroValue187
  t77 := Tryz.underlying188
  a77 := Tryz.isAgg188
  z77 := Tryz.sizeOf188
  v77 := Tryz.zeroValue188

theorem sortFEnters : Enters Pg fn_slices_SortFunc_rap_sound_rap_sound := ⟨_, _, Tryz.func103, rfl, rfl⟩
theorem wrap_i64s {n : Int} (h0 : -1000 < n) (h1 : n < 1000) : IntKind.i64.wrap n = n := by
  unfold IntKind.wrap
  simp only [IntKind.signed, IntKind.bits, Bool.true_and]
  split <;> simp_all <;> omega

theorem sortFCmp (dl : Fin 64 → Int) (blk off size : Nat) (w : World) : Go.Proofs.CmpLays Pg fn_rap_hull_sounds_1 #[] (encP dl) 2 cfF blk off size w :=
  fun _ _ _ _ x y => Tryz.cmp104 x.val y.val (dl x) (dl y) _ (wrap_i64s (by omega) (by omega)) (wrap_i64s (by omega) (by omega)) (wrap_i64s (by omega) (by omega))

/-- SORT. -/
theorem slices_SortFunc.c {r s : Nat} {cap : Cap} {dl : Fin 64 → Int} {l : List (Fin 64)} (hl : l.length < 4611686018427387904) {K : AEnd → Heap → Prop} (k : K (.ret (.tup [])) (hpV [(r, .row (snF dl (sortF l)) s)])) :
    ACalls Pg fn_slices_SortFunc_rap_sound_rap_sound [.sl r 0 s l.length cap, .func (.func fn_rap_hull_sounds_1) [] []] (hpV [(r, .row (snF dl l) s)]) K :=
  ACalls.sortFunc sortLaysF (fun w => Tryz.isAgg80 w) (fun w => Tryz.sizeOf80 w) sortFEnters (Go.Proofs.enters_of Tryz.func104 (by kernel_rfl) rfl) (sortFCmp dl) hl k

end Go.Cw
end

/- Raps as plain data; which seams sound dull; the program's small functions. -/
section
set_option maxRecDepth 100000
set_option linter.unusedSimpArgs false
namespace Go.Cw
open Go Go.Proofs

/-- A rap that was heard: the seam, and whether it sounded dull. -/
def rfC (x : Int × Bool) : List AVal := [.int .i64 x.1, .bool x.2]
theorem rfC_len (x : Int × Bool) : (rfC x).length = 2 := rfl
def rfs (l : List (Int × Bool)) : List AVal := fl rfC l
section
variable (l : List (Int × Bool))
@[simp] theorem rfs_length : (rfs l).length = l.length * 2 := fl_len rfC_len l
@[simp] theorem rfs_drop (k : Nat) : (rfs l).drop (k * 2) = rfs (l.drop k) := fl_drop rfC_len l k
@[simp] theorem rfs_head : (rfs l).head? = l.head?.map fun a => .int .i64 a.1 := by
  cases l <;> rfl
@[simp] theorem rfs_get1 : (rfs l)[1]? = l.head?.map fun a => .bool a.2 := by
  cases l <;> rfl
@[simp] theorem rfs_take2 : (rfs l).take 2 = (l.head?.map fun a => [.int .i64 a.1, .bool a.2]).getD [] := fl_take rfC_len l
end
def LR (l : List (Int × Bool)) : AVal := .vl l.length (rfs l)
@[simp] theorem frz_LR (r s : Nat) (cells : List AVal) (l : List (Int × Bool)) : frz r s cells (LR l) = LR l := (rfl)
@[simp] theorem ren_LR (r nm : Nat) (l : List (Int × Bool)) : ren r nm (LR l) = LR l := (rfl)
@[simp] theorem acells_LR (l : List (Int × Bool)) : acells (LR l) = some [LR l] := (rfl)
@[simp] theorem aLen_LR (l : List (Int × Bool)) : aLen (LR l) = some (.int .i64 l.length) := (rfl)
@[simp] theorem satIxS_LR (l : List (Int × Bool)) (k : IntKind) (n : Int) (K : AVal → Prop) : satIxS 2 (LR l) (.int k n) K = ((0 ≤ n ∧ n < l.length) ∧ K (.pv (rfs (l.drop n.toNat)))) := by simp [LR]
@[simp] theorem xEl_LR (h : Heap) (l : List (Int × Bool)) (K : Nat → List AVal → Prop) : xEl h 2 (LR l) K = K l.length (rfs l) := by
  simp only [LR, xEl_vl, rfs_length, Nat.le_refl, true_and]
  rw [List.take_of_length_le (by simp)]

structure Rp where
  d : Drv
  rs : List (Int × Bool)

/-- Is a number in a set? -/
def inS (s : Int) (i : Nat) : Bool := decide (s / 2 ^ i % 2 = 1)
theorem inS_bits (p : Nat → Bool) {n i : Nat} (hi : i < n) : inS (bits p n) i = p i := by
  unfold inS
  rw [bits_at p n i hi]
  cases p i <;> rfl
theorem bits_inS {q : Int} {n : Nat} (hq : 0 ≤ q ∧ q < 2 ^ n) : bits (inS q) n = q := bits_of hq.1 hq.2

/-- Is a seam another one, or beside it? -/
def nearL (l : List (Int × Int)) (i j : Nat) : Bool := decide (i = j) || l.any fun p => decide (p = ((i : Int), (j : Int))) || decide (p = ((j : Int), (i : Int)))

namespace Rp
variable (r : Rp)
def cells : List AVal := [L r.d.limits, LP r.d.beside, LP r.d.blows, LR r.rs]
def v : AVal := .agg [L r.d.limits, LP r.d.beside, LP r.d.blows, LR r.rs]
@[simp] theorem v_agg : r.v = .agg [L r.d.limits, LP r.d.beside, LP r.d.blows, LR r.rs] := (rfl)
def n : Nat := r.d.n
def k : Nat := r.rs.length
structure Small : Prop where
  d : r.d.Small
  k : r.rs.length ≤ 40
structure Valid : Prop where
  d : r.d.Valid
  k10 : r.k ≤ 10
  sm : ∀ x ∈ r.rs, r.d.Seam x.1
noncomputable instance : Decidable r.Valid := Classical.propDecidable _
def near (i j : Nat) : Bool := nearL r.d.beside i j
/-- Does a seam sound dull, if those of a set are open? -/
def hears (o : Int) (i : Nat) : Bool := (List.range r.n).any fun j => inS o j && r.near i j
def dullS (o : Int) : Int := bits (r.hears o) r.n
/-- Of a seam: itself and those beside it. -/
def nrS (i : Nat) : Int := if i < r.n then bits (r.near i) r.n else 0
def around : List AVal := (List.range 6).map fun i => .int .u64 (r.nrS i)
end Rp

theorem rap_within_ok (n lo hi : Int) : APure Pg fn_rap_within [.int .i64 n, .int .i64 lo, .int .i64 hi] (.bool (decide (lo ≤ n ∧ n ≤ hi))) := by
  refine rap_within.pure (by simp) ?_
  by_cases h : lo ≤ n <;> simp [h] <;> refine RetV.refl ?_ <;> simp_all

/-- A refusal of this layer. -/
def rfV (e : Int) : AVal := .iface 120 (.agg [.int .i64 e])
theorem rap_want_ok (e : Int) : APure Pg fn_rap_want [.bool true, .int .i64 e] (.tup []) := by
  refine rap_want.pure (by simp) ?_
  simp
  exact RetV.refl rfl
theorem rap_want_pan (e : Int) : APan Pg fn_rap_want [.bool false, .int .i64 e] (rfV e) := by
  refine APan.of_nil (rap_want.enter 0 (by simp) ?_)
  simp
  exact ⟨_, HLe.refl _, rfl⟩
theorem rap_said_nil (p : AVal) : APure Pg fn_rap_said [.nili, p] (.tup []) := by
  refine rap_said.pure (by simp) ?_
  simp
  exact RetV.refl rfl
theorem rap_said_ref (e x : Int) (r s : Nat) (K : AEnd → Heap → Prop) (hK : K (.ret (.tup [])) (hpV [(r, .row [.int .i64 e] s)])) : ACalls Pg fn_rap_said [rfV e, .ptr r 0 s] (hpV [(r, .row [.int .i64 x] s)]) K := by
  obtain ⟨F, hF⟩ : ∃ F, r < F := ⟨r + 1, by omega⟩
  have e1 : ∀ k, ¬ F + k = r := fun k => by omega
  have e2 : ∀ k, ¬ r = F + k := fun k => by omega
  refine rap_said.enter F (by simp) ?_
  simp [rfV, e1, e2]
  intro s1
  exact RetV.view [(r, .row [.int .i64 e] s)] (by simp) hK

theorem rap_set_has_ok (s : Int) (hs : 0 ≤ s ∧ s < 2 ^ 62) (i : Nat) (hi : i ≤ 60) : APure Pg fn_rap_set_has [.int .u64 s, .int .i64 i] (.bool (inS s i)) := by
  have h0 := two_pow_pos i
  have h2 : 0 ≤ s / 2 ^ i := Int.ediv_nonneg hs.1 (by omega)
  have h3 : s / 2 ^ i ≤ s := Int.ediv_le_self _ hs.1
  have h4 := bitU_and1 h2 (by omega)
  refine rap_set_has.pure (by simp) ?_
  simp [h4]
  exact ⟨by omega, RetV.refl (by simp [inS])⟩
theorem rap_set_with_ok (a b : Int) : APure Pg fn_rap_set_with [.int .u64 a, .int .u64 b] (.int .u64 (bitI .or .u64 a b)) := by
  refine rap_set_with.pure (by simp) ?_
  simp
  exact RetV.refl rfl
theorem bitU_zero_or {a : Int} (ha : 0 ≤ a ∧ a < 2 ^ 62) : bitI .or .u64 0 a = a := by
  obtain ⟨b, hb⟩ : ∃ b : Nat, a = b := ⟨a.toNat, by omega⟩
  subst hb
  have := bitU_or 0 b (by omega) (by omega)
  simpa using this
/-- Sets of unsigned numbers as a list. -/
def LU (l : List Int) : AVal := .vl l.length (intsK .u64 l)
theorem rap_union_ok (a b : Int) (ha : 0 ≤ a ∧ a < 2 ^ 62) : APure Pg fn_rap_union [.vl 2 [.int .u64 a, .int .u64 b]] (.int .u64 (bitI .or .u64 a b)) := by
  refine rap_union.pure (by simp) ?_
  simp
  refine Lp.intro (σ := Nat) (inv := fun k => k ≤ 2) (vw := fun k => [(2, .int .u64 (if k = 0 then 0 else if k = 1 then a else bitI .or .u64 a b)), (3, .func (.func fn_rap_set_with) [] []), (6, .vl 2 [.int .u64 a, .int .u64 b]), (7, .int .i64 2), (8, .int .i64 k)])
    (hp := fun _ => []) (ms := fun k => 2 - k) 0 (by simp) (by simp) (by simp) ?_
  intro k hk J hJ
  rcases (show k = 0 ∨ k = 1 ∨ k = 2 by omega) with rfl | rfl | rfl
  · simp
    refine FCall.pure' (v := .int .u64 (bitI .or .u64 0 a)) (PInv.func (rap_set_with_ok 0 a)) (by simp) (by simp) ?_
    simp [bitU_zero_or ha]
    (repeat first | refine And.intro (by omega) ?_ | refine And.intro (Fits.of (by omega) (by omega)) ?_)
    exact hJ.next 1 (by omega) (by omega) (by simp) (by simp)
  · simp
    refine FCall.pure' (v := .int .u64 (bitI .or .u64 a b)) (PInv.func (rap_set_with_ok a b)) (by simp) (by simp) ?_
    simp
    (repeat first | refine And.intro (by omega) ?_ | refine And.intro (Fits.of (by omega) (by omega)) ?_)
    exact hJ.next 2 (by omega) (by omega) (by simp) (by simp)
  · simp
    refine hJ.exit ?_
    simp
    exact RetV.refl rfl
end Go.Cw
end

/- Which seams sound dull: the program. -/
section
set_option maxRecDepth 100000
set_option linter.unusedSimpArgs false
namespace Go.Cw
open Go Go.Proofs

theorem bits_pow {i n : Nat} (hi : i < n) : bits (fun j => decide (j = i)) n = 2 ^ i := by
  induction n with
  | zero => omega
  | succ n ih =>
    simp only [bits]
    by_cases h : i = n
    · subst h
      have : bits (fun j => decide (j = i)) i = 0 := bits_zero.2 fun j hj => by simp; omega
      rw [this]; simp
    · rw [ih (by omega)]
      have : ¬ n = i := fun e => h e.symm
      simp [this]
theorem inS_pow {i j n : Nat} (hi : i < n) (hj : j < n) : inS (2 ^ i) j = decide (j = i) := by
  rw [← bits_pow hi, inS_bits _ hj]
theorem bitsU_or1 (p : Nat → Bool) (k : Nat) (hk : k ≤ 60) : bitI .or .u64 (bits p k) (2 ^ k) = bits p k + 2 ^ k := by
  have h1 := bits_or p k hk
  have hb := bits_lt p k
  have h2 := two_pow_le hk
  have hp := two_pow_pos k
  have e60 : (2 : Int) ^ 60 = 1152921504606846976 := by decide
  obtain ⟨a, ha⟩ : ∃ a : Nat, bits p k = a := ⟨(bits p k).toNat, by omega⟩
  obtain ⟨b, hb'⟩ : ∃ b : Nat, (2 : Int) ^ k = b := ⟨((2 : Int) ^ k).toNat, by omega⟩
  rw [ha, hb'] at h1 ⊢
  rw [ha] at hb
  rw [bitI_or a b (by omega) (by omega)] at h1
  rw [bitU_or a b (by omega) (by omega)]
  exact h1

namespace Rp
variable {r : Rp}
@[simp] theorem around_length : r.around.length = 6 := rfl
@[simp] theorem around_take : r.around.take 6 = r.around := List.take_of_length_le (by simp)
theorem around_at {k : Nat} (hk : k < 6) : r.around[k]? = some (.int .u64 (r.nrS k)) := by
  unfold around
  rw [List.getElem?_map, List.getElem?_range hk]; rfl
theorem hears_bits {o : Int} (hn : r.n ≤ 6) (ho : 0 ≤ o ∧ o < 2 ^ r.n) {k : Nat} (hk : k < r.n) : (bitI .and .u64 (r.nrS k) o ≠ 0) ↔ r.hears o k = true := by
  unfold nrS
  rw [if_pos hk]
  conv => lhs; rw [← bits_inS ho]
  rw [bitsU_and _ _ (by omega)]
  unfold hears
  rw [List.any_eq_true]
  constructor
  · intro h
    refine Classical.byContradiction fun hc => h (bits_zero.2 fun i hi => ?_)
    by_cases h1 : (inS o i && r.near k i) = true
    · exact absurd ⟨i, List.mem_range.2 hi, h1⟩ hc
    · rw [Bool.and_comm] at h1; simpa using h1
  · rintro ⟨i, hi, h1⟩ h2
    have := bits_zero.1 h2 i (List.mem_range.1 hi)
    rw [Bool.and_comm] at this
    rw [this] at h1; cases h1
theorem nrS_lt (hn : r.n ≤ 6) (k : Nat) : 0 ≤ r.nrS k ∧ r.nrS k < 64 := by
  unfold nrS
  split
  · have := bits_lt (r.near k) r.n
    have h2 := two_pow_le hn
    have e : (2 : Int) ^ 6 = 64 := by decide
    omega
  · omega
theorem dullS_lt (o : Int) : 0 ≤ r.dullS o ∧ r.dullS o < 2 ^ r.n := bits_lt _ _
end Rp

theorem rap_around_dull_ok (r : Rp) (hn : r.n ≤ 6) (o : Int) (ho : 0 ≤ o ∧ o < 2 ^ r.n) : APure Pg fn_rap_around_dull [.agg r.around, .int .u64 o] (.int .u64 (r.dullS o)) := by
  refine rap_around_dull.pure (by simp) ?_
  simp
  intro s2
  have h6 := two_pow_le hn
  have e6 : (2 : Int) ^ 6 = 64 := by decide
  refine Lp.intro (σ := Nat) (inv := fun k => k ≤ 6) (vw := fun k => [(1, .int .u64 o), (4, .int .u64 (bits (r.hears o) (min k r.n))), (7, .agg r.around), (8, .int .i64 k)])
    (hp := fun _ => []) (ms := fun k => 6 - k) 0 (by simp) (by simp [bits]) (by simp) ?_
  intro k hk J hJ
  by_cases hkc : k < 6
  · have hc : (k : Int) < 6 := by omega
    have hat := Rp.around_at (r := r) hkc
    have hp := two_pow_le (show k ≤ 6 by omega)
    have hpp := two_pow_pos k
    by_cases hkn : k < r.n
    · have hh := Rp.hears_bits hn ho hkn
      have e1 : min k r.n = k := by omega
      have e2 : min (k + 1) r.n = k + 1 := by omega
      cases hb : r.hears o k with
      | true =>
        have h1 := hh.2 hb
        have hst : bits (r.hears o) (k + 1) = bitI .or .u64 (bits (r.hears o) k) (2 ^ k) := by
          rw [bitsU_or1 _ _ (by omega)]; simp [bits, hb]
        have hbl := bits_lt (r.hears o) k
        have hwr : IntKind.u64.wrap ((2 : Int) ^ k) = 2 ^ k := wrap_u64 (by omega) (by omega)
        simp [hc, hat, h1, e1]
        refine ⟨by omega, fun s19 => ?_⟩
        rw [hwr]
        refine FCall.frz1 19 (cells := [.int .u64 (bits (r.hears o) k), .int .u64 (2 ^ k)]) (s := s19 + 1) (by simp) (v := .int .u64 (bits (r.hears o) (k + 1))) ?_ trivial ?_
        · simp
          rw [hst]
          exact PInv.func (first := []) (cap := []) (args := [_]) (rap_union_ok (bits (r.hears o) k) (2 ^ k) ⟨hbl.1, by omega⟩)
        simp
        (repeat first | refine And.intro (by omega) ?_ | refine And.intro (Fits.of (by omega) (by omega)) ?_)
        exact hJ.next (k + 1) (by omega) (by omega) (by simp [e2]) (by simp)
      | false =>
        have h1 : bitI .and .u64 (r.nrS k) o = 0 := Classical.byContradiction fun x => by have := hh.1 x; rw [hb] at this; cases this
        have hst : bits (r.hears o) (k + 1) = bits (r.hears o) k := by simp [bits, hb]
        simp [hc, hat, h1, e1]
        (repeat first | refine And.intro (by omega) ?_ | refine And.intro (Fits.of (by omega) (by omega)) ?_)
        exact hJ.next (k + 1) (by omega) (by omega) (by simp [hst, e2]) (by simp)
    · have h1 : bitI .and .u64 (r.nrS k) o = 0 := by
        have : r.nrS k = 0 := by unfold Rp.nrS; rw [if_neg hkn]
        rw [this]
        obtain ⟨b, hb⟩ : ∃ b : Nat, o = b := ⟨o.toNat, by omega⟩
        subst hb
        have := bitU_and 0 b (by omega) (by omega)
        simpa using this
      have e1 : min k r.n = r.n := by omega
      have e2 : min (k + 1) r.n = r.n := by omega
      simp [hc, hat, h1, e1]
      (repeat first | refine And.intro (by omega) ?_ | refine And.intro (Fits.of (by omega) (by omega)) ?_)
      exact hJ.next (k + 1) (by omega) (by omega) (by simp [e2]) (by simp)
  obtain rfl : k = 6 := by omega
  simp
  refine hJ.exit ?_
  simp
  have e1 : min 6 r.n = r.n := by omega
  rw [e1]
  exact RetV.refl rfl
end Go.Cw
end

/- A rap that is looked at. -/
section
set_option maxRecDepth 100000
set_option linter.unusedSimpArgs false
namespace Go.Cw
open Go Go.Proofs

def arr (f : Nat → Int) : List AVal := (List.range 6).map fun i => .int .u64 (f i)
@[simp] theorem arr_length (f : Nat → Int) : (arr f).length = 6 := rfl
theorem arr_at (f : Nat → Int) {k : Nat} (hk : k < 6) : (arr f)[k]? = some (.int .u64 (f k)) := by
  unfold arr
  rw [List.getElem?_map, List.getElem?_range hk]; rfl
theorem arr_set (f : Nat → Int) {k : Nat} (hk : k < 6) (x : Int) : (arr f).set k (.int .u64 x) = arr (upd f k x) := by
  apply List.ext_getElem?
  intro i
  by_cases hi : i < 6
  · rw [List.getElem?_set, arr_at _ hi]
    by_cases h : k = i
    · subst h; simp [hk, arr_at, upd]
    · rw [if_neg h, arr_at _ hi]
      simp [upd, show ¬ i = k from fun e => h e.symm]
  · rw [List.getElem?_eq_none (by simp; omega), List.getElem?_eq_none (by simp; omega)]

namespace Rp
/-- What is kept of a rap. -/
def row (r : Rp) (f : Nat → Int) : List AVal := r.cells ++ arr f
@[simp] theorem row_length (r : Rp) (f : Nat → Int) : (r.row f).length = 10 := rfl
theorem row_at (r : Rp) (f : Nat → Int) {k : Nat} (hk : k < 6) : (r.row f)[4 + k]? = some (.int .u64 (f k)) := by
  unfold row
  rw [List.getElem?_append_right (by simp [cells])]
  simp [cells, arr_at f hk]
theorem row_set (r : Rp) (f : Nat → Int) {k : Nat} (hk : k < 6) (x : Int) : setRange (r.row f) (4 + k) [.int .u64 x] = r.row (upd f k x) := by
  rw [setRange_one _ _ _ (by simp; omega)]
  unfold row
  rw [List.set_append_right _ _ (by simp [cells])]
  simp [cells, arr_set f hk]
def H (r : Rp) : AVal := .pv (r.row r.nrS)
def nrL (r : Rp) (l : List (Int × Int)) (i : Nat) : Int := if i < r.n then bits (nearL l i) r.n else 0
theorem nrL_nil (r : Rp) {f2 : Nat → Nat → Int} (hf2 : f2 = fun k i => if i < k then 2 ^ i else 0) : f2 r.n = r.nrL [] := by
  funext i
  rw [hf2]
  unfold nrL
  simp only
  split
  · rename_i hi
    rw [← bits_pow hi]
    refine bits_congr fun j hj => ?_
    unfold nearL
    rw [List.any_nil, Bool.or_false, Bool.eq_iff_iff, decide_eq_true_eq, decide_eq_true_eq]
    exact eq_comm
  · rfl
theorem nearL_push (l : List (Int × Int)) (a b : Nat) (i j : Nat) : nearL (l ++ [((a : Int), (b : Int))]) i j = (nearL l i j || (decide (a = i ∧ b = j) || decide (a = j ∧ b = i))) := by
  unfold nearL
  rw [List.any_append, ← Bool.or_assoc]
  congr 1
  simp only [List.any_cons, List.any_nil, Bool.or_false, Prod.mk.injEq]
  congr 1
  · rw [Bool.eq_iff_iff, decide_eq_true_eq, decide_eq_true_eq]; omega
  · rw [Bool.eq_iff_iff, decide_eq_true_eq, decide_eq_true_eq]; omega
theorem nrL_push (r : Rp) (hn : r.n ≤ 6) (l : List (Int × Int)) {a b : Nat} (hab : a < b) (hb : b < r.n) :
    upd (upd (r.nrL l) a (bitI .or .u64 (r.nrL l a) (2 ^ b))) b (bitI .or .u64 (r.nrL l b) (2 ^ a)) = r.nrL (l ++ [((a : Int), (b : Int))]) := by
  have key : ∀ i j, i < r.n → j < r.n → bitI .or .u64 (r.nrL l i) (2 ^ j) = bits (fun x => nearL l i x || decide (x = j)) r.n := by
    intro i j hi hj
    unfold nrL
    rw [if_pos hi, ← bits_pow hj, bitsU_or _ _ (by omega)]
  funext i
  simp only [upd]
  by_cases h1 : i = b
  · subst h1
    rw [if_pos rfl, key _ _ hb (by omega)]
    unfold nrL
    rw [if_pos hb]
    refine bits_congr fun j hj => ?_
    rw [nearL_push]
    congr 1
    rw [Bool.eq_iff_iff, Bool.or_eq_true, decide_eq_true_eq, decide_eq_true_eq, decide_eq_true_eq]; omega
  · rw [if_neg h1]
    by_cases h2 : i = a
    · subst h2
      rw [if_pos rfl, key _ _ (by omega) hb]
      unfold nrL
      rw [if_pos (by omega)]
      refine bits_congr fun j hj => ?_
      rw [nearL_push]
      congr 1
      rw [Bool.eq_iff_iff, Bool.or_eq_true, decide_eq_true_eq, decide_eq_true_eq, decide_eq_true_eq]; omega
    · rw [if_neg h2]
      unfold nrL
      split
      · refine bits_congr fun j hj => ?_
        rw [nearL_push, show (decide (a = i ∧ b = j) || decide (a = j ∧ b = i)) = false by simp; omega, Bool.or_false]
      · rfl
theorem nrL_lt (r : Rp) (hn : r.n ≤ 6) (l : List (Int × Int)) (i : Nat) : 0 ≤ r.nrL l i ∧ r.nrL l i < 2 ^ 62 := by
  unfold nrL
  split
  · have := bits_lt (nearL l i) r.n
    have h2 := two_pow_le hn
    have e : (2 : Int) ^ 6 = 64 := by decide
    omega
  · omega
theorem nrL_all (r : Rp) : r.nrL r.d.beside = r.nrS := rfl
end Rp

theorem rap_open_all (r : Rp) (hs : r.Small) (is : Bool) (K : AEnd → Prop) (hK1 : r.Valid → is = true → K (.ret r.H)) (hK2 : ¬ r.Valid → K (.pan (rfV 1))) (hK3 : r.Valid → is = false → K (.pan (rfV 2))) : ACalls Pg fn_rap_open [r.v, .bool is] nilH fun e _ => K e := by
  have hrk : r.rs.length = r.k := rfl
  have h40 := hs.k
  have hdl := hs.d.l
  have hdp := hs.d.p
  refine rap_open.enter 0 (by simp) ?_
  simp
  intro s2
  have cT := drive_Times_ok r.d hs.d (-1)
  by_cases hdv : ¬ r.d.Valid
  · rw [show r.d.timesV (-1) = .tup [SP2 (0, 0), .int .i64 1] by simp [Drv.timesV, hdv]] at cT
    refine PCallK.intro (PInv.func (first := []) (cap := []) (args := [r.d.v, .int .i64 (-1)]) cT) ?_
    simp [SP2]
    intro s5
    refine FCall.pan (PInvPan.func (rap_want_pan 1)) ?_
    simp
    exact ⟨_, HLe.refl _, hK2 fun v => hdv v.d⟩
  replace hdv := Classical.not_not.1 hdv
  have hns : ¬ r.d.Seam (-1) := by unfold Drv.Seam; omega
  rw [show r.d.timesV (-1) = .tup [SP2 (0, 0), .int .i64 2] by simp [Drv.timesV, hdv, hns]] at cT
  refine PCallK.intro (PInv.func (first := []) (cap := []) (args := [r.d.v, .int .i64 (-1)]) cT) ?_
  simp [SP2]
  intro s5
  by_cases h10 : ¬ (r.rs.length : Int) ≤ 10
  · simp [h10]
    refine FCall.pan (PInvPan.func (rap_want_pan 1)) ?_
    simp
    exact ⟨_, HLe.refl _, hK2 fun v => h10 (by have := v.k10; omega)⟩
  replace h10 := Classical.not_not.1 h10
  simp [h10]
  refine FCall.pure (PInv.func (rap_want_ok 1)) ?_
  simp
  have hn1 := hdv.n1
  have hn6 := hdv.n6
  have hnl : r.d.limits.length = r.n := rfl
  have hnn : r.d.n = r.n := rfl
  refine Lp.intro (σ := Nat) (inv := fun k => k ≤ r.k ∧ ∀ j x, j < k → r.rs[j]? = some x → r.d.Seam x.1) (vw := fun k => [(1, .bool is), (2, .ptr 2 0 (s2+1)), (29, LR r.rs), (30, .int .i64 r.k), (31, .int .i64 k)])
    (hp := fun _ => [(2, .row r.cells (s2+1))]) (ms := fun k => r.k - k) 0 ⟨by omega, fun j x h => by omega⟩ (by simp [hrk]) (by simp [Rp.cells]) ?_
  rintro k ⟨hk, inv⟩ J hJ
  by_cases hkc : k < r.k
  · have hkl : k < r.rs.length := hkc
    obtain ⟨x, hx⟩ : ∃ x, r.rs[k] = x := ⟨_, rfl⟩
    simp [hkc, hkl, hx, Rp.cells]
    refine ⟨by omega, fun s8 => ⟨by unfold Fits; omega, ?_⟩⟩
    refine PCallK.intro (PInv.func (rap_within_ok _ _ _)) ?_
    by_cases hq : ¬ (0 ≤ x.1 ∧ x.1 ≤ (r.d.limits.length : Int) - 1)
    · rw [show decide (0 ≤ x.1 ∧ x.1 ≤ (r.d.limits.length : Int) - 1) = false by simpa using hq]
      simp
      refine FCall.pan (PInvPan.func (rap_want_pan 1)) ?_
      simp
      refine hJ.pan ?_
      simp
      refine ⟨_, HLe.refl _, hK2 fun v => hq ?_⟩
      have := v.sm x (by rw [← hx]; exact List.getElem_mem hkl)
      unfold Drv.Seam Drv.n at this
      omega
    replace hq := Classical.not_not.1 hq
    rw [show decide (0 ≤ x.1 ∧ x.1 ≤ (r.d.limits.length : Int) - 1) = true by simpa using hq]
    simp
    refine FCall.pure (PInv.func (rap_want_ok 1)) ?_
    simp
    (repeat first | refine And.intro (by omega) ?_ | refine And.intro (Fits.of (by omega) (by omega)) ?_)
    refine hJ.next (k + 1) ⟨by omega, fun j y hj hy => ?_⟩ (by omega) (by simp) (by simp [Rp.cells])
    by_cases e : j = k
    · subst e
      obtain rfl : x = y := by simpa [hkl, hx] using hy
      unfold Drv.Seam Drv.n; omega
    · exact inv j y (by omega) hy
  obtain rfl : k = r.k := by omega
  simp
  refine hJ.exit ?_
  have hV : r.Valid := ⟨hdv, by omega, fun x hx => by
    obtain ⟨j, hj, e⟩ := List.getElem_of_mem hx
    exact inv j x hj (by rw [← e]; simp)⟩
  cases is with
  | false =>
    simp
    refine FCall.pan (PInvPan.func (rap_want_pan 2)) ?_
    simp
    exact ⟨_, HLe.refl _, hK3 hV rfl⟩
  | true =>
  simp
  refine FCall.pure (PInv.func (rap_want_ok 2)) ?_
  simp [Rp.cells]
  intro s49
  obtain ⟨f2, hf2⟩ : ∃ f2 : Nat → Nat → Int, f2 = fun k i => if i < k then 2 ^ i else 0 := ⟨_, rfl⟩
  refine Lp.intro (σ := Nat) (inv := fun k => k ≤ r.n) (vw := fun k => [(2, .ptr 2 0 (s2+1)), (9, .ptr 49 0 (s49+1)), (53, .int .i64 r.n), (54, .int .i64 k)])
    (hp := fun k => [(2, .row r.cells (s2+1)), (49, .row (r.row (f2 k)) (s49+1))]) (ms := fun k => r.n - k) 0 (by simp) (by simp [hnl]) (by simp [Rp.cells, hf2, Rp.row, arr]; rfl) ?_
  intro k hk J2 hJ2
  by_cases hkc : k < r.n
  · have hset := r.row_set (f2 k) (k := k) (by omega) (2 ^ k)
    have hst : upd (f2 k) k (2 ^ k) = f2 (k + 1) := by
      funext i
      rw [hf2]
      simp only [upd]
      by_cases h : i = k
      · subst h; simp
      · rw [if_neg h]
        by_cases h2 : i < k
        · rw [if_pos h2, if_pos (by omega)]
        · rw [if_neg h2, if_neg (by omega)]
    rw [hst] at hset
    have hp := two_pow_le (show k ≤ 6 by omega)
    have hpp := two_pow_pos k
    have e6 : (2 : Int) ^ 6 = 64 := by decide
    have hwr : IntKind.u64.wrap ((2 : Int) ^ k) = 2 ^ k := wrap_u64 (by omega) (by omega)
    simp [hkc, hwr]
    refine ⟨by omega, by omega, by omega, by unfold Fits; omega, ?_⟩
    exact hJ2.next (k + 1) (by omega) (by omega) (by simp) (by simp [hset])
  obtain rfl : k = r.n := by omega
  simp
  refine hJ2.exit ?_
  simp [Rp.cells]
  refine Lp.intro (σ := Nat) (inv := fun k => k ≤ r.d.beside.length) (vw := fun k => [(2, .ptr 2 0 (s2+1)), (9, .ptr 49 0 (s49+1)), (67, LP r.d.beside), (68, .int .i64 r.d.beside.length), (69, .int .i64 k)])
    (hp := fun k => [(2, .row r.cells (s2+1)), (49, .row (r.row (r.nrL (r.d.beside.take k))) (s49+1))]) (ms := fun k => r.d.beside.length - k) 0 (by simp) (by simp) (by simp [Rp.cells, r.nrL_nil hf2]) ?_
  intro k hk J3 hJ3
  by_cases hkc : k < r.d.beside.length
  · obtain ⟨a, b, hab, hlt, hbn⟩ := hdv.pair k hkc
    have hp := two_pow_le (show a ≤ 6 by omega)
    have hpp := two_pow_pos a
    have hp' := two_pow_le (show b ≤ 6 by omega)
    have hpp' := two_pow_pos b
    have e6 : (2 : Int) ^ 6 = 64 := by decide
    have hwa : IntKind.u64.wrap ((2 : Int) ^ a) = 2 ^ a := wrap_u64 (by omega) (by omega)
    have hwb : IntKind.u64.wrap ((2 : Int) ^ b) = 2 ^ b := wrap_u64 (by omega) (by omega)
    obtain ⟨g, hg⟩ : ∃ g, g = r.nrL (r.d.beside.take k) := ⟨_, rfl⟩
    have hga := r.row_at g (k := a) (by omega)
    have hgb := r.row_at g (k := b) (by omega)
    have hpush := r.nrL_push (by omega) (r.d.beside.take k) hlt (by omega)
    rw [← hab, List.take_append_getElem hkc, ← hg] at hpush
    have hla := r.nrL_lt (by omega) (r.d.beside.take k) a
    have hlb := r.nrL_lt (by omega) (r.d.beside.take k) b
    rw [← hg] at hla hlb
    simp [hkc, hab, Rp.cells, ← hg, hga, hgb, hwa, hwb]
    refine ⟨by omega, fun s12 => ⟨by omega, by omega, by omega, by omega, fun s89 => ?_⟩⟩
    refine FCall.frz1 89 (cells := [.int .u64 (g a), .int .u64 (2 ^ b)]) (s := s89 + 1) (by simp) (v := .int .u64 (bitI .or .u64 (g a) (2 ^ b))) ?_ (by simp) ?_
    · simp
      exact PInv.func (first := []) (cap := []) (args := [_]) (rap_union_ok (g a) (2 ^ b) hla)
    simp [hab, hga, hgb]
    intro s101
    obtain ⟨va, hva⟩ : ∃ va, va = bitI .or .u64 (g a) (2 ^ b) := ⟨_, rfl⟩
    obtain ⟨vb, hvb⟩ : ∃ vb, vb = bitI .or .u64 (g b) (2 ^ a) := ⟨_, rfl⟩
    rw [← hva, ← hvb] at hpush
    have hset1 := r.row_set g (k := a) (by omega) va
    have hset2 := r.row_set (upd g a va) (k := b) (by omega) vb
    rw [hpush] at hset2
    rw [← hva]
    refine FCall.frz1 101 (cells := [.int .u64 (g b), .int .u64 (2 ^ a)]) (s := s101 + 1) (by simp) (v := .int .u64 vb) ?_ (by simp) ?_
    · simp
      rw [hvb]
      exact PInv.func (first := []) (cap := []) (args := [_]) (rap_union_ok (g b) (2 ^ a) hlb)
    simp [hab, hset1, hset2]
    refine ⟨by omega, by omega, by omega, by omega, by unfold Fits; omega, ?_⟩
    exact hJ3.next (k + 1) (by omega) (by omega) (by simp) (by simp [Rp.cells, hset1, hset2])
  obtain rfl : k = r.d.beside.length := by omega
  simp
  refine hJ3.exit ?_
  simp
  refine RetV.frz 49 (cells := r.row (r.nrL r.d.beside)) (s := s49 + 1) (by simp) ?_
  simp
  exact RetV.refl (hK1 hV rfl)

theorem rap_open_ok (r : Rp) (hs : r.Small) (hv : r.Valid) : APure Pg fn_rap_open [r.v, .bool true] r.H :=
  APure.of_nil (rap_open_all r hs true (fun e => e = .ret r.H) (fun _ _ => rfl) (fun h => absurd hv h) (fun _ h => by simp at h))
theorem rap_open_arg (r : Rp) (hs : r.Small) (hv : ¬ r.Valid) (is : Bool) : APan Pg fn_rap_open [r.v, .bool is] (rfV 1) :=
  APan.of_nil (rap_open_all r hs is (fun e => e = .pan (rfV 1)) (fun h => absurd h hv) (fun _ => rfl) (fun h => absurd h hv))
theorem rap_open_range (r : Rp) (hs : r.Small) (hv : r.Valid) : APan Pg fn_rap_open [r.v, .bool false] (rfV 2) :=
  APan.of_nil (rap_open_all r hs false (fun e => e = .pan (rfV 2)) (fun _ h => by simp at h) (fun h => absurd hv h) (fun _ _ => rfl))
end Go.Cw
end

/- The blows of all truths, one after the other. -/
section
set_option maxRecDepth 100000
set_option linter.unusedSimpArgs false
namespace Go.Cw
open Go Go.Proofs

@[simp] theorem acells_rH (r : Rp) : acells r.H = some [r.H] := (rfl)
@[simp] theorem frz_rH (r : Rp) (x s : Nat) (cells : List AVal) : frz x s cells r.H = r.H := by
  unfold Rp.H Rp.row
  simp [Rp.cells, arr]
@[simp] theorem ren_rH (r : Rp) (x y : Nat) : ren x y r.H = r.H := by
  unfold Rp.H Rp.row
  simp [Rp.cells, arr]

theorem rap_hull_seams_ok (r : Rp) : APure Pg fn_rap_hull_seams [r.H] (.int .i64 r.n) := by
  refine rap_hull_seams.pure (by simp) ?_
  simp [Rp.H, Rp.row, Rp.cells]
  exact RetV.refl rfl
theorem rap_hull_every_ok (r : Rp) (hk : r.k ≤ 40) : APure Pg fn_rap_hull_every [r.H] (.int .u64 (2 ^ r.k - 1)) := by
  have hp := two_pow_le (show r.k ≤ 60 by omega)
  have hpp := two_pow_pos r.k
  have e60 : (2 : Int) ^ 60 = 1152921504606846976 := by decide
  have hrk : r.rs.length = r.k := rfl
  have w1 : IntKind.u64.wrap ((2 : Int) ^ r.k) = 2 ^ r.k := wrap_u64 (by omega) (by omega)
  have w2 : IntKind.u64.wrap ((2 : Int) ^ r.k - 1) = 2 ^ r.k - 1 := wrap_u64 (by omega) (by omega)
  refine rap_hull_every.pure (by simp) ?_
  simp [Rp.H, Rp.row, Rp.cells, hrk, w1, w2]
  exact ⟨by omega, RetV.refl rfl⟩

/-- A list, or none. -/
def bV (b : List Int) : AVal := if b = [] then .nils else L b

theorem clone_nil : APure Pg fn_slices_Clone_int_int [.nils] .nils := by
  refine slices_Clone_int_int.pure (by simp) ?_
  simp [isNil]
  exact RetV.refl rfl
theorem clone_L (b : List Int) (hb : b ≠ []) (hl : b.length ≤ 100000) (nm : Nat) (K : AEnd → Heap → Prop)
    (hK : ∀ s', K (.ret (.sl nm 0 s' b.length (.gr 1))) (hpV [(nm, .row (ints b) s')])) : ACalls Pg fn_slices_Clone_int_int [L b] (hpV [(nm, .dead)]) K := by
  have h0 : b.length ≠ 0 := by simpa using hb
  obtain ⟨F, hF⟩ : ∃ F, nm < F := ⟨nm + 1, by omega⟩
  have e3 : ∀ k, ¬ F + k = nm := fun k => by omega
  have e4 : ∀ k, ¬ nm = F + k := fun k => by omega
  refine slices_Clone_int_int.enter F (by simp) ?_
  have hnil : isNil .s (L b) = some false := isNil_vl h0 _
  simp [hnil, e3, e4, h0]
  intro s5 s7
  refine xAp_cp (by simp) (by simp) (by omega) ?_
  simp [cpV, cpO, h0, e3, e4]
  refine RetV.move (F + 7) nm (RetV.view [(nm, .row (ints b) (s7 + 1))] (by simp [e3, e4]) ?_)
  simpa using hK (s7 + 1)

/-- The function that calls itself. -/
def onV (r : Rp) (sy s : Nat) : AVal := .func (.func fn_rap_hull_blows_1_1) [] [.pv [r.H], .ptr 302 0 sy, .ptr 303 0 s]

theorem rap_on_ok (r : Rp) (hv : r.Valid) {τ : Type} (row : τ → List (Nat × AObj)) (hb : RowsB row 300) (pr : τ → List (List Int)) (yr ys : Nat)
    (hy : ∀ t x (K : AEnd → Heap → Prop), (pr t).length < 100000 → x.length = r.n → (∀ i, i < x.length → 0 ≤ ofL x i ∧ ofL x i ≤ 12) → (∀ t', pr t' = pr t ++ [x] → K (.ret (.bool true)) (hpV (row t'))) → AInvoke Pg (.yield yr ys) [L x] (hpV (row t)) K) (s sy : Nat) :
    ∀ (j : Nat) (b : List Int) (t₀ : τ), b.length + j = r.n → (∀ i, i < b.length → 0 ≤ ofL b i ∧ ofL b i ≤ 12) → (pr t₀).length + (truthsS (r.d.blows.drop b.length) b).length ≤ 100000 →
    ∀ K : AEnd → Heap → Prop, (∀ t, pr t = pr t₀ ++ truthsS (r.d.blows.drop b.length) b → K (.ret (.bool true)) (hpV ((303, .row [onV r sy s] s) :: (302, .row [.yield yr ys] sy) :: row t))) →
      ACalls Pg fn_rap_hull_blows_1_1 [bV b, .pv [r.H], .ptr 302 0 sy, .ptr 303 0 s] (hpV ((303, .row [onV r sy s] s) :: (302, .row [.yield yr ys] sy) :: row t₀)) K := by
  have hdv := hv.d
  have hn1 := hdv.n1
  have hn6 := hdv.n6
  have hnn : r.d.n = r.n := rfl
  intro j
  induction j with
  | zero =>
    intro b t₀ hbn hbb hlen K hK
    have hbl : b.length = r.n := hbn
    have hb0 : ¬ b = [] := by intro e; rw [e] at hbl; simp at hbl; omega
    have hdr : r.d.blows.drop b.length = [] := by rw [List.drop_eq_nil_iff, hdv.bl]; omega
    rw [hdr, show truthsS [] b = [b] from rfl] at hK hlen
    simp at hlen
    refine rap_hull_blows_1_1.enter 320 (by simp) ?_
    simp [bV, hb0]
    refine PCallK.intro (PInv.func (rap_hull_seams_ok r)) ?_
    simp [hbl]
    refine FCall.cps (σ := {t' : τ // pr t' = pr t₀ ++ [b]}) (row t₀) (fun _ => .bool true) (fun t' => row t'.1) (fun _ => True) (fun K' hK' => hy t₀ b K' (by omega) hbl hbb fun t' ht' => hK' ⟨t', ht'⟩ trivial) (by simp [hb.upd, hb.self]) (fun t' => hb.hn _ _) trivial (fun t' _ => ⟨trivial, ?_⟩)
    obtain ⟨t', ht'⟩ := t'
    simp
    refine RetV.view ((303, .row [onV r sy s] s) :: (302, .row [.yield yr ys] sy) :: row t') (by simp [hb.upd, hb.updL, hb.updL_self]) ?_
    exact hK t' ht'
  | succ j ih =>
    intro b t₀ hbn hbb hlen K hK
    have hbl : ¬ b.length = r.n := by omega
    have hbb' : b.length < r.d.blows.length := by rw [hdv.bl]; omega
    obtain ⟨sp, hsp⟩ : ∃ sp, r.d.blows[b.length] = sp := ⟨_, rfl⟩
    have hnar := hdv.narrow sp (by rw [← hsp]; simp)
    have hT : truthsS (r.d.blows.drop b.length) b = (List.range (sp.2 - sp.1 + 1).toNat).flatMap fun (k : Nat) => truthsS (r.d.blows.drop (b.length + 1)) (b ++ [sp.1 + (k : Int)]) := by
      rw [List.drop_eq_getElem_cons hbb', hsp]; rfl
    rw [hT] at hK hlen
    obtain ⟨E, hE⟩ : ∃ E : Nat → List (List Int), E = fun k => (List.range k).flatMap fun (k : Nat) => truthsS (r.d.blows.drop (b.length + 1)) (b ++ [sp.1 + (k : Int)]) := ⟨_, rfl⟩
    have hE0 : E 0 = [] := by rw [hE]; rfl
    have hEs : ∀ k, E (k + 1) = E k ++ truthsS (r.d.blows.drop (b.length + 1)) (b ++ [sp.1 + (k : Int)]) := by
      intro k; rw [hE]; simp only [List.range_succ, List.flatMap_append]; simp
    have hEm : ∀ k n, (E k).length ≤ (E (k + n)).length := by
      intro k n
      induction n with
      | zero => exact Nat.le_refl _
      | succ n ih => rw [← Nat.add_assoc, hEs, List.length_append]; omega
    rw [show ((List.range (sp.2 - sp.1 + 1).toNat).flatMap fun (k : Nat) => truthsS (r.d.blows.drop (b.length + 1)) (b ++ [sp.1 + (k : Int)])) = E (sp.2 - sp.1 + 1).toNat by rw [hE]] at hK hlen
    clear hE
    obtain ⟨me, hme⟩ : ∃ me, me = onV r sy s := ⟨_, rfl⟩
    rw [← hme] at hK ih ⊢
    have hbV : (bV b = .nils ∧ b = []) ∨ (bV b = L b ∧ b ≠ []) := by
      unfold bV; by_cases h : b = []
      · left; simp [h]
      · right; simp [h]
    have hlenb : aLen (bV b) = some (.int .i64 b.length) := by
      rcases hbV with ⟨e, rfl⟩ | ⟨e, _⟩ <;> rw [e] <;> rfl
    have hac : acells (bV b) = some [bV b] := by
      rcases hbV with ⟨e, _⟩ | ⟨e, _⟩ <;> rw [e] <;> rfl
    refine rap_hull_blows_1_1.enter 320 (by simp) ?_
    simp [hlenb]
    refine PCallK.intro (PInv.func (rap_hull_seams_ok r)) ?_
    simp [hbl, hlenb, Rp.H, Rp.row, Rp.cells, hbb', hsp]
    refine ⟨by omega, fun s1 => ?_⟩
    have hH : AVal.pv (L r.d.limits :: LP r.d.beside :: LP r.d.blows :: LR r.rs :: arr r.nrS) = r.H := rfl
    rw [hH]
    refine Lp.intro (σ := Nat × τ) (inv := fun x => x.1 ≤ (sp.2 - sp.1 + 1).toNat ∧ pr x.2 = pr t₀ ++ E x.1)
      (vw := fun x => [(0, bV b), (1, .pv [r.H]), (2, .ptr 302 0 sy), (3, .ptr 303 0 s), (6, .ptr 326 0 (s1+1)), (7, .int .i64 (sp.1 + x.1))])
      (hp := fun x => (326, .row [.int .i64 sp.1, .int .i64 sp.2] (s1+1)) :: (303, .row [me] s) :: (302, .row [.yield yr ys] sy) :: row x.2)
      (ms := fun x => (sp.2 - sp.1 + 1).toNat - x.1) (0, t₀) (by simp [hE0]) (by simp) (by simp [hb.upd, hb.self]) ?_
    rintro ⟨k, t⟩ ⟨hk, hpt⟩ J hJ
    simp only at hk hpt
    by_cases hkc : k < (sp.2 - sp.1 + 1).toNat
    · have hle : sp.1 + (k : Int) ≤ sp.2 := by omega
      obtain ⟨b2, hb2⟩ : ∃ b2, b2 = b ++ [sp.1 + (k : Int)] := ⟨_, rfl⟩
      have hb2l : b2.length = b.length + 1 := by rw [hb2]; simp
      have hb2V : bV b2 = L b2 := by
        unfold bV; rw [if_neg]; intro e; rw [e] at hb2l; simp at hb2l
      have hext := hEs k
      rw [← hb2] at hext
      have hone : (E (k + 1)).length ≤ (E (sp.2 - sp.1 + 1).toNat).length := by
        obtain ⟨n, hn⟩ := Nat.exists_eq_add_of_le hkc
        have := hEm (k + 1) n
        rw [← hn] at this
        exact this
      have call : ∀ (s5 : Nat) (d' : Option Nat) (KK : KT) (Q : Post) (tm : TM) (df : DF) (h : Heap), Hw ((359, .row (ints b2) s5) :: (303, .row [me] s) :: (302, .row [.yield yr ys] sy) :: row t) h →
          (∀ t', pr t' = pr t ++ truthsS (r.d.blows.drop b2.length) b2 → KK (putD tm d' (.bool true)) df (updL h ((359, .dead) :: (303, .row [me] s) :: (302, .row [.yield yr ys] sy) :: row t'))) →
          FCall ⟨Pg, 320, 42, false, []⟩ me [.sl 359 0 s5 (b.length + 1) (.gr 1)] [] [] d' KK Q tm df h := by
        intro s5 d' KK Q tm df h hw hk
        refine FCall.cps (σ := {t' : τ // pr t' = pr t ++ truthsS (r.d.blows.drop b2.length) b2}) ((359, .row (ints b2) s5) :: (303, .row [me] s) :: (302, .row [.yield yr ys] sy) :: row t) (fun _ => .bool true) (fun t' => (359, .dead) :: (303, .row [me] s) :: (302, .row [.yield yr ys] sy) :: row t'.1) (fun _ => True) ?_ hw (fun t' => by simp [hb.hn t'.1 t]) trivial (fun t' _ => ⟨trivial, hk t'.1 t'.2⟩)
        intro K' hK'
        refine AInvoke.frz (cells := ints b2) (s := s5) 359 (upd_same _ _ _) ?_
        have dead : ∀ t'', hpV ((303, .row [me] s) :: (302, .row [.yield yr ys] sy) :: row t'') 359 = .dead := fun t'' => by
          rw [hpV_cons, upd_ne _ _ (by omega), hpV_cons, upd_ne _ _ (by omega)]; exact hb.hpV (by omega) t''
        have := ih b2 t (by omega) (fun i hi => by
          rw [hb2, ofL_snoc]
          simp only []
          split
          · omega
          · exact hbb i (by omega)) (by
          rw [hb2l]
          have h2 : (E (k + 1)).length = (E k).length + (truthsS (r.d.blows.drop (b.length + 1)) b2).length := by rw [hext]; simp
          have h3 : (pr t).length = (pr t₀).length + (E k).length := by rw [hpt]; simp
          omega) K' (fun t' ht' => by
          have := hK' ⟨t', ht'⟩ trivial
          rw [hpV_cons, upd_dead (dead t')] at this
          exact this)
        rw [hpV_cons, upd_upd, upd_dead (dead t)]
        rw [hb2V] at this
        have hfme : frz 359 s5 (ints b2) me = me := by rw [hme]; simp [onV]
        have e2 : frzL 359 s5 (ints b2) [.sl 359 0 s5 (b.length + 1) (.gr 1)] = [L b2] := by simp [L, hb2l]
        rw [hfme, e2]
        have key : AInvoke Pg (onV r sy s) [L b2] (hpV ((303, .row [me] s) :: (302, .row [.yield yr ys] sy) :: row t)) K' := AInvoke.func (by simpa using this)
        rw [← hme] at key
        exact key
      have d358 : ∀ t'', hpV (row t'') 358 = .dead := fun t'' => hb.hpV (by omega) t''
      have d380 : ∀ t'', hpV (row t'') 380 = .dead := fun t'' => hb.hpV (by omega) t''
      simp [hle, hb.upd, hb.self]
      rcases hbV with ⟨e, hb0⟩ | ⟨e, hb0⟩
      · rw [e]
        refine FCall.pure' (v := .nils) (PInv.func (first := []) (cap := []) (args := [.nils]) clone_nil) (by simp [d358]) (by simp [hb.upd, hb.self]) ?_
        have hx : b2 = [sp.1 + (k : Int)] := by rw [hb2, hb0]; rfl
        have hbl0 : b.length = 0 := by rw [hb0]; rfl
        simp
        refine ⟨d358 t, fun s38 s39 => ?_⟩
        have hcall := fun KK Q tm df h => call (s39 + 1) (some 40) KK Q tm df h
        rw [hbl0] at hcall
        refine hcall _ _ _ _ _ (by simp [hx, hb.upd, hb.self]) fun t' ht' => ?_
        simp
        (repeat first | refine And.intro (by omega) ?_ | refine And.intro (Fits.of (by omega) (by omega)) ?_)
        exact hJ.next (k + 1, t') ⟨by simp; omega, by rw [ht', hpt, hext, hb2l, List.append_assoc]⟩ (by simp; omega) (by simp [e]; omega) (by simp [hb.upd, hb.updL, hb.updL_self])
      · rw [e]
        refine FCall.cps [(380, .dead)] (fun s' : Nat => .sl 380 0 s' b.length (.gr 1)) (fun s' => [(380, .row (ints b) s')]) (fun _ => True) (fun K' hK' => AInvoke.func (clone_L b hb0 (by omega) 380 K' fun s' => hK' s' trivial)) (by simp [d380]) (fun _ => rfl) (by simp [d358]) (fun s36 _ => ⟨by simp [hb.upd, hb.self], ?_⟩)
        simp
        refine ⟨d358 t, fun s38 s39 => ⟨by omega, ?_⟩⟩
        refine call (s39 + 1) _ _ _ _ _ _ (by simp [hb2, hb.upd, hb.self]) fun t' ht' => ?_
        simp
        (repeat first | refine And.intro (by omega) ?_ | refine And.intro (Fits.of (by omega) (by omega)) ?_)
        exact hJ.next (k + 1, t') ⟨by simp; omega, by rw [ht', hpt, hext, hb2l, List.append_assoc]⟩ (by simp; omega) (by simp [e]; omega) (by simp [hb.upd, hb.updL, hb.updL_self])
    obtain rfl : k = (sp.2 - sp.1 + 1).toNat := by omega
    have hle : ¬ sp.1 + (((sp.2 - sp.1 + 1).toNat : Nat) : Int) ≤ sp.2 := by omega
    have hle2 : ¬ sp.1 + max (sp.2 - sp.1 + 1) 0 ≤ sp.2 := by omega
    simp [hle2, hb.upd, hb.self]
    refine hJ.exit ?_
    simp
    refine RetV.view ((303, .row [me] s) :: (302, .row [.yield yr ys] sy) :: row t) (by simp [hb.upd, hb.self]) ?_
    exact hK t hpt
end Go.Cw
end

/- What a rap hears; the program's order of sounds. -/
section
set_option maxRecDepth 100000
set_option linter.unusedSimpArgs false
namespace Go.Cw
open Go Go.Proofs Go.Sort

theorem Sim.grown {Z : Snap} {μ : Mu} {h : Heap} {g : Nat} {w : World} (S : Sim Z μ h g w) (q : Nat) (os : Array Obj) :
    Sim Z μ h g (grow (w.drewN q) os) ∧ Tr Z μ h g w Z μ h g (grow (w.drewN q) os) := by
  have hsz : w.heap.size ≤ (grow (w.drewN q) os).heap.size := by
    rw [size_grow]; exact Nat.le_add_right _ _
  have hfr : ∀ b, b < w.heap.size → (grow (w.drewN q) os).heap[b]? = w.heap[b]? := fun b hb => heap_grow_old (w.drewN q) os hb
  refine ⟨⟨fun r => (S.rows r).mono (Ext.refl _ _ _) (fun s hs => hfr _ (S.lt hs).2), S.inj, fun b c hb => ?_, S.sep⟩, ⟨Ext.refl _ _ _, hsz, fun b hb _ => hfr b hb, fun r s hs _ => ⟨r, s, hs, rfl⟩, fun _ _ hb _ => .inl hb, rfl, rfl⟩⟩
  obtain ⟨arr, elem, fr, h1, h2⟩ := S.imm b c hb
  exact ⟨arr, elem, fr, by rw [hfr b (S.imm_lt hb)]; exact h1, h2⟩

theorem APure.of_grown {P : Program} {f : FuncId} {args : List AVal} {v : AVal} (he : Enters P f)
    (hc : ∀ (Z : Snap) (μ : Mu) (g : Nat) (cargs : Array Value), cargs.size = args.length → VPre Z μ g args cargs.toList → ∃ cv, VRel Z μ g v cv ∧ ∀ w, Calls P f cargs w fun e w' => e = .returned cv ∧ ∃ q os', w' = grow (w.drewN q) os') : APure P f args v := by
  refine APure.of_nil ⟨he, fun Z μ g w cargs S hsz hv => ?_⟩
  obtain ⟨cv, hcv, hcall⟩ := hc Z μ g cargs hsz hv
  refine Calls.mono' (hcall w) ?_
  rintro e w' ⟨rfl, q, os, rfl⟩
  obtain ⟨S', T⟩ := S.grown q os
  exact ⟨Z, μ, g, .ret v, _, rfl, ⟨cv, hcv, rfl⟩, S', T⟩

theorem bitQ_inS {s : Int} (hs : 0 ≤ s ∧ s < 2 ^ 62) {n : Nat} (hn : n ≤ 60) : bitQ s n = inS s n := by
  have h0 := two_pow_pos n
  have h2 : 0 ≤ s / 2 ^ n := Int.ediv_nonneg hs.1 (by omega)
  have h3 : s / 2 ^ n ≤ s := Int.ediv_le_self _ hs.1
  have h4 : Go.bits BinOp.and IntKind.u64 (s / 2 ^ n) 1 = s / 2 ^ n % 2 := bitU_and1 h2 (by omega)
  unfold bitQ inS
  rw [show min (n : Int).toNat 64 = n by simp; omega, h4]
  rw [Bool.eq_iff_iff, beq_iff_eq, decide_eq_true_eq]

theorem rap_knock_hears_ok (n : Nat) (hn : n ≤ 60) (d : Bool) (o s : Int) (hs : 0 ≤ s ∧ s < 2 ^ 62) : APure Pg fn_rap_knock_hears [.agg [.int .i64 n, .bool d], .agg [.int .u64 o, .int .u64 s]] (.bool (inS s n == d)) := by
  refine APure.of_grown ⟨_, _, Tryz.func161, rfl, rfl⟩ fun Z μ g cargs hsz hv => ?_
  obtain ⟨u, v, rfl⟩ : ∃ u v, cargs = #[u, v] := by
    match cargs, hsz with
    | ⟨[u, v]⟩, _ => exact ⟨u, v, rfl⟩
  have h1 := (VPre_cons.1 hv).1
  have h2 := (VPre_cons.1 (VPre_cons.1 hv).2).1
  simp only [VRel] at h1 h2
  obtain ⟨c1, rfl, hl1, hp1⟩ := h1
  obtain ⟨c2, rfl, hl2, hp2⟩ := h2
  obtain ⟨a1, b1, rfl⟩ : ∃ a b, c1 = #[a, b] := by
    match c1, hl1 with
    | ⟨[a, b]⟩, _ => exact ⟨a, b, rfl⟩
  obtain ⟨a2, b2, rfl⟩ : ∃ a b, c2 = #[a, b] := by
    match c2, hl2 with
    | ⟨[a, b]⟩, _ => exact ⟨a, b, rfl⟩
  have q1 := (VPre_cons.1 hp1.1).1
  have q2 := (VPre_cons.1 (VPre_cons.1 hp1.1).2).1
  have q3 := (VPre_cons.1 hp2.1).1
  have q4 := (VPre_cons.1 (VPre_cons.1 hp2.1).2).1
  simp only [VRel] at q1 q2 q3 q4
  subst q1 q2 q3 q4
  refine ⟨.bool (inS s n == d), by simp [VRel], fun w => ?_⟩
  have := Tryz.hears161 n d o s (by omega) w
  rw [bitQ_inS hs hn] at this
  exact this
end Go.Cw
end

/- The blows of all truths, as a function that is ranged over. -/
section
set_option maxRecDepth 100000
set_option linter.unusedSimpArgs false
namespace Go.Cw
open Go Go.Proofs

theorem rap_hull_blows_ok (r : Rp) : APure Pg fn_rap_hull_blows [r.H] (.func (.func fn_rap_hull_blows_1) [] [.pv [r.H]]) := by
  refine rap_hull_blows.pure (by simp) ?_
  simp
  intro s1
  refine RetV.frz 1 (cells := [r.H]) (s := s1 + 1) (by simp) ?_
  simp
  exact RetV.refl rfl

theorem rap_hull_blows_1_ok (r : Rp) (hv : r.Valid) {τ : Type} (row : τ → List (Nat × AObj)) (hb : RowsB row 300) (pr : τ → List (List Int)) (yr ys : Nat)
    (hy : ∀ t x (K : AEnd → Heap → Prop), (pr t).length < 100000 → x.length = r.n → (∀ i, i < x.length → 0 ≤ ofL x i ∧ ofL x i ≤ 12) → (∀ t', pr t' = pr t ++ [x] → K (.ret (.bool true)) (hpV (row t'))) → AInvoke Pg (.yield yr ys) [L x] (hpV (row t)) K)
    (t₀ : τ) (h0 : pr t₀ = []) (K : AEnd → Heap → Prop) (hK : ∀ t, pr t = r.d.truths → K (.ret (.tup [])) (hpV (row t))) :
    ACalls Pg fn_rap_hull_blows_1 [.yield yr ys, .pv [r.H]] (hpV (row t₀)) K := by
  have hlen := hv.d.truths_len
  refine rap_hull_blows_1.enter 300 (by simp) ?_
  simp
  intro sy s
  refine FCall.cps (σ := {t' : τ // pr t' = r.d.truths}) ((303, .row [onV r (sy + 1) (s + 1)] (s + 1)) :: (302, .row [.yield yr ys] (sy + 1)) :: row t₀) (fun _ => .bool true) (fun t' => (303, .row [onV r (sy + 1) (s + 1)] (s + 1)) :: (302, .row [.yield yr ys] (sy + 1)) :: row t'.1) (fun _ => True) (fun K' hK' => ?_) ?_ (fun t' => by simp [hb.hn t'.1 t₀]) trivial (fun t' _ => ⟨trivial, ?_⟩)
  · refine AInvoke.func ?_
    have := rap_on_ok r hv row hb pr yr ys hy (s + 1) (sy + 1) r.n [] t₀ (by simp) (fun i hi => by simp at hi) (by rw [h0]; simp; exact Nat.le_trans hlen (by omega)) K' (fun t' ht' => hK' ⟨t', by rw [ht', h0]; rfl⟩ trivial)
    simpa [bV] using this
  · simp [hb.upd, hb.self, onV]
  obtain ⟨t', ht'⟩ := t'
  simp
  refine RetV.view (row t') (by simp [hb.upd, hb.self, hb.updL, hb.updL_self]) ?_
  exact hK t' ht'

/-- The seams that open, of some blows. -/
noncomputable def Rp.opn (r : Rp) (x : List Int) : Int := bits (fun k => decide (0 < r.d.odo (ofL x) k)) r.n
theorem Rp.opn_lt (r : Rp) (x : List Int) : 0 ≤ r.opn x ∧ r.opn x < 2 ^ r.n := bits_lt _ _
/-- The sets that open, as they are met. -/
noncomputable def Rp.seenO (r : Rp) : List (List Int) → List Int
  | [] => []
  | x :: l => insK (r.opn x) (r.seenO l)
/-- What a hull sounds like. -/
def Rp.sndV (r : Rp) (o : Int) : AVal := .agg [.int .u64 o, .int .u64 (r.dullS o)]
end Go.Cw
end

/- What a hull can sound like: the program collects it. -/
section
set_option maxRecDepth 100000
set_option linter.unusedSimpArgs false
namespace Go.Cw
open Go Go.Proofs

namespace Rp
/-- What sounds dull, of a set below 64. -/
def dl (r : Rp) (o : Fin 64) : Int := r.dullS (o.val : Int)
def ek (r : Rp) (o : Fin 64) : AVal := .agg [.int .u64 (o.val : Int), .int .u64 (r.dl o)]
theorem keyLaw (r : Rp) : KeyLaw (true, [.i, .i]) r.ek := ⟨fun a b => by
  unfold ek
  simp only [keyEq, flatEq, if_true, Option.map_some]
  by_cases h : a = b
  · subst h; simp
  · have : ¬ (a.val : Int) = b.val := fun e => h (Fin.ext (by omega))
    simp [h, this]⟩
/-- The set that opens, as a number below 64. -/
noncomputable def opF (r : Rp) (x : List Int) : Fin 64 := if h : (r.opn x).toNat < 64 then ⟨(r.opn x).toNat, h⟩ else 0
theorem opF_val (r : Rp) (hn : r.n ≤ 6) (x : List Int) : ((r.opF x).val : Int) = r.opn x := by
  have h1 := r.opn_lt x
  have h2 := two_pow_le hn
  have e : (2 : Int) ^ 6 = 64 := by decide
  unfold opF
  rw [dif_pos (by omega)]
  simp only
  omega
noncomputable def seenF (r : Rp) (l : List (List Int)) : List (Fin 64) := l.foldl (fun M t => insK (r.opF t) M) []
theorem seenF_push (r : Rp) (l : List (List Int)) (t : List Int) : r.seenF (l ++ [t]) = insK (r.opF t) (r.seenF l) := by simp [seenF]
theorem seenF_nodup (r : Rp) (l : List (List Int)) : (r.seenF l).Nodup := by
  unfold seenF
  suffices h : ∀ (l : List (List Int)) (M : List (Fin 64)), M.Nodup → (l.foldl (fun M t => insK (r.opF t) M) M).Nodup from h l [] List.nodup_nil
  intro l
  induction l with
  | nil => exact fun M h => h
  | cons t l ih => exact fun M h => ih _ (nodup_insK h)
theorem seenF_len (r : Rp) (l : List (List Int)) : (r.seenF l).length ≤ l.length := by
  unfold seenF
  suffices h : ∀ (l : List (List Int)) (M : List (Fin 64)), (l.foldl (fun M t => insK (r.opF t) M) M).length ≤ M.length + l.length by simpa using h l []
  intro l
  induction l with
  | nil => exact fun M => by simp
  | cons t l ih =>
    intro M
    have h1 := ih (insK (r.opF t) M)
    have h2 := (insK_le (r.opF t) M).2
    simp only [List.foldl_cons, List.length_cons]
    omega
/-- What is kept while it is collected. -/
noncomputable def sRow (r : Rp) (s1 s3 s4 s15 sd : Nat) (O : AObj) (t : List (List Int)) : List (Nat × AObj) :=
  [(1, .row [r.H] s1), (3, .row [.map 15 s15] s3), (4, .row [.func (.func fn_rap_around_dull) [.agg r.around] []] s4), (15, .map (entsK r.ek (fun _ => .bool true) (r.seenF t)) s15), (100, O), (101, .dfr false sd)]
theorem sRow_b (r : Rp) (s1 s3 s4 s15 sd : Nat) (O : AObj) : RowsB (r.sRow s1 s3 s4 s15 sd O) 300 := ⟨fun _ _ => rfl, fun t x hx => by simp [sRow] at hx; omega, fun t => by simp [sRow]⟩
end Rp

theorem zeros2 (n : Nat) (a : AVal) : (List.replicate n [a, a]).flatten = List.replicate (n * 2) a := by
  induction n with
  | zero => rfl
  | succ n ih => rw [List.replicate_succ, List.flatten_cons, ih, Nat.succ_mul]; rfl
theorem snF_fill (dl : Fin 64 → Int) (D : List (Fin 64)) (k : Fin 64) {m m' : Nat} (h : m = m' + 1) (a : AVal) : setRange (snF dl D ++ List.replicate (m * 2) a) (D.length * 2) (sndC dl k) = snF dl (D ++ [k]) ++ List.replicate (m' * 2) a := by
  rw [← snds_length dl D, setRange_app]
  subst h
  have : (List.replicate ((m' + 1) * 2) a).drop (sndC dl k).length = List.replicate (m' * 2) a := by
    rw [sndC_len, List.drop_replicate]; congr 1; omega
  rw [this]
  simp [snF, fl]
theorem snF_copy (dl : Fin 64 → Int) (D : List (Fin 64)) (B : List AVal) (a : AVal) : setRange (List.replicate (D.length * 2) a) 0 (List.take (D.length * 2) (List.take (D.length * 2) (snF dl D ++ B))) = snF dl D := by
  rw [List.take_take, Nat.min_self, ← snds_length dl D, List.take_left]
  exact setRange_full _ _ (by simp)
theorem sortF_congr {l m : List (Fin 64)} (h : l.Perm m) : sortF l = sortF m := by
  refine List.Perm.eq_of_pairwise (le := fun a b => a.val ≤ b.val) (fun a b _ _ h1 h2 => Fin.ext (Nat.le_antisymm h1 h2)) (sortF_sorted l) (sortF_sorted m) ?_
  exact ((sortF_perm l).trans h).trans (sortF_perm m).symm
/-- What the hull can sound like. -/
noncomputable def Rp.soundsF (r : Rp) : List (Fin 64) := sortF (r.seenF r.d.truths)
noncomputable def Rp.LS (r : Rp) : AVal := .vl r.soundsF.length (snF r.dl r.soundsF)

theorem rap_hull_sounds_ok (r : Rp) (hs : r.Small) (hv : r.Valid) : APure Pg fn_rap_hull_sounds [r.H] r.LS := by
  have hdv := hv.d
  have hn6 := hdv.n6
  have hnn : r.d.n = r.n := rfl
  have hlen := hdv.truths_len
  refine rap_hull_sounds.pure (by simp) ?_
  have hHd : r.H = .pv (L r.d.limits :: LP r.d.beside :: LP r.d.blows :: LR r.rs :: arr r.nrS) := rfl
  have har : arr r.nrS = r.around := rfl
  simp [hHd, har]
  intro s1 s15 s3 s4
  rw [← har, ← hHd, har]
  refine FCall.pure (v := .func (.func fn_rap_hull_blows_1) [] [.pv [r.H]]) (PInv.func (first := []) (cap := []) (args := [r.H]) (rap_hull_blows_ok r)) ?_
  simp
  refine RF.intro 100 101 rfl (by simp) (by simp) (by simp) fun sl sd LO LB yl => ?_
  refine ACalls.cps (σ := List (List Int)) (r.sRow (s1+1) (s3+1) (s4+1) (s15+1) sd (LO .go) []) (fun _ => .tup []) (fun t => r.sRow (s1+1) (s3+1) (s4+1) (s15+1) sd (LO .go) t) (fun t => t = r.d.truths) (fun K' hK' => ?_) (by simp [Rp.sRow, Rp.seenF]) (fun _ => rfl) fun t ht => ?_
  · refine rap_hull_blows_1_ok r hv (r.sRow (s1+1) (s3+1) (s4+1) (s15+1) sd (LO .go)) (r.sRow_b _ _ _ _ _ _) (fun t => t) 100 sl (fun t x K hlt hxl hxb hk => ?_) [] rfl K' fun t ht => hK' t ht
    refine AInvoke.wk (yl _ _ _ rfl (by simp [Rp.sRow]) ?_)
    have hB : r.d.Blows x := ⟨hxl, fun y hy => by
      obtain ⟨i, hi, rfl⟩ := List.getElem_of_mem hy
      have := hxb i hi
      rw [ofL_at _ hi]; omega⟩
    have cS := drive_Settle_ok r.d hs.d x (by have : x.length = r.n := hxl; omega)
    obtain ⟨od, hod⟩ : ∃ od, od = tab r.d.n (r.d.odo (ofL x)) := ⟨_, rfl⟩
    rw [show r.d.settleV x = .tup [L (tab r.d.n (r.d.left (ofL x))), L od, .int .i64 0] by rw [hod]; simp only [Drv.settleV, hdv, hB, if_true]] at cS
    have hodl : od.length = r.n := by rw [hod]; simp [hnn]
    obtain ⟨p, hp⟩ : ∃ p : Nat → Bool, p = fun k => decide (0 < r.d.odo (ofL x) k) := ⟨_, rfl⟩
    simp [Rp.sRow, hHd, har]
    refine FCall.pure (PInv.func (first := []) (cap := []) (args := [r.d.v, L x]) cS) ?_
    simp
    refine FCall.pure (PInv.func (rap_want_ok 0)) ?_
    simp
    refine Lp.intro (σ := Nat) (inv := fun k => k ≤ r.n) (vw := fun k => [(3, .ptr 3 0 (s3+1)), (4, .ptr 4 0 (s4+1)), (9, .int .u64 (bits p k)), (39, L od), (40, .int .i64 r.n), (41, .int .i64 k)])
      (hp := fun _ => r.sRow (s1+1) (s3+1) (s4+1) (s15+1) sd LB t) (ms := fun k => r.n - k) 0 (by simp) (by simp [hodl, bits]) (by simp [Rp.sRow, hHd, har]) ?_
    intro k hkk J hJ
    by_cases hkc : k < r.n
    · have hkl : k < od.length := by omega
      have hok : od[k] = r.d.odo (ofL x) k := by subst hod; simp
      have h2p := two_pow_le (show k ≤ 6 by omega)
      have hpp := two_pow_pos k
      have e6 : (2 : Int) ^ 6 = 64 := by decide
      have hbl := bits_lt p k
      have hwr : IntKind.u64.wrap ((2 : Int) ^ k) = 2 ^ k := wrap_u64 (by omega) (by omega)
      by_cases hpos : 0 < r.d.odo (ofL x) k
      · have hst : bits p (k + 1) = bitI .or .u64 (bits p k) (2 ^ k) := by
          rw [bitsU_or1 _ _ (by omega)]; simp [bits, hp, hpos]
        simp [hkc, hkl, hok, hpos, Rp.sRow]
        refine ⟨by omega, fun s51 => ?_⟩
        rw [hwr]
        refine FCall.frz1 51 (cells := [.int .u64 (bits p k), .int .u64 (2 ^ k)]) (s := s51 + 1) (by simp) (v := .int .u64 (bits p (k + 1))) ?_ trivial ?_
        · simp
          rw [hst]
          exact PInv.func (first := []) (cap := []) (args := [_]) (rap_union_ok (bits p k) (2 ^ k) ⟨hbl.1, by omega⟩)
        simp
        (repeat first | refine And.intro (by omega) ?_ | refine And.intro (Fits.of (by omega) (by omega)) ?_)
        exact hJ.next (k + 1) (by omega) (by omega) (by simp) (by simp [Rp.sRow])
      · have hst : bits p (k + 1) = bits p k := by simp [bits, hp, hpos]
        simp [hkc, hkl, hok, hpos, Rp.sRow]
        (repeat first | refine And.intro (by omega) ?_ | refine And.intro (Fits.of (by omega) (by omega)) ?_)
        exact hJ.next (k + 1) (by omega) (by omega) (by simp [hst]) (by simp [Rp.sRow])
    obtain rfl : k = r.n := by omega
    simp
    refine hJ.exit ?_
    have hopn : bits p r.n = r.opn x := by rw [hp]; rfl
    have hopl := r.opn_lt x
    simp [Rp.sRow, hopn]
    refine FCall.pure' (v := .int .u64 (r.dullS (r.opn x))) (PInv.func (first := [.agg r.around]) (cap := []) (args := [.int .u64 (r.opn x)]) (rap_around_dull_ok r (by omega) (r.opn x) hopl)) trivial (by simp) ?_
    have hopF := r.opF_val (by omega) x
    simp
    refine osat_iff.2 ⟨_, mapU_K r.keyLaw (k := r.opF x) (M := r.seenF t) (f := fun _ => .bool true) (f' := fun _ => .bool true) (m := 15) (s := s15 + 1) (r.seenF_nodup t) ?_ (by simp) (by simp [Rp.ek, Rp.dl, hopF]) (by simp) (fun _ _ _ => rfl), ?_⟩
    · simp
    rw [← r.seenF_push]
    simp
    exact Wk.view (r.sRow (s1+1) (s3+1) (s4+1) (s15+1) sd (LO .go) (t ++ [x])) (by simp [Rp.sRow]) (by simpa using hk (t ++ [x]) rfl)
  · refine ⟨.go, by simp [Rp.sRow], ?_⟩
    obtain ⟨C, hC⟩ : ∃ C, C = r.seenF t := ⟨_, rfl⟩
    have hnd : C.Nodup := by rw [hC]; exact r.seenF_nodup t
    have hcl : C.length ≤ 729 := by rw [hC]; have := r.seenF_len t; rw [ht] at this ⊢; omega
    simp [Rp.sRow, ← hC]
    intro s62
    refine ⟨by omega, fun s64 => ?_⟩
    refine Lp.intro (σ := List (Fin 64) × List Nat × Option Nat) (inv := fun t => (t.1 ++ keysAt C t.2.1).Perm C)
      (vw := fun t => [(12, .sl 62 0 (s62+1) t.1.length (.ex C.length)), (64, .ptr 64 0 (s64+1))])
      (hp := fun t => [(101, .dfr false sd), (15, .map (entsK r.ek (fun _ => .bool true) C) (s15+1)), (62, .row (snF r.dl t.1 ++ List.replicate ((C.length - t.1.length) * 2) (.int .u64 0)) (s62+1)), (64, .iter (some (15, s15+1)) C.length t.2.1 t.2.2 (s64+1))])
      (ms := fun t => C.length - t.1.length) ([], List.range C.length, none) (by simp [keysAt_range]) (by simp) (by simp [snF, fl, zeros2]) ?_
    rintro ⟨D, left, cur⟩ hp J hJ
    have hpl := hp.length_eq
    rw [List.length_append] at hpl
    simp only at hpl
    simp
    refine xNextM_K rfl (fun hl => ?_) (fun i k hi hk => ?_)
    · subst hl
      have hD : D.Perm C := by simpa [keysAt] using hp
      simp
      have hDl : D.length ≤ 729 := by have := hD.length_eq; omega
      refine hJ.exit ?_
      simp
      intro s6
      refine ⟨⟨by omega, by omega⟩, by rw [snds_length]; omega, by rw [snds_length]; omega, ?_⟩
      rw [zeros2, snF_copy]
      refine FCall.cps (σ := Unit) [(75, .row (snF r.dl D) (s6 + 1))] (fun _ => .tup []) (fun _ => [(75, .row (snF r.dl (sortF D)) (s6 + 1))]) (fun _ => True) (fun K k => AInvoke.func (slices_SortFunc.c (by omega) (k () trivial))) (by simp) (fun _ => rfl) trivial (fun _ _ => ⟨trivial, ?_⟩)
      have hsd : sortF D = r.soundsF := by rw [sortF_congr hD, hC, ht]; rfl
      simp [hsd]
      have hsl : r.soundsF.length = D.length := by rw [← hsd, sortF_length]
      refine RetV.frz (cells := snF r.dl r.soundsF) (s := s6 + 1) 75 (by simp) (RetV.refl ?_)
      simp [Rp.LS, hsl]
    · have hk1 := keysAt_step hi hk hp
      have hkl : (D ++ [k]).length ≤ C.length := by rw [← hk1.length_eq]; simp
      simp only [List.length_append, List.length_cons, List.length_nil] at hkl
      simp
      refine ⟨_, _, by rw [entsK_get, hk]; rfl, ?_⟩
      simp [show acells (r.ek k) = some (sndC r.dl k) from rfl, sndC]
      intro s6 s7 s8
      refine ⟨⟨by rw [snds_length]; omega, by omega⟩, fun _ => ⟨by rw [snds_length]; omega, ?_⟩, fun hx => by omega⟩
      rw [show [AVal.int IntKind.u64 (k.val : Int), AVal.int IntKind.u64 (r.dl k)] = sndC r.dl k from rfl, snF_fill r.dl D k (m := C.length - D.length) (m' := C.length - (D.length + 1)) (by omega)]
      exact hJ.next (D ++ [k], left.erase i, some i) hk1 (by simp; omega) (by simp) (by simp)
end Go.Cw
end

/- What was heard, and what of some sounds was heard. -/
section
set_option maxRecDepth 100000
set_option linter.unusedSimpArgs false
namespace Go.Cw
open Go Go.Proofs

abbrev Er := Option (Int × Bool)
def earV : Er → AVal
  | none => .iface 168 (.agg [])
  | some a => .iface 170 (.agg [.int .i64 a.1, .bool a.2])
namespace Rp
/-- What was heard by the first raps of a set. -/
def clo (r : Rp) (q : Int) : Nat → List Er
  | 0 => [none]
  | k + 1 => r.clo q k ++ (match r.rs[k]? with
    | some a => if inS q k then [some a] else []
    | none => [])
def earL (r : Rp) (q : Int) (k : Nat) : List AVal := (r.clo q k).map earV
theorem earL_len (r : Rp) (q : Int) (k : Nat) : 0 < (r.earL q k).length ∧ (r.earL q k).length ≤ k + 1 := by
  induction k with
  | zero => simp [earL, clo]
  | succ k ih =>
    simp only [earL, clo, List.map_append, List.length_append] at ih ⊢
    cases hs : r.rs[k]? with
    | none => simp at ih ⊢; omega
    | some a => cases hq : inS q k <;> simp at ih ⊢ <;> omega
theorem earL_one (r : Rp) (q : Int) (k : Nat) (h : (r.earL q k).length = 1) : r.earL q k = [earV none] := by
  induction k with
  | zero => rfl
  | succ k ih =>
    have := r.earL_len q k
    simp only [earL, clo, List.map_append, List.length_append] at h this ih ⊢
    have h2 := ih (by omega)
    have h3 : List.map earV (match r.rs[k]? with
    | some a => if inS q k then [some a] else []
    | none => []) = [] := List.eq_nil_of_length_eq_zero (by omega)
    rw [h2, h3]; rfl
end Rp

theorem rap_hull_ears_ok (r : Rp) (hk : r.k ≤ 40) (q : Int) (hq : 0 ≤ q ∧ q < 2 ^ 62) : APure Pg fn_rap_hull_ears [r.H, .int .u64 q] (.vl (r.earL q r.k).length (r.earL q r.k)) := by
  have hl : r.rs.length = r.k := rfl
  have hHd : r.H = .pv (L r.d.limits :: LP r.d.beside :: LP r.d.blows :: LR r.rs :: arr r.nrS) := rfl
  refine rap_hull_ears.pure (by simp) ?_
  simp [hHd]
  intro s1
  refine Lp.intro (σ := Nat × Nat) (inv := fun x => x.1 ≤ r.k)
    (vw := fun x => [(1, .int .u64 q), (5, if (r.earL q x.1).length = 1 then .sl 10 0 (s1+1) 1 (.ex 1) else .sl 33 0 x.2 (r.earL q x.1).length (.gr 1)), (15, LR r.rs), (16, .int .i64 r.k), (17, .int .i64 x.1)])
    (hp := fun x => if (r.earL q x.1).length = 1 then [(10, .row (r.earL q x.1) (s1+1))] else [(33, .row (r.earL q x.1) x.2)]) (ms := fun x => r.k - x.1) (0, 0) (by simp) (by simp [Rp.earL, Rp.clo, hl]) (by simp [Rp.earL, Rp.clo, earV]) ?_
  rintro ⟨k, st⟩ hkk J hJ
  simp at hkk
  have hcl := r.earL_len q k
  by_cases hkc : k < r.k
  · have hkl : k < r.rs.length := hkc
    obtain ⟨a, hak⟩ : ∃ a, r.rs[k] = a := ⟨_, rfl⟩
    have hcs : r.earL q (k + 1) = r.earL q k ++ (if inS q k then [earV (some a)] else []) := by
      simp only [Rp.earL, Rp.clo, List.map_append, List.getElem?_eq_getElem hkl, hak]
      cases inS q k <;> rfl
    have h0 := two_pow_pos k
    have hdv : 0 ≤ q / 2 ^ k := Int.ediv_nonneg hq.1 (by omega)
    have hdl : q / 2 ^ k ≤ q := Int.ediv_le_self _ hq.1
    have hand := bitU_and1 hdv (by omega)
    have hin : decide (q / 2 ^ k % 2 = 1) = inS q k := rfl
    cases hw : inS q k with
    | false =>
      rw [hw] at hcs hin
      simp at hcs
      have hin' : ¬ q / 2 ^ k % 2 = 1 := by simpa using hin
      by_cases h1 : (r.earL q k).length = 1
      · simp [hkc, hkl, hak, h1, hand, hin']
        refine ⟨by omega, fun s2 => ⟨by omega, ?_⟩⟩
        (repeat first | refine And.intro (by omega) ?_ | refine And.intro (Fits.of (by omega) (by omega)) ?_)
        exact hJ.next (k + 1, st) (by simp; omega) (by simp; omega) (by simp [hcs, h1]) (by simp [hcs, h1])
      · simp [hkc, hkl, hak, h1, hand, hin']
        refine ⟨by omega, fun s2 => ⟨by omega, ?_⟩⟩
        (repeat first | refine And.intro (by omega) ?_ | refine And.intro (Fits.of (by omega) (by omega)) ?_)
        exact hJ.next (k + 1, st) (by simp; omega) (by simp; omega) (by simp [hcs, h1]) (by simp [hcs, h1])
    | true =>
      rw [hw] at hcs hin
      simp at hcs
      have hin' : q / 2 ^ k % 2 = 1 := by simpa using hin
      have hcn : ¬ (r.earL q (k + 1)).length = 1 := by rw [hcs, List.length_append, List.length_singleton]; omega
      by_cases h1 : (r.earL q k).length = 1
      · have hone := r.earL_one q k h1
        simp [hkc, hkl, hak, h1, hand, hin']
        refine ⟨by omega, fun s2 => ⟨by omega, fun s3 s4 => ?_⟩⟩
        (repeat first | refine And.intro (by omega) ?_ | refine And.intro (Fits.of (by omega) (by omega)) ?_)
        refine hJ.next (k + 1, s4 + 1) (by simp; omega) (by simp; omega) (by simp only [if_neg hcn]; simp [hcs, h1]) ?_
        simp only [if_neg hcn]
        simp [hcs, earV, hone]
      · simp [hkc, hkl, hak, h1, hand, hin']
        refine ⟨by omega, fun s2 => ⟨by omega, fun s3 s4 => ⟨by omega, ?_⟩⟩⟩
        (repeat first | refine And.intro (by omega) ?_ | refine And.intro (Fits.of (by omega) (by omega)) ?_)
        refine hJ.next (k + 1, s4 + 1) (by simp; omega) (by simp; omega) (by simp only [if_neg hcn]; simp [hcs]) ?_
        simp only [if_neg hcn]
        simp [hcs, earV]
  obtain rfl : k = r.k := by omega
  by_cases h1 : (r.earL q r.k).length = 1
  · simp [h1]
    refine hJ.exit ?_
    simp
    exact RetV.le (VLe.sl (cells := r.earL q r.k) (by simp)) (RetV.refl (by simp [h1]))
  · simp [h1]
    refine hJ.exit ?_
    simp
    exact RetV.le (VLe.sl (cells := r.earL q r.k) (by simp)) (RetV.refl rfl)
end Go.Cw
end

/- What of some sounds was heard. -/
section
set_option maxRecDepth 100000
set_option linter.unusedSimpArgs false
namespace Go.Cw
open Go Go.Proofs

section
variable (dl : Fin 64 → Int) (l : List (Fin 64))
def LF : AVal := .vl l.length (snF dl l)
@[simp] theorem snF_length : (snF dl l).length = l.length * 2 := snds_length dl l
@[simp] theorem snF_drop (k : Nat) : (snF dl l).drop (k * 2) = snF dl (l.drop k) := fl_drop (sndC_len dl) l k
@[simp] theorem snF_head : (snF dl l).head? = l.head?.map fun a => .int .u64 (a.val : Int) := by
  cases l <;> rfl
@[simp] theorem snF_get1 : (snF dl l)[1]? = l.head?.map fun a => .int .u64 (dl a) := by
  cases l <;> rfl
@[simp] theorem snF_take2 : (snF dl l).take 2 = (l.head?.map fun a => [.int .u64 (a.val : Int), .int .u64 (dl a)]).getD [] := fl_take (sndC_len dl) l
@[simp] theorem frz_LF (r s : Nat) (cells : List AVal) : frz r s cells (LF dl l) = LF dl l := (rfl)
@[simp] theorem ren_LF (r nm : Nat) : ren r nm (LF dl l) = LF dl l := (rfl)
@[simp] theorem acells_LF : acells (LF dl l) = some [LF dl l] := (rfl)
@[simp] theorem aLen_LF : aLen (LF dl l) = some (.int .i64 l.length) := (rfl)
@[simp] theorem satIxS_LF (k : IntKind) (n : Int) (K : AVal → Prop) : satIxS 2 (LF dl l) (.int k n) K = ((0 ≤ n ∧ n < l.length) ∧ K (.pv (snF dl (l.drop n.toNat)))) := by simp [LF]
@[simp] theorem xEl_LF (h : Heap) (K : Nat → List AVal → Prop) : xEl h 2 (LF dl l) K = K l.length (snF dl l) := by
  simp only [LF, xEl_vl, snF_length, Nat.le_refl, true_and]
  rw [List.take_of_length_le (by simp)]
theorem snF_push (a : Fin 64) : snF dl l ++ [.int .u64 (a.val : Int), .int .u64 (dl a)] = snF dl (l ++ [a]) := by simp [snF, fl, sndC]
end

namespace Rp
theorem LS_eq (r : Rp) : r.LS = LF r.dl r.soundsF := rfl
/-- Can the hull sound so? -/
def okO (r : Rp) (x : Fin 64) : Er → Bool
  | none => true
  | some a => inS (r.dl x) a.1.toNat == a.2
/-- What of some sounds was heard. -/
def heardF (r : Rp) (q : Int) (l : List (Fin 64)) : List (Fin 64) := l.filter fun x => (r.clo q r.k).all (r.okO x)
end Rp

theorem hears_knock : MethAt Pg 170 "caulkworks/rap.hears" fn_rap_knock_hears := ⟨fun _ _ => by kernel_rfl⟩
theorem hears_nothing : MethAt Pg 168 "caulkworks/rap.hears" fn_rap_nothing_hears := ⟨fun _ _ => by kernel_rfl⟩
theorem fine_knock : fineM Pg 170 "caulkworks/rap.hears" = true := by kernel_rfl
theorem fine_nothing : fineM Pg 168 "caulkworks/rap.hears" = true := by kernel_rfl
theorem aNilck_ear (o : Er) : aNilck Pg (.func (.method "caulkworks/rap.hears") [earV o] []) = some (.func (.method "caulkworks/rap.hears") [earV o] []) := by
  cases o <;> simp [earV, fine_knock, fine_nothing]

theorem rap_nothing_hears_ok (o s : Int) : APure Pg fn_rap_nothing_hears [.agg [], .agg [.int .u64 o, .int .u64 s]] (.bool true) := by
  refine APure.of_grown ⟨_, _, Tryz.func160, rfl, rfl⟩ fun Z μ g cargs hsz hv => ?_
  obtain ⟨u, v, rfl⟩ : ∃ u v, cargs = #[u, v] := by
    match cargs, hsz with
    | ⟨[u, v]⟩, _ => exact ⟨u, v, rfl⟩
  have h1 := (VPre_cons.1 hv).1
  have h2 := (VPre_cons.1 (VPre_cons.1 hv).2).1
  simp only [VRel] at h1 h2
  obtain ⟨c1, rfl, hl1, hp1⟩ := h1
  obtain ⟨c2, rfl, hl2, hp2⟩ := h2
  obtain rfl : c1 = #[] := Array.eq_empty_of_size_eq_zero (by simpa using hl1)
  obtain ⟨a2, b2, rfl⟩ : ∃ a b, c2 = #[a, b] := by
    match c2, hl2 with
    | ⟨[a, b]⟩, _ => exact ⟨a, b, rfl⟩
  have q3 := (VPre_cons.1 hp2.1).1
  have q4 := (VPre_cons.1 (VPre_cons.1 hp2.1).2).1
  simp only [VRel] at q3 q4
  subst q3 q4
  exact ⟨.bool true, by simp [VRel], fun w => Tryz.nothing160 o s w⟩

theorem Rp.dl_lt {r : Rp} (hn : r.n ≤ 6) (x : Fin 64) : 0 ≤ r.dl x ∧ r.dl x < 64 := by
  have h1 := bits_lt (r.hears (x.val : Int)) r.n
  have h2 := two_pow_le hn
  have e : (2 : Int) ^ 6 = 64 := by decide
  have : r.dl x = bits (r.hears (x.val : Int)) r.n := rfl
  omega

theorem rap_hears_ok {r : Rp} (hv : r.Valid) (o : Er) (ho : ∀ a, o = some a → a ∈ r.rs) (x : Fin 64) :
    PInv Pg (.func (.method "caulkworks/rap.hears") [earV o] []) [.agg [.int .u64 (x.val : Int), .int .u64 (r.dl x)]] (.bool (r.okO x o)) := by
  intro hh
  cases o with
  | none => exact AInvoke.meth hears_nothing (rap_nothing_hears_ok _ _ hh)
  | some a =>
    have h1 := hv.sm a (ho a rfl)
    have h2 := hv.d.n6
    have h3 := r.dl_lt h2 x
    have ha : a.1 = (a.1.toNat : Int) := by unfold Drv.Seam at h1; omega
    have := rap_knock_hears_ok a.1.toNat (by unfold Drv.Seam at h1; omega) a.2 (x.val : Int) (r.dl x) (by omega)
    rw [← ha] at this
    exact AInvoke.meth hears_knock (this hh)

theorem Rp.clo_mem {r : Rp} {q : Int} {k : Nat} {o : Er} (h : o ∈ r.clo q k) : ∀ a, o = some a → a ∈ r.rs := by
  rintro a rfl
  induction k with
  | zero => simp [clo] at h
  | succ k ih =>
    simp only [clo, List.mem_append] at h
    rcases h with h | h
    · exact ih h
    · cases hs : r.rs[k]? with
      | none => simp [hs] at h
      | some b =>
        cases hq : inS q k <;> simp [hs, hq] at h
        subst h
        exact List.mem_of_getElem? hs

theorem rap_hull_heard_ok (r : Rp) (hv : r.Valid) (q : Int) (hq : 0 ≤ q ∧ q < 2 ^ 62) (l : List (Fin 64)) (hl : l.length ≤ 1000) : APure Pg fn_rap_hull_heard [r.H, LF r.dl l, .int .u64 q] (LF r.dl (r.heardF q l)) := by
  have hk := hv.k10
  obtain ⟨C, hC⟩ : ∃ C, C = r.clo q r.k := ⟨_, rfl⟩
  have hCV : r.earL q r.k = C.map earV := by rw [hC]; rfl
  have hCl : C.length ≤ r.k + 1 := by have := (r.earL_len q r.k).2; rwa [hCV, List.length_map] at this
  obtain ⟨H, hH⟩ : ∃ H, H = r.H := ⟨_, rfl⟩
  have cE := rap_hull_ears_ok r (by omega) q hq
  rw [hCV, List.length_map] at cE
  rw [← hH] at cE ⊢
  refine rap_hull_heard.pure (by simp) ?_
  simp
  refine FCall.pure (v := .vl C.length (C.map earV)) (PInv.func (first := []) (cap := []) (args := [H, .int .u64 q]) cE) ?_
  simp
  obtain ⟨kept, hkept⟩ : ∃ kept : Nat → List (Fin 64), kept = fun k => (l.take k).filter fun x => C.all (r.okO x) := ⟨_, rfl⟩
  have hkl : ∀ k, (kept k).length ≤ k := fun k => by
    rw [hkept]; have := List.length_filter_le (fun x => C.all (r.okO x)) (l.take k); rw [List.length_take] at this; simp only; omega
  have hk0 : kept 0 = [] := by rw [hkept]; rfl
  refine Lp.intro' (σ := Nat × Nat) (inv := fun x => x.1 ≤ l.length)
    (vw := fun x => [(6, gS 2 35 (kept x.1).length x.2), (7, .vl C.length (C.map earV)), (15, LF r.dl l), (16, .int .i64 l.length), (17, .int .i64 x.1)])
    (hp := fun x => [(35, gO (kept x.1).length (snF r.dl (kept x.1)) x.2)]) (ms := fun x => l.length - x.1) (0, 0) (by simp) (Sl.wk 6 .es (by simpa using ALe.nils_es) (Sl.refl ⟨rfl, by simp [hk0], by simp [hk0]⟩)) ?_
  rintro ⟨k, st⟩ hkk J hJ
  simp at hkk
  by_cases hkc : k < l.length
  · obtain ⟨x, hx⟩ : ∃ x, l[k] = x := ⟨_, rfl⟩
    have hks : kept (k + 1) = kept k ++ (if C.all (r.okO x) then [x] else []) := by
      rw [hkept]
      simp only [← List.take_append_getElem hkc, List.filter_append, hx]
      congr 1
      by_cases hc : C.all (r.okO x) = true
      · rw [if_pos hc, List.filter_cons_of_pos (by exact hc), List.filter_nil]
      · rw [if_neg hc, List.filter_cons_of_neg (by exact hc), List.filter_nil]
    simp [hkc, hx]
    refine ⟨by omega, fun s9 => ?_⟩
    refine Lp.intro (σ := Nat) (inv := fun j => j ≤ C.length ∧ (C.take j).all (r.okO x) = true)
      (vw := fun j => [(6, gS 2 35 (kept k).length st), (7, .vl C.length (C.map earV)), (9, .ptr 9 0 (s9+1)), (15, LF r.dl l), (16, .int .i64 l.length), (17, .int .i64 k), (21, .vl C.length (C.map earV)), (22, .int .i64 C.length), (23, .int .i64 j)])
      (hp := fun _ => [(9, .row [.int .u64 (x.val : Int), .int .u64 (r.dl x)] (s9+1)), (35, gO (kept k).length (snF r.dl (kept k)) st)]) (ms := fun j => C.length - j) 0 (by simp) (by simp) (by simp) ?_
    intro j hj J2 hJ2
    obtain ⟨hj1, hj2⟩ := hj
    by_cases hjc : j < C.length
    · obtain ⟨o, ho⟩ : ∃ o, C[j] = o := ⟨_, rfl⟩
      have hom : o ∈ r.clo q r.k := by rw [← hC, ← ho]; exact List.getElem_mem hjc
      simp [hjc, ho, aNilck_ear]
      refine FCall.pure (rap_hears_ok hv o (Rp.clo_mem hom) x) ?_
      cases hob : r.okO x o
      · have hall : C.all (r.okO x) = false := by
          rw [Bool.eq_false_iff]
          intro h
          have := List.all_eq_true.1 h o (by rw [← ho]; exact List.getElem_mem hjc)
          rw [hob] at this; cases this
        rw [hall] at hks
        simp at hks
        simp
        refine hJ2.exit ?_
        simp
        (repeat first | refine And.intro (by omega) ?_ | refine And.intro (Fits.of (by omega) (by omega)) ?_)
        exact hJ.next (k + 1, st) (by simp; omega) (by simp; omega) (by simp [hks]) (by simp [hks])
      · simp
        (repeat first | refine And.intro (by omega) ?_ | refine And.intro (Fits.of (by omega) (by omega)) ?_)
        exact hJ2.next (j + 1) ⟨by omega, by rw [← List.take_append_getElem hjc, List.all_append, hj2, ho]; simp [hob]⟩ (by omega) (by simp) (by simp)
    · obtain rfl : j = C.length := by omega
      have hall := hj2
      rw [List.take_length] at hall
      rw [hall] at hks
      simp at hks
      have hkk1 := hkl k
      simp
      refine hJ2.exit ?_
      simp
      intro s10 s11
      refine xApN_gS (cells := snF r.dl (kept k)) (by simp) (by simp) (by omega) (by omega) ?_
      rw [snF_push]
      simp
      (repeat first | refine And.intro (by omega) ?_ | refine And.intro (Fits.of (by omega) (by omega)) ?_)
      exact hJ.next (k + 1, s11 + 1) (by simp; omega) (by simp; omega) (by simp [hks]) (by simp [hks])
  · obtain rfl : k = l.length := by omega
    simp
    refine hJ.exit ?_
    simp
    refine RetV.le (VLe.gS (cells := snF r.dl (kept l.length)) (s := st) (by simp) (by simp)) (RetV.refl ?_)
    have : kept l.length = r.heardF q l := by rw [hkept]; simp only [List.take_length]; rw [hC]; rfl
    rw [this]; rfl
end Go.Cw
end

/- What the hull can sound like, after what was heard. -/
section
set_option maxRecDepth 100000
set_option linter.unusedSimpArgs false
namespace Go.Cw
open Go Go.Proofs

namespace Rp
noncomputable def canF (r : Rp) : List (Fin 64) := r.heardF (2 ^ r.k - 1) r.soundsF
theorem soundsF_len {r : Rp} (hv : r.Valid) : r.soundsF.length ≤ 729 := by
  have h1 := hv.d.truths_len
  have h2 := r.seenF_len r.d.truths
  unfold soundsF
  rw [sortF_length]; omega
theorem canF_len {r : Rp} (hv : r.Valid) : r.canF.length ≤ 729 := by
  have h1 := r.soundsF_len hv
  have h2 : r.canF.length ≤ r.soundsF.length := List.length_filter_le _ _
  omega
theorem every62 {r : Rp} (hv : r.Valid) : 0 ≤ (2 : Int) ^ r.k - 1 ∧ (2 : Int) ^ r.k - 1 < 2 ^ 62 := by
  have h1 := two_pow_pos r.k
  have h2 := two_pow_le (show r.k ≤ 60 by have := hv.k10; omega)
  have e60 : (2 : Int) ^ 60 = 1152921504606846976 := by decide
  omega
end Rp

section
variable (r : Rp) (hs : r.Small) (hv : r.Valid)
include hs hv
theorem rap_hull_can_ok (hc : r.canF ≠ []) : APure Pg fn_rap_hull_can [r.H] (LF r.dl r.canF) := by
  have hlen : 0 < r.canF.length := List.length_pos_iff.2 hc
  obtain ⟨H, hH⟩ : ∃ H, H = r.H := ⟨_, rfl⟩
  have c1 := rap_hull_sounds_ok r hs hv
  have c2 := rap_hull_every_ok r (by have := hv.k10; omega)
  have c3 := rap_hull_heard_ok r hv (2 ^ r.k - 1) (Rp.every62 hv) r.soundsF (by have := Rp.soundsF_len hv; omega)
  rw [Rp.LS_eq] at c1
  rw [← hH] at c1 c2 c3 ⊢
  refine rap_hull_can.pure (by simp) ?_
  simp
  refine FCall.pure (PInv.func c1) ?_
  simp
  refine PCallK.intro (PInv.func c2) ?_
  simp
  refine FCall.pure (PInv.func c3) ?_
  simp [show r.heardF (2 ^ r.k - 1) r.soundsF = r.canF from rfl, hlen]
  refine FCall.pure (PInv.func (rap_want_ok 10)) ?_
  simp
  exact RetV.refl rfl
theorem rap_hull_can_pan (hc : r.canF = []) : APan Pg fn_rap_hull_can [r.H] (rfV 10) := by
  obtain ⟨H, hH⟩ : ∃ H, H = r.H := ⟨_, rfl⟩
  have c1 := rap_hull_sounds_ok r hs hv
  have c2 := rap_hull_every_ok r (by have := hv.k10; omega)
  have c3 := rap_hull_heard_ok r hv (2 ^ r.k - 1) (Rp.every62 hv) r.soundsF (by have := Rp.soundsF_len hv; omega)
  rw [Rp.LS_eq] at c1
  rw [← hH] at c1 c2 c3 ⊢
  refine APan.of_nil (rap_hull_can.enter 0 (by simp) ?_)
  simp
  refine FCall.pure (PInv.func c1) ?_
  simp
  refine PCallK.intro (PInv.func c2) ?_
  simp
  refine FCall.pure (PInv.func c3) ?_
  simp [show r.heardF (2 ^ r.k - 1) r.soundsF = r.canF from rfl, hc]
  refine FCall.pan (PInvPan.func (rap_want_pan 10)) ?_
  simp
  exact ⟨_, HLe.refl _, trivial⟩
end
end Go.Cw
end

/- Sets: which sets of seams can be open. -/
section
set_option maxRecDepth 100000
set_option linter.unusedSimpArgs false
namespace Go.Cw
open Go Go.Proofs

namespace Rp
noncomputable def setsL (r : Rp) : List Int := r.canF.map fun x => (x.val : Int)
noncomputable def setsV (r : Rp) : AVal := if r.Valid then (if r.canF = [] then .tup [L [], .int .i64 10] else .tup [L r.setsL, .int .i64 0]) else .tup [L [], .int .i64 1]
end Rp

theorem rap_Sets_ok (r : Rp) (hs : r.Small) : APure Pg fn_rap_Sets [r.v] r.setsV := by
  by_cases hv : ¬ r.Valid
  · refine rap_Sets.pure (by simp) ?_
    simp
    intro s1 s2
    refine FCall.pan (PInvPan.func (rap_open_arg r hs hv _)) ?_
    simp
    refine RetD.panic rfl rap_Sets_1.recClo ?_
    refine ACalls.cps [(3, .row [.int .i64 0] (s2 + 1))] (fun _ : Unit => .tup []) (fun _ => [(3, .row [.int .i64 1] (s2 + 1))]) (fun _ => True) (fun K' hK' => rap_said_ref _ _ _ _ K' (hK' () trivial)) (by simp) (fun _ => rfl) fun _ _ => ?_
    simp
    exact RetV.ale (v' := .tup [L [], .int .i64 1]) (ALe.tup ⟨ALe.nils_vl, ALe.refl _, trivial⟩) (RetV.refl (by simp [Rp.setsV, hv]))
  replace hv := Classical.not_not.1 hv
  by_cases hc : r.canF = []
  · refine rap_Sets.pure (by simp) ?_
    simp
    intro s1 s2
    refine FCall.pure (PInv.func (rap_open_ok r hs hv)) ?_
    simp
    refine FCall.pan (PInvPan.func (rap_hull_can_pan r hs hv hc)) ?_
    simp
    refine RetD.panic rfl rap_Sets_1.recClo ?_
    refine ACalls.cps [(3, .row [.int .i64 0] (s2 + 1))] (fun _ : Unit => .tup []) (fun _ => [(3, .row [.int .i64 10] (s2 + 1))]) (fun _ => True) (fun K' hK' => rap_said_ref _ _ _ _ K' (hK' () trivial)) (by simp) (fun _ => rfl) fun _ _ => ?_
    simp
    exact RetV.ale (v' := .tup [L [], .int .i64 10]) (ALe.tup ⟨ALe.nils_vl, ALe.refl _, trivial⟩) (RetV.refl (by simp [Rp.setsV, hv, hc]))
  obtain ⟨l, hl⟩ : ∃ l, l = r.canF := ⟨_, rfl⟩
  obtain ⟨H, hH⟩ : ∃ H, H = r.H := ⟨_, rfl⟩
  have hl729 : l.length ≤ 729 := by rw [hl]; exact r.canF_len hv
  have cO := rap_open_ok r hs hv
  have cC := rap_hull_can_ok r hs hv hc
  rw [← hH] at cO cC
  rw [← hl] at cC
  refine rap_Sets.pure (by simp) ?_
  simp
  intro s1 s2
  refine FCall.pure (PInv.func cO) ?_
  simp
  refine FCall.pure (PInv.func cC) ?_
  simp
  obtain ⟨g, hg⟩ : ∃ g : Nat → List Int, g = fun k => (l.take k).map fun x => (x.val : Int) := ⟨_, rfl⟩
  have hgl : ∀ k, k ≤ l.length → (g k).length = k := fun k hk => by rw [hg]; simp; omega
  have hg0 : g 0 = [] := by rw [hg]; rfl
  refine Lp.intro' (σ := Nat × Nat) (inv := fun x => x.1 ≤ l.length)
    (vw := fun x => [(2, .nils), (3, .ptr 3 0 (s2+1)), (4, gS 1 21 (g x.1).length x.2), (10, LF r.dl l), (11, .int .i64 l.length), (12, .int .i64 x.1)])
    (hp := fun x => [(3, .row [.int .i64 0] (s2+1)), (21, gO (g x.1).length (ints (g x.1)) x.2)]) (ms := fun x => l.length - x.1) (0, 0) (by simp) (Sl.wk 4 .es (by simpa using ALe.nils_es) (Sl.refl ⟨rfl, by simp [hg0], by simp [hg0]⟩)) ?_
  rintro ⟨k, st⟩ hkk J hJ
  simp at hkk
  by_cases hkc : k < l.length
  · obtain ⟨x, hx⟩ : ∃ x, l[k] = x := ⟨_, rfl⟩
    have hgs : g (k + 1) = g k ++ [(x.val : Int)] := by
      rw [hg]; simp only [← List.take_append_getElem hkc, List.map_append, hx, List.map_cons, List.map_nil]
    have hk1 := hgl k (by omega)
    have hw : IntKind.i64.wrap (x.val : Int) = x.val := wrap_i64s (by omega) (by omega)
    simp [hkc, hx, hw]
    refine ⟨by omega, fun s3 => ⟨by unfold Fits; omega, fun s4 s5 => ?_⟩⟩
    refine xApN_gS (cells := ints (g k)) (by simp) (by simp) (by omega) (by omega) ?_
    simp
    (repeat first | refine And.intro (by omega) ?_ | refine And.intro (Fits.of (by omega) (by omega)) ?_)
    exact hJ.next (k + 1, s5 + 1) (by simp; omega) (by simp; omega) (by simp [hgs]) (by simp [hgs])
  · obtain rfl : k = l.length := by omega
    simp
    refine hJ.exit ?_
    simp
    refine RetD.ret rfl rap_Sets_1.recClo ((rap_said_nil _ _).mono ?_)
    rintro e h' ⟨rfl, rfl⟩
    simp
    refine RetV.le (VLe.tup_gS (cells := ints (g l.length)) (by simp) (by simp)) (RetV.refl ?_)
    have : g l.length = r.setsL := by rw [hg]; simp only [List.take_length, hl]; rfl
    simp [Rp.setsV, hv, hc, this, L]
end Go.Cw
end

/- Open: which seams can be open, and which surely are. -/
section
set_option maxRecDepth 100000
set_option linter.unusedSimpArgs false
namespace Go.Cw
open Go Go.Proofs

def anyS (l : List (Fin 64)) (i : Nat) : Bool := l.any fun x => inS (x.val : Int) i
def allS (l : List (Fin 64)) (i : Nat) : Bool := l.all fun x => inS (x.val : Int) i
theorem anyS_push (l : List (Fin 64)) (x : Fin 64) : anyS (l ++ [x]) = fun i => anyS l i || inS (x.val : Int) i := by
  funext i; simp [anyS]
theorem allS_push (l : List (Fin 64)) (x : Fin 64) : allS (l ++ [x]) = fun i => allS l i && inS (x.val : Int) i := by
  funext i; simp [allS]
theorem fin64_bits (x : Fin 64) : bits (inS (x.val : Int)) 6 = x.val := by
  have e : (2 : Int) ^ 6 = 64 := by decide
  exact bits_inS ⟨by omega, by omega⟩
theorem bits_64 (p : Nat → Bool) : 0 ≤ bits p 6 ∧ bits p 6 < 64 := by
  have h := bits_lt p 6
  have e : (2 : Int) ^ 6 = 64 := by decide
  omega

namespace Rp
noncomputable def openV (r : Rp) : AVal := if r.Valid then (if r.canF = [] then .tup [.int .i64 0, .int .i64 0, .int .i64 10] else .tup [.int .i64 (bits (anyS r.canF) 6), .int .i64 (bits (allS r.canF) 6), .int .i64 0]) else .tup [.int .i64 0, .int .i64 0, .int .i64 1]
end Rp

theorem rap_Open_ok (r : Rp) (hs : r.Small) : APure Pg fn_rap_Open [r.v] r.openV := by
  by_cases hv : ¬ r.Valid
  · refine rap_Open.pure (by simp) ?_
    simp
    intro s1 s2
    refine FCall.pan (PInvPan.func (rap_open_arg r hs hv _)) ?_
    simp
    refine RetD.panic rfl rap_Open_1.recClo ?_
    refine ACalls.cps [(4, .row [.int .i64 0] (s2 + 1))] (fun _ : Unit => .tup []) (fun _ => [(4, .row [.int .i64 1] (s2 + 1))]) (fun _ => True) (fun K' hK' => rap_said_ref _ _ _ _ K' (hK' () trivial)) (by simp) (fun _ => rfl) fun _ _ => ?_
    simp
    exact RetV.refl (by simp [Rp.openV, hv])
  replace hv := Classical.not_not.1 hv
  by_cases hc : r.canF = []
  · refine rap_Open.pure (by simp) ?_
    simp
    intro s1 s2
    refine FCall.pure (PInv.func (rap_open_ok r hs hv)) ?_
    simp
    refine FCall.pan (PInvPan.func (rap_hull_can_pan r hs hv hc)) ?_
    simp
    refine RetD.panic rfl rap_Open_1.recClo ?_
    refine ACalls.cps [(4, .row [.int .i64 0] (s2 + 1))] (fun _ : Unit => .tup []) (fun _ => [(4, .row [.int .i64 10] (s2 + 1))]) (fun _ => True) (fun K' hK' => rap_said_ref _ _ _ _ K' (hK' () trivial)) (by simp) (fun _ => rfl) fun _ _ => ?_
    simp
    exact RetV.refl (by simp [Rp.openV, hv, hc])
  obtain ⟨l, hl⟩ : ∃ l, l = r.canF := ⟨_, rfl⟩
  obtain ⟨H, hH⟩ : ∃ H, H = r.H := ⟨_, rfl⟩
  have hl729 : l.length ≤ 729 := by rw [hl]; exact r.canF_len hv
  have cO := rap_open_ok r hs hv
  have cC := rap_hull_can_ok r hs hv hc
  rw [← hH] at cO cC
  rw [← hl] at cC
  refine rap_Open.pure (by simp) ?_
  simp
  intro s1 s2
  refine FCall.pure (PInv.func cO) ?_
  simp
  refine FCall.pure (PInv.func cC) ?_
  simp
  refine Lp.intro (σ := Nat) (inv := fun k => k ≤ l.length)
    (vw := fun k => [(2, .int .i64 0), (3, .int .i64 0), (4, .ptr 4 0 (s2+1)), (5, .int .u64 (bits (anyS (l.take k)) 6)), (6, .int .u64 (bits (allS (l.take k)) 6)), (12, LF r.dl l), (13, .int .i64 l.length), (14, .int .i64 k)])
    (hp := fun _ => [(4, .row [.int .i64 0] (s2+1))]) (ms := fun k => l.length - k) 0 (by simp) (by simp [anyS, allS, bits]) (by simp) ?_
  intro k hkk J hJ
  by_cases hkc : k < l.length
  · obtain ⟨x, hx⟩ : ∃ x, l[k] = x := ⟨_, rfl⟩
    have htk : l.take (k + 1) = l.take k ++ [x] := by rw [← hx, List.take_append_getElem hkc]
    have h1 : bits (anyS (l.take (k + 1))) 6 = bitI .or .u64 (bits (anyS (l.take k)) 6) x.val := by
      rw [htk, anyS_push, ← bitsU_or _ _ (by omega), fin64_bits]
    have h2 : bits (allS (l.take (k + 1))) 6 = bitI .and .u64 (bits (allS (l.take k)) 6) x.val := by
      rw [htk, allS_push, ← bitsU_and _ _ (by omega), fin64_bits]
    have b1 := bits_64 (anyS (l.take k))
    simp [hkc, hx]
    refine ⟨by omega, fun s3 s4 => ?_⟩
    refine FCall.frz1 21 (cells := [.int .u64 (bits (anyS (l.take k)) 6), .int .u64 (x.val : Int)]) (s := s4 + 1) (by simp) (v := .int .u64 (bits (anyS (l.take (k + 1))) 6)) ?_ (by simp) ?_
    · simp
      rw [h1]
      exact PInv.func (first := []) (cap := []) (args := [_]) (rap_union_ok (bits (anyS (l.take k)) 6) x.val (by omega))
    simp
    (repeat first | refine And.intro (by omega) ?_ | refine And.intro (Fits.of (by omega) (by omega)) ?_)
    exact hJ.next (k + 1) (by omega) (by omega) (by simp [h2]) (by simp)
  · obtain rfl : k = l.length := by omega
    have b1 := bits_64 (anyS l)
    have b2 := bits_64 (allS l)
    have hw1 : IntKind.i64.wrap (bits (anyS l) 6) = bits (anyS l) 6 := wrap_i64s (by omega) (by omega)
    have hw2 : IntKind.i64.wrap (bits (allS l) 6) = bits (allS l) 6 := wrap_i64s (by omega) (by omega)
    simp
    refine hJ.exit ?_
    simp [hw1, hw2]
    (repeat first | refine And.intro (by omega) ?_ | refine And.intro (Fits.of (by omega) (by omega)) ?_)
    refine RetD.ret rfl rap_Open_1.recClo ((rap_said_nil _ _).mono ?_)
    rintro e h' ⟨rfl, rfl⟩
    simp
    exact RetV.refl (by simp [Rp.openV, hv, hc, hl])
end Go.Cw
end

/- Sound and Dull. -/
section
set_option maxRecDepth 100000
set_option linter.unusedSimpArgs false
namespace Go.Cw
open Go Go.Proofs

namespace Rp
def soundN : List (Fin 64) → Int
  | [] => 0
  | x :: l => if x.val = 0 then (if l = [] then 2 else 1) else 0
noncomputable def soundV (r : Rp) : AVal := if r.Valid then (if r.canF = [] then .tup [.int .i64 0, .int .i64 10] else .tup [.int .i64 (soundN r.canF), .int .i64 0]) else .tup [.int .i64 0, .int .i64 1]
noncomputable def dullV (r : Rp) (q : Int) : AVal := if r.Valid then (if 0 ≤ q ∧ q < 2 ^ r.n then .tup [.int .i64 (r.dullS q), .int .i64 0] else .tup [.int .i64 0, .int .i64 2]) else .tup [.int .i64 0, .int .i64 1]
end Rp

theorem rap_Sound_ok (r : Rp) (hs : r.Small) : APure Pg fn_rap_Sound [r.v] r.soundV := by
  by_cases hv : ¬ r.Valid
  · refine rap_Sound.pure (by simp) ?_
    simp
    intro s1 s2
    refine FCall.pan (PInvPan.func (rap_open_arg r hs hv _)) ?_
    simp
    refine RetD.panic rfl rap_Sound_1.recClo ?_
    refine ACalls.cps [(3, .row [.int .i64 0] (s2 + 1))] (fun _ : Unit => .tup []) (fun _ => [(3, .row [.int .i64 1] (s2 + 1))]) (fun _ => True) (fun K' hK' => rap_said_ref _ _ _ _ K' (hK' () trivial)) (by simp) (fun _ => rfl) fun _ _ => ?_
    simp
    exact RetV.refl (by simp [Rp.soundV, hv])
  replace hv := Classical.not_not.1 hv
  by_cases hc : r.canF = []
  · refine rap_Sound.pure (by simp) ?_
    simp
    intro s1 s2
    refine FCall.pure (PInv.func (rap_open_ok r hs hv)) ?_
    simp
    refine FCall.pan (PInvPan.func (rap_hull_can_pan r hs hv hc)) ?_
    simp
    refine RetD.panic rfl rap_Sound_1.recClo ?_
    refine ACalls.cps [(3, .row [.int .i64 0] (s2 + 1))] (fun _ : Unit => .tup []) (fun _ => [(3, .row [.int .i64 10] (s2 + 1))]) (fun _ => True) (fun K' hK' => rap_said_ref _ _ _ _ K' (hK' () trivial)) (by simp) (fun _ => rfl) fun _ _ => ?_
    simp
    exact RetV.refl (by simp [Rp.soundV, hv, hc])
  obtain ⟨x, l, hl⟩ : ∃ x l, r.canF = x :: l := by
    cases h : r.canF with
    | nil => exact absurd h hc
    | cons x l => exact ⟨x, l, rfl⟩
  obtain ⟨H, hH⟩ : ∃ H, H = r.H := ⟨_, rfl⟩
  have cO := rap_open_ok r hs hv
  have cC := rap_hull_can_ok r hs hv hc
  rw [← hH] at cO cC
  rw [hl] at cC
  refine rap_Sound.pure (by simp) ?_
  simp
  intro s1 s2
  refine FCall.pure (PInv.func cO) ?_
  simp
  refine FCall.pure (PInv.func cC) ?_
  by_cases h0 : x.val = 0
  · by_cases hln : l = []
    · simp [h0, hln]
      refine RetD.ret rfl rap_Sound_1.recClo ((rap_said_nil _ _).mono ?_)
      rintro e h' ⟨rfl, rfl⟩
      simp
      exact RetV.refl (by simp [Rp.soundV, hv, hl, Rp.soundN, h0, hln])
    · have hlp := List.length_pos_iff.2 hln
      simp [h0, show ¬ ((l.length : Int) + 1 = 1) by omega]
      refine RetD.ret rfl rap_Sound_1.recClo ((rap_said_nil _ _).mono ?_)
      rintro e h' ⟨rfl, rfl⟩
      simp
      exact RetV.refl (by simp [Rp.soundV, hv, hl, Rp.soundN, h0, hln])
  · simp [h0]
    refine RetD.ret rfl rap_Sound_1.recClo ((rap_said_nil _ _).mono ?_)
    rintro e h' ⟨rfl, rfl⟩
    simp
    exact RetV.refl (by simp [Rp.soundV, hv, hl, Rp.soundN, h0])

theorem rap_Dull_ok (r : Rp) (hs : r.Small) (q : Int) : APure Pg fn_rap_Dull [r.v, .int .i64 q] (r.dullV q) := by
  by_cases hv : ¬ r.Valid
  · refine rap_Dull.pure (by simp) ?_
    by_cases h0 : 0 ≤ q
    · simp [h0]
      intro s1 s2
      refine ⟨by omega, ?_⟩
      refine FCall.pan (PInvPan.func (rap_open_arg r hs hv _)) ?_
      simp
      refine RetD.panic rfl rap_Dull_1.recClo ?_
      refine ACalls.cps [(5, .row [.int .i64 0] (s2 + 1))] (fun _ : Unit => .tup []) (fun _ => [(5, .row [.int .i64 1] (s2 + 1))]) (fun _ => True) (fun K' hK' => rap_said_ref _ _ _ _ K' (hK' () trivial)) (by simp) (fun _ => rfl) fun _ _ => ?_
      simp
      exact RetV.refl (by simp [Rp.dullV, hv])
    · simp [h0]
      intro s1 s2
      refine FCall.pan (PInvPan.func (rap_open_arg r hs hv _)) ?_
      simp
      refine RetD.panic rfl rap_Dull_1.recClo ?_
      refine ACalls.cps [(5, .row [.int .i64 0] (s2 + 1))] (fun _ : Unit => .tup []) (fun _ => [(5, .row [.int .i64 1] (s2 + 1))]) (fun _ => True) (fun K' hK' => rap_said_ref _ _ _ _ K' (hK' () trivial)) (by simp) (fun _ => rfl) fun _ _ => ?_
      simp
      exact RetV.refl (by simp [Rp.dullV, hv])
  replace hv := Classical.not_not.1 hv
  have hn6 := hv.d.n6
  have hnl : r.d.limits.length = r.n := rfl
  have hnn : r.d.n = r.n := rfl
  have hmin : (min (r.n : Int) 62).toNat = r.n := by omega
  by_cases h0 : ¬ 0 ≤ q
  · refine rap_Dull.pure (by simp) ?_
    simp [h0]
    intro s1 s2
    refine FCall.pan (PInvPan.func (rap_open_range r hs hv)) ?_
    simp
    refine RetD.panic rfl rap_Dull_1.recClo ?_
    refine ACalls.cps [(5, .row [.int .i64 0] (s2 + 1))] (fun _ : Unit => .tup []) (fun _ => [(5, .row [.int .i64 2] (s2 + 1))]) (fun _ => True) (fun K' hK' => rap_said_ref _ _ _ _ K' (hK' () trivial)) (by simp) (fun _ => rfl) fun _ _ => ?_
    simp
    exact RetV.refl (by simp [Rp.dullV, hv, h0])
  replace h0 := Classical.not_not.1 h0
  have hpp := two_pow_pos r.n
  have h2p := two_pow_le (show r.n ≤ 6 by omega)
  have e6 : (2 : Int) ^ 6 = 64 := by decide
  by_cases h1 : ¬ q < 2 ^ r.n
  · have hd : ¬ q / 2 ^ r.n = 0 := by
      intro h
      have := (Int.ediv_lt_iff_lt_mul hpp (a := q) (b := 1)).1 (by omega)
      omega
    refine rap_Dull.pure (by simp) ?_
    simp [h0, hnl, hmin, hd]
    intro s1 s2
    refine ⟨by omega, ?_⟩
    refine FCall.pan (PInvPan.func (rap_open_range r hs hv)) ?_
    simp
    refine RetD.panic rfl rap_Dull_1.recClo ?_
    refine ACalls.cps [(5, .row [.int .i64 0] (s2 + 1))] (fun _ : Unit => .tup []) (fun _ => [(5, .row [.int .i64 2] (s2 + 1))]) (fun _ => True) (fun K' hK' => rap_said_ref _ _ _ _ K' (hK' () trivial)) (by simp) (fun _ => rfl) fun _ _ => ?_
    simp
    exact RetV.refl (by simp [Rp.dullV, hv, h1])
  replace h1 := Classical.not_not.1 h1
  have hd : q / 2 ^ r.n = 0 := Int.ediv_eq_zero_of_lt h0 h1
  have hHd : r.H = .pv (L r.d.limits :: LP r.d.beside :: LP r.d.blows :: LR r.rs :: arr r.nrS) := rfl
  have har : arr r.nrS = r.around := rfl
  have hdl := bits_lt (r.hears q) r.n
  have hdS : r.dullS q = bits (r.hears q) r.n := rfl
  have hw : IntKind.u64.wrap q = q := wrap_u64 h0 (by omega)
  have hw2 : IntKind.i64.wrap (r.dullS q) = r.dullS q := wrap_i64s (by omega) (by omega)
  refine rap_Dull.pure (by simp) ?_
  simp [h0, hnl, hmin, hd]
  intro s1 s2
  refine ⟨by omega, ?_⟩
  refine FCall.pure (PInv.func (rap_open_ok r hs hv)) ?_
  simp [hHd, har, hw]
  refine PCallK.intro (PInv.func (rap_around_dull_ok r (by omega) q ⟨h0, h1⟩)) ?_
  simp [hw2]
  (repeat first | refine And.intro (by omega) ?_ | refine And.intro (Fits.of (by omega) (by omega)) ?_)
  refine RetD.ret rfl rap_Dull_1.recClo ((rap_said_nil _ _).mono ?_)
  rintro e h' ⟨rfl, rfl⟩
  simp
  exact RetV.refl (by simp [Rp.dullV, hv, h0, h1])
end Go.Cw
end

/- The first of the least of what can be, and all numbers below one. -/
section
set_option maxRecDepth 100000
set_option linter.unusedSimpArgs false
namespace Go.Cw
open Go Go.Proofs

/-- The better of what was chosen and another one. -/
def betC (g : Int → Int × Bool) (b : Option (Int × Int)) (y : Int) : Option (Int × Int) :=
  if (g y).2 then (match b with | none => some (y, (g y).1) | some c => if (g y).1 < c.2 then some (y, (g y).1) else b) else b
/-- The first of some numbers that can be chosen of which another number is least, and this one. -/
def bestC (g : Int → Int × Bool) (l : List Int) : Option (Int × Int) := l.foldl (betC g) none
theorem bestC_push (g : Int → Int × Bool) (l : List Int) (y : Int) : bestC g (l ++ [y]) = betC g (bestC g l) y := by
  simp [bestC]
def bst1 (b : Option (Int × Int)) : Int := (b.getD (0, 0)).1
def bst2 (b : Option (Int × Int)) : Int := (b.getD (0, 0)).2

theorem rap_best_int_ok (l : List Int) (hl : l.length ≤ 100000) (f : AVal) (g : Int → Int × Bool) (hf : ∀ x ∈ l, PInv Pg f [.int .i64 x] (.tup [.int .i64 (g x).1, .bool (g x).2])) : APure Pg fn_rap_best_int [L l, .agg [f]] (.tup [.int .i64 (bst1 (bestC g l)), .int .i64 (bst2 (bestC g l)), .bool (bestC g l).isSome]) := by
  refine rap_best_int.pure (by simp) ?_
  simp
  intro s
  refine Lp.intro (σ := Nat) (inv := fun k => k ≤ l.length) (vw := fun k => [(3, .ptr 3 0 (s+1)), (4, .int .i64 (bst1 (bestC g (l.take k)))), (5, .int .i64 (bst2 (bestC g (l.take k)))), (6, .bool (bestC g (l.take k)).isSome), (11, L l), (12, .int .i64 l.length), (13, .int .i64 k)])
    (hp := fun _ => [(3, .row [f] (s+1))]) (ms := fun k => l.length - k) 0 (by simp) (by simp [bestC, bst1, bst2]) (by simp) ?_
  intro k hk J hJ
  by_cases hkc : k < l.length
  · have hfk := hf l[k] (by simp)
    have htk : l.take (k + 1) = l.take k ++ [l[k]] := (List.take_append_getElem hkc).symm
    have e := bestC_push g (l.take k) l[k]
    rw [← htk] at e
    obtain ⟨b, hb⟩ : ∃ b, b = bestC g (l.take k) := ⟨_, rfl⟩
    rw [← hb] at e
    simp [hkc, ← hb]
    refine FCall.pure hfk ?_
    by_cases hc : ¬ (g l[k]).2 = true
    · have hc' : (g l[k]).2 = false := by simpa using hc
      have e' : betC g b l[k] = b := by simp [betC, hc']
      rw [e'] at e
      simp [hc']
      (repeat first | refine And.intro (by omega) ?_ | refine And.intro (Fits.of (by omega) (by omega)) ?_)
      exact hJ.next (k + 1) (by omega) (by omega) (by simp [e]) (by simp)
    replace hc := Classical.not_not.1 hc
    cases b with
    | none =>
      have e' : betC g none l[k] = some (l[k], (g l[k]).1) := by simp [betC, hc]
      rw [e'] at e
      simp [hc]
      (repeat first | refine And.intro (by omega) ?_ | refine And.intro (Fits.of (by omega) (by omega)) ?_)
      exact hJ.next (k + 1) (by omega) (by omega) (by simp [e, bst1, bst2]) (by simp)
    | some c =>
      have h2 : bst2 (some c) = c.2 := rfl
      by_cases hlt : (g l[k]).1 < c.2
      · have e' : betC g (some c) l[k] = some (l[k], (g l[k]).1) := by simp [betC, hc, hlt]
        rw [e'] at e
        simp [hc, h2, hlt]
        (repeat first | refine And.intro (by omega) ?_ | refine And.intro (Fits.of (by omega) (by omega)) ?_)
        exact hJ.next (k + 1) (by omega) (by omega) (by simp [e, bst1, bst2]) (by simp)
      · have e' : betC g (some c) l[k] = some c := by simp [betC, hc, hlt]
        rw [e'] at e
        simp [hc, h2, hlt]
        (repeat first | refine And.intro (by omega) ?_ | refine And.intro (Fits.of (by omega) (by omega)) ?_)
        exact hJ.next (k + 1) (by omega) (by omega) (by simp [e, h2]) (by simp)
  obtain rfl : k = l.length := by omega
  simp
  refine hJ.exit ?_
  simp
  exact RetV.refl rfl

theorem rap_upTo_ok (n : Nat) (hn : n ≤ 100000) : APure Pg fn_rap_upTo [.int .i64 n] (L (tab n fun i => (i : Int))) := by
  refine rap_upTo.pure (by simp) ?_
  simp
  refine Lp.intro' (σ := Nat × Nat) (inv := fun x => x.1 ≤ n)
    (vw := fun x => [(2, gS 1 11 x.1 x.2), (4, .int .i64 n), (5, .int .i64 x.1)])
    (hp := fun x => [(11, gO x.1 (ints (tab x.1 fun i => (i : Int))) x.2)]) (ms := fun x => n - x.1) (0, 0) (by simp) (Sl.wk 2 .es (by simpa using ALe.nils_es) (Sl.refl ⟨rfl, by simp, by simp⟩)) ?_
  rintro ⟨k, st⟩ hkk J hJ
  simp at hkk
  by_cases hkc : k < n
  · simp [hkc]
    intro s4 s5
    refine xApN_gS (cells := ints (tab k fun i => (i : Int))) (by simp) (by simp) (by omega) (by omega) ?_
    simp
    (repeat first | refine And.intro (by omega) ?_ | refine And.intro (Fits.of (by omega) (by omega)) ?_)
    exact hJ.next (k + 1, s5 + 1) (by simp; omega) (by simp; omega) (by simp) (by simp [tab_succ])
  · obtain rfl : k = n := by omega
    simp
    refine hJ.exit ?_
    simp
    exact RetV.le (VLe.gS (cells := ints (tab k fun i => (i : Int))) (s := st) (by simp) (by simp)) (RetV.refl (by simp [L]))
end Go.Cw
end

/- Next: on which seam to rap next. -/
section
set_option maxRecDepth 100000
set_option linter.unusedSimpArgs false
namespace Go.Cw
open Go Go.Proofs

namespace Rp
/-- Of how many sounds a seam sounds dull. -/
def cntD (dl : Fin 64 → Int) (l : List (Fin 64)) (i : Nat) : Nat := (l.filter fun x => inS (dl x) i).length
def nextG (dl : Fin 64 → Int) (l : List (Fin 64)) (q : Int) : Int × Bool :=
  (max (cntD dl l q.toNat : Int) (l.length - cntD dl l q.toNat), decide (1 ≤ (cntD dl l q.toNat : Int) ∧ (cntD dl l q.toNat : Int) ≤ l.length - 1))
end Rp

theorem rap_Next_2_ok (dl : Fin 64 → Int) (hdl : ∀ x, 0 ≤ dl x ∧ dl x < 64) (l : List (Fin 64)) (hl : l.length ≤ 1000) (q : Int) (hq : 0 ≤ q ∧ q ≤ 60) :
    APure Pg fn_rap_Next_2 [.int .i64 q, .pv [LF dl l]] (.tup [.int .i64 (Rp.nextG dl l q).1, .bool (Rp.nextG dl l q).2]) := by
  obtain ⟨i, rfl⟩ : ∃ i : Nat, q = i := ⟨q.toNat, by omega⟩
  obtain ⟨m, hm⟩ : ∃ m : Nat → Nat, m = fun k => Rp.cntD dl (l.take k) i := ⟨_, rfl⟩
  have hm0 : m 0 = 0 := by rw [hm]; rfl
  have hml : m l.length = Rp.cntD dl l i := by rw [hm]; simp only [List.take_length]
  have hmk : ∀ k, m k ≤ k := fun k => by
    rw [hm]; have := List.length_filter_le (fun x => inS (dl x) i) (l.take k); rw [List.length_take] at this; simp only [Rp.cntD]; omega
  refine rap_Next_2.pure (by simp) ?_
  simp
  refine Lp.intro (σ := Nat) (inv := fun k => k ≤ l.length) (vw := fun k => [(0, .int .i64 i), (1, .pv [LF dl l]), (5, .int .i64 (m k)), (8, LF dl l), (9, .int .i64 l.length), (10, .int .i64 k)])
    (hp := fun _ => []) (ms := fun k => l.length - k) 0 (by simp) (by simp [hm0]) (by simp) ?_
  intro k hk J hJ
  by_cases hkc : k < l.length
  · obtain ⟨x, hx⟩ : ∃ x, l[k] = x := ⟨_, rfl⟩
    have hms : m (k + 1) = m k + (if inS (dl x) i then 1 else 0) := by
      rw [hm]
      simp only [Rp.cntD, ← List.take_append_getElem hkc, List.filter_append, List.length_append, hx]
      congr 1
      by_cases h : inS (dl x) i = true
      · rw [if_pos h, List.filter_cons_of_pos (by exact h)]; rfl
      · rw [if_neg h, List.filter_cons_of_neg (by exact h)]; rfl
    have hmk' := hmk k
    have hdx := hdl x
    simp [hkc, hx]
    refine ⟨by omega, fun s1 => ?_⟩
    refine PCallK.intro (PInv.func (rap_set_has_ok (dl x) (by omega) i (by omega))) ?_
    cases hw : inS (dl x) i
    · rw [hw] at hms
      simp
      (repeat first | refine And.intro (by omega) ?_ | refine And.intro (Fits.of (by omega) (by omega)) ?_)
      exact hJ.next (k + 1) (by omega) (by omega) (by simp [hms]) (by simp)
    · rw [hw] at hms
      simp
      (repeat first | refine And.intro (by omega) ?_ | refine And.intro (Fits.of (by omega) (by omega)) ?_)
      exact hJ.next (k + 1) (by omega) (by omega) (by simp [hms]) (by simp)
  obtain rfl : k = l.length := by omega
  have hmk' := hmk l.length
  rw [hml] at hmk'
  simp
  refine hJ.exit ?_
  simp [hml]
  refine ⟨by unfold Fits; omega, by unfold Fits; omega, ?_⟩
  refine PCallK.intro (PInv.func (rap_within_ok _ _ _)) ?_
  simp
  exact RetV.refl (by simp [Rp.nextG])
end Go.Cw
end

/- Next. -/
section
set_option maxRecDepth 100000
set_option linter.unusedSimpArgs false
namespace Go.Cw
open Go Go.Proofs

namespace Rp
noncomputable def nextB (r : Rp) : Option (Int × Int) := bestC (nextG r.dl r.canF) (tab r.n fun i => (i : Int))
noncomputable def nextV (r : Rp) : AVal :=
  if r.Valid then
    (if r.canF = [] then .tup [.int .i64 0, .int .i64 0, .int .i64 10] else if r.canF.length ≤ 1 then .tup [.int .i64 0, .int .i64 0, .int .i64 11] else
      match r.nextB with
      | none => .tup [.int .i64 0, .int .i64 0, .int .i64 4]
      | some b => .tup [.int .i64 b.1, .int .i64 b.2, .int .i64 0])
  else .tup [.int .i64 0, .int .i64 0, .int .i64 1]
end Rp

theorem rap_Next_ok (r : Rp) (hs : r.Small) : APure Pg fn_rap_Next [r.v] r.nextV := by
  by_cases hv : ¬ r.Valid
  · refine rap_Next.pure (by simp) ?_
    simp
    intro s1 s2
    refine FCall.pan (PInvPan.func (rap_open_arg r hs hv _)) ?_
    simp
    refine RetD.panic rfl rap_Next_1.recClo ?_
    refine ACalls.cps [(4, .row [.int .i64 0] (s2 + 1))] (fun _ : Unit => .tup []) (fun _ => [(4, .row [.int .i64 1] (s2 + 1))]) (fun _ => True) (fun K' hK' => rap_said_ref _ _ _ _ K' (hK' () trivial)) (by simp) (fun _ => rfl) fun _ _ => ?_
    simp
    exact RetV.refl (by simp [Rp.nextV, hv])
  replace hv := Classical.not_not.1 hv
  obtain ⟨H, hH⟩ : ∃ H, H = r.H := ⟨_, rfl⟩
  have cO := rap_open_ok r hs hv
  rw [← hH] at cO
  by_cases hc : r.canF = []
  · have cP := rap_hull_can_pan r hs hv hc
    rw [← hH] at cP
    refine rap_Next.pure (by simp) ?_
    simp
    intro s1 s2
    refine FCall.pure (PInv.func cO) ?_
    simp
    refine FCall.pan (PInvPan.func cP) ?_
    simp
    refine RetD.panic rfl rap_Next_1.recClo ?_
    refine ACalls.cps [(4, .row [.int .i64 0] (s2 + 1))] (fun _ : Unit => .tup []) (fun _ => [(4, .row [.int .i64 10] (s2 + 1))]) (fun _ => True) (fun K' hK' => rap_said_ref _ _ _ _ K' (hK' () trivial)) (by simp) (fun _ => rfl) fun _ _ => ?_
    simp
    exact RetV.refl (by simp [Rp.nextV, hv, hc])
  have cC := rap_hull_can_ok r hs hv hc
  have cS := rap_hull_seams_ok r
  have hl729 := r.canF_len hv
  have hn6 : r.n ≤ 6 := hv.d.n6
  have hdl := fun x => r.dl_lt hn6 x
  rw [← hH] at cC cS
  obtain ⟨l, hl⟩ : ∃ l, l = r.canF := ⟨_, rfl⟩
  rw [← hl] at cC hl729
  have hcl : ¬ l = [] := by rw [hl]; exact hc
  by_cases h1 : l.length ≤ 1
  · refine rap_Next.pure (by simp) ?_
    simp
    intro s1 s2
    refine FCall.pure (PInv.func cO) ?_
    simp
    refine FCall.pure (PInv.func cC) ?_
    simp [show ¬ ((1 : Int) < (l.length : Int)) by omega]
    intro s6
    refine FCall.pan (PInvPan.func (rap_want_pan 11)) ?_
    simp
    refine RetD.panic rfl rap_Next_1.recClo ?_
    refine ACalls.cps [(4, .row [.int .i64 0] (s2 + 1))] (fun _ : Unit => .tup []) (fun _ => [(4, .row [.int .i64 11] (s2 + 1))]) (fun _ => True) (fun K' hK' => rap_said_ref _ _ _ _ K' (hK' () trivial)) (by simp) (fun _ => rfl) fun _ _ => ?_
    simp
    exact RetV.refl (by simp [Rp.nextV, hv, hcl, ← hl, h1])
  have cB := rap_best_int_ok (tab r.n fun i => (i : Int)) (by simp; omega) (.func (.func fn_rap_Next_2) [] [.pv [LF r.dl l]]) (Rp.nextG r.dl l) (fun x hx => by
    obtain ⟨i, hi, rfl⟩ := List.getElem_of_mem hx
    simp at hi
    simp
    exact PInv.func (first := []) (cap := [_]) (args := [_]) (rap_Next_2_ok r.dl hdl l (by omega) i (by omega)))
  have hB : bestC (Rp.nextG r.dl l) (tab r.n fun i => (i : Int)) = r.nextB := by rw [hl]; rfl
  rw [hB] at cB
  refine rap_Next.pure (by simp) ?_
  simp
  intro s1 s2
  refine FCall.pure (PInv.func cO) ?_
  simp
  refine FCall.pure (PInv.func cC) ?_
  simp [show (1 : Int) < (l.length : Int) by omega]
  intro s6
  refine FCall.pure (PInv.func (rap_want_ok 11)) ?_
  simp
  refine PCallK.intro (PInv.func cS) ?_
  simp
  refine FCall.pure (PInv.func (rap_upTo_ok r.n (by omega))) ?_
  simp
  refine FCall.frz1 6 (cells := [LF r.dl l]) (s := s6 + 1) (by simp) (v := .tup [.int .i64 (bst1 r.nextB), .int .i64 (bst2 r.nextB), .bool r.nextB.isSome]) ?_ (by simp) ?_
  · simp
    exact PInv.func (first := []) (cap := []) (args := [_, _]) cB
  cases hnb : r.nextB with
  | none =>
    simp
    refine FCall.pan (PInvPan.func (rap_want_pan 4)) ?_
    simp
    refine RetD.panic rfl rap_Next_1.recClo ?_
    refine ACalls.cps [(4, .row [.int .i64 0] (s2 + 1))] (fun _ : Unit => .tup []) (fun _ => [(4, .row [.int .i64 4] (s2 + 1))]) (fun _ => True) (fun K' hK' => rap_said_ref _ _ _ _ K' (hK' () trivial)) (by simp) (fun _ => rfl) fun _ _ => ?_
    simp
    exact RetV.refl (by simp [Rp.nextV, hv, hcl, ← hl, h1, hnb])
  | some b =>
    simp
    refine FCall.pure (PInv.func (rap_want_ok 4)) ?_
    simp
    refine RetD.ret rfl rap_Next_1.recClo ((rap_said_nil _ _).mono ?_)
    rintro e h' ⟨rfl, rfl⟩
    simp
    exact RetV.refl (by simp [Rp.nextV, hv, hcl, ← hl, h1, hnb, bst1, bst2])
end Go.Cw
end

/- How many are in a set; whether something is among sounds. -/
section
set_option maxRecDepth 100000
set_option linter.unusedSimpArgs false
namespace Go.Cw
open Go Go.Proofs

def sumN : Nat → (Nat → Int) → Int
  | 0, _ => 0
  | k + 1, c => sumN k c + c k
/-- How many are in a set. -/
def sizeS (s : Int) : Int := sumN 60 fun i => if inS s i then 1 else 0
theorem sumN_ext {n m : Nat} {c : Nat → Int} (hm : n ≤ m) (h : ∀ i, n ≤ i → c i = 0) : sumN m c = sumN n c := by
  induction m with
  | zero => obtain rfl : n = 0 := by omega
            rfl
  | succ m ih =>
    by_cases e : n = m + 1
    · rw [e]
    · simp only [sumN]; rw [ih (by omega), h m (by omega)]; omega

def pop1 (x : Int) : Int := IntKind.u64.wrap (bitI .and .u64 (x / 2) 6148914691236517205 + bitI .and .u64 x 6148914691236517205)
def pop2 (x : Int) : Int := IntKind.u64.wrap (bitI .and .u64 (x / 4) 3689348814741910323 + bitI .and .u64 x 3689348814741910323)
def pop3 (x : Int) : Int := bitI .and .u64 (IntKind.u64.wrap (x / 16 + x)) 1085102592571150095
def pop4 (x : Int) : Int := IntKind.u64.wrap (x + x / 256)
def pop5 (x : Int) : Int := IntKind.u64.wrap (x + x / 65536)
def pop6 (x : Int) : Int := IntKind.u64.wrap (x + x / 4294967296)
def popA (x : Int) : Int := pop6 (pop5 (pop4 (pop3 (pop2 (pop1 x)))))

theorem pop_all : ∀ n : Nat, n < 1024 → (popA n < 1000 ∧ 0 ≤ popA n) ∧ bitI .and .i64 (popA n) 127 = sumN 10 (fun i => if inS n i then 1 else 0) := by decide +kernel

theorem size10 {x : Int} (hx : 0 ≤ x ∧ x < 1024) : sizeS x = sumN 10 (fun i => if inS x i then 1 else 0) := sumN_ext (by omega) fun i hi => by
  rw [if_neg]
  have := two_pow_le hi
  have e : (2 : Int) ^ 10 = 1024 := by decide
  unfold inS
  rw [Int.ediv_eq_zero_of_lt hx.1 (by omega)]
  simp

theorem math_OnesCount64_ok (x : Int) (hx : 0 ≤ x ∧ x < 1024) : APure Pg fn_math_bits_OnesCount64 [.int .u64 x] (.int .i64 (sizeS x)) := by
  obtain ⟨n, rfl⟩ := Int.eq_ofNat_of_zero_le hx.1
  obtain ⟨h1, h2⟩ := pop_all n (by omega)
  rw [size10 hx, ← h2]
  refine math_bits_OnesCount64.pure (by simp) ?_
  simp
  refine ⟨?_, RetV.refl rfl⟩
  show Fits (popA n)
  unfold Fits; omega

theorem math_OnesCount_ok (x : Int) (hx : 0 ≤ x ∧ x < 1024) : APure Pg fn_math_bits_OnesCount [.int .u64 x] (.int .i64 (sizeS x)) := by
  refine math_bits_OnesCount.pure (by simp) ?_
  simp
  refine PCallK.intro (PInv.func (math_OnesCount64_ok x hx)) ?_
  simp
  exact RetV.refl rfl

def idxF (p : Fin 64 → Bool) (l : List (Fin 64)) : Int := match l.findIdx? p with | some k => (k : Int) | none => -1
theorem slices_IndexFuncF_ok (dl : Fin 64 → Int) (l : List (Fin 64)) (hl : l.length ≤ 100000) (f : AVal) (p : Fin 64 → Bool) (hf : ∀ x ∈ l, PInv Pg f [.agg [.int .u64 (x.val : Int), .int .u64 (dl x)]] (.bool (p x))) : APure Pg fn_slices_IndexFunc_rap_sound_rap_sound [LF dl l, f] (.int .i64 (idxF p l)) := by
  refine slices_IndexFunc_rap_sound_rap_sound.pure (by simp) ?_
  simp
  refine Lp.intro (σ := Nat) (inv := fun k => k ≤ l.length ∧ ∀ j (h : j < l.length), j < k → p l[j] = false) (vw := fun k => [(0, LF dl l), (1, f), (7, .int .i64 l.length), (8, .int .i64 k)]) (hp := fun _ => []) (ms := fun k => l.length - k) 0 (by simp) (by simp) (by simp) ?_
  rintro k ⟨hk, inv⟩ J hJ
  by_cases hkc : k < l.length
  · simp [hkc]
    refine ⟨by omega, ?_⟩
    refine FCall.pure (hf l[k] (by simp)) ?_
    cases q : p l[k]
    · simp
      (repeat first | refine And.intro (by omega) ?_ | refine And.intro (Fits.of (by omega) (by omega)) ?_)
      refine hJ.next (k + 1) ⟨by omega, fun j hj hjk => ?_⟩ (by omega) (by simp) (by simp)
      by_cases h : j = k
      · subst h; exact q
      · exact inv j hj (by omega)
    · simp
      refine hJ.ret ?_
      simp
      refine RetV.refl ?_
      have : l.findIdx? p = some k := by
        rw [List.findIdx?_eq_some_iff_getElem]
        exact ⟨hkc, q, fun j hj => by simp [inv j (by omega) hj]⟩
      simp [idxF, this]
  · obtain rfl : k = l.length := by omega
    simp
    refine hJ.exit ?_
    simp
    refine RetV.refl ?_
    have : l.findIdx? p = none := by
      rw [List.findIdx?_eq_none_iff]
      intro x hx
      obtain ⟨j, hj, rfl⟩ := List.getElem_of_mem hx
      simpa using inv j hj hj
    simp [idxF, this]
end Go.Cw
end

/- Fewest: which few seams show that the hull is sound. -/
section
set_option maxRecDepth 100000
set_option linter.unusedSimpArgs false
namespace Go.Cw
open Go Go.Proofs

theorem slices_ContainsFuncF_ok (dl : Fin 64 → Int) (l : List (Fin 64)) (hl : l.length ≤ 100000) (f : AVal) (p : Fin 64 → Bool) (hf : ∀ x ∈ l, PInv Pg f [.agg [.int .u64 (x.val : Int), .int .u64 (dl x)]] (.bool (p x))) : APure Pg fn_slices_ContainsFunc_rap_sound_rap_sound [LF dl l, f] (.bool (l.any p)) := by
  refine slices_ContainsFunc_rap_sound_rap_sound.pure (by simp) ?_
  simp
  refine FCall.pure (PInv.func (slices_IndexFuncF_ok dl l hl f p hf)) ?_
  simp
  refine RetV.refl ?_
  have : decide (0 ≤ idxF p l) = l.any p := by
    unfold idxF
    cases h : l.findIdx? p with
    | none =>
      rw [List.findIdx?_eq_none_iff] at h
      have h2 : l.any p = false := by
        rw [List.any_eq_false]
        intro x hx; rw [h x hx]; simp
      rw [h2]; rfl
    | some k =>
      rw [List.findIdx?_eq_some_iff_getElem] at h
      obtain ⟨h1, h2, _⟩ := h
      have h3 : l.any p = true := List.any_eq_true.2 ⟨_, List.getElem_mem h1, h2⟩
      rw [h3]; simp
  rw [this]

namespace Rp
/-- Is a sound not of a sound hull, and not told by some seams? -/
def hidP (dl : Fin 64 → Int) (q : Int) (x : Fin 64) : Bool := !decide ((x.val : Int) = 0) && decide (bitI .and .u64 (dl x) q = 0)
def fewG (dl : Fin 64 → Int) (l : List (Fin 64)) (q : Int) : Int × Bool := (sizeS q, !(l.any (hidP dl q)))
end Rp

theorem rap_Fewest_2_1_ok (dl : Fin 64 → Int) (q : Int) (hq : 0 ≤ q ∧ q < 64) (x : Fin 64) : APure Pg fn_rap_Fewest_2_1 [.agg [.int .u64 (x.val : Int), .int .u64 (dl x)], .pv [.int .i64 q]] (.bool (Rp.hidP dl q x)) := by
  have hw : IntKind.u64.wrap q = q := wrap_u64 (by omega) (by omega)
  refine rap_Fewest_2_1.pure (by simp) ?_
  by_cases h : x = 0
  · subst h
    simp [hw]
    intro s
    refine RetV.refl ?_
    simp [Rp.hidP]
  · simp [h, hw]
    intro s
    refine RetV.refl ?_
    simp [Rp.hidP, h]

theorem rap_Fewest_2_ok (dl : Fin 64 → Int) (l : List (Fin 64)) (hl : l.length ≤ 1000) (q : Int) (hq : 0 ≤ q ∧ q < 64) : APure Pg fn_rap_Fewest_2 [.int .i64 q, .pv [LF dl l]] (.tup [.int .i64 (Rp.fewG dl l q).1, .bool (Rp.fewG dl l q).2]) := by
  have hw : IntKind.u64.wrap q = q := wrap_u64 (by omega) (by omega)
  refine rap_Fewest_2.pure (by simp) ?_
  simp [hw]
  intro s
  refine PCallK.intro (PInv.func (math_OnesCount_ok q (by omega))) ?_
  simp
  have cC := slices_ContainsFuncF_ok dl l (by omega) (.func (.func fn_rap_Fewest_2_1) [] [.pv [.int .i64 q]]) (Rp.hidP dl q) (fun x _ => PInv.func (first := []) (cap := [_]) (args := [_]) (rap_Fewest_2_1_ok dl q hq x))
  refine FCall.frz1 2 (cells := [.int .i64 q]) (s := s + 1) (by simp) (v := .bool (l.any (Rp.hidP dl q))) ?_ (by simp) ?_
  · simp
    exact PInv.func (first := []) (cap := []) (args := [_, _]) cC
  simp
  refine RetV.refl ?_
  simp [Rp.fewG]

namespace Rp
noncomputable def fewB (r : Rp) : Option (Int × Int) := bestC (fewG r.dl r.canF) (tab (2 ^ r.n) fun i => (i : Int))
noncomputable def fewV (r : Rp) : AVal :=
  if r.Valid then
    (if r.canF = [] then .tup [.int .i64 0, .int .i64 0, .int .i64 10] else
      match r.fewB with
      | none => .tup [.int .i64 0, .int .i64 0, .int .i64 4]
      | some b => .tup [.int .i64 b.2, .int .i64 b.1, .int .i64 0])
  else .tup [.int .i64 0, .int .i64 0, .int .i64 1]
end Rp

theorem rap_Fewest_ok (r : Rp) (hs : r.Small) : APure Pg fn_rap_Fewest [r.v] r.fewV := by
  by_cases hv : ¬ r.Valid
  · refine rap_Fewest.pure (by simp) ?_
    simp
    intro s1 s2
    refine FCall.pan (PInvPan.func (rap_open_arg r hs hv _)) ?_
    simp
    refine RetD.panic rfl rap_Fewest_1.recClo ?_
    refine ACalls.cps [(4, .row [.int .i64 0] (s2 + 1))] (fun _ : Unit => .tup []) (fun _ => [(4, .row [.int .i64 1] (s2 + 1))]) (fun _ => True) (fun K' hK' => rap_said_ref _ _ _ _ K' (hK' () trivial)) (by simp) (fun _ => rfl) fun _ _ => ?_
    simp
    exact RetV.refl (by simp [Rp.fewV, hv])
  replace hv := Classical.not_not.1 hv
  obtain ⟨H, hH⟩ : ∃ H, H = r.H := ⟨_, rfl⟩
  have cO := rap_open_ok r hs hv
  rw [← hH] at cO
  by_cases hc : r.canF = []
  · have cP := rap_hull_can_pan r hs hv hc
    rw [← hH] at cP
    refine rap_Fewest.pure (by simp) ?_
    simp
    intro s1 s2
    refine FCall.pure (PInv.func cO) ?_
    simp
    refine FCall.pan (PInvPan.func cP) ?_
    simp
    refine RetD.panic rfl rap_Fewest_1.recClo ?_
    refine ACalls.cps [(4, .row [.int .i64 0] (s2 + 1))] (fun _ : Unit => .tup []) (fun _ => [(4, .row [.int .i64 10] (s2 + 1))]) (fun _ => True) (fun K' hK' => rap_said_ref _ _ _ _ K' (hK' () trivial)) (by simp) (fun _ => rfl) fun _ _ => ?_
    simp
    exact RetV.refl (by simp [Rp.fewV, hv, hc])
  have cC := rap_hull_can_ok r hs hv hc
  have cS := rap_hull_seams_ok r
  have hl729 := r.canF_len hv
  have hn6 : r.n ≤ 6 := hv.d.n6
  rw [← hH] at cC cS
  obtain ⟨l, hl⟩ : ∃ l, l = r.canF := ⟨_, rfl⟩
  rw [← hl] at cC hl729
  have hcl : ¬ l = [] := by rw [hl]; exact hc
  have h2p : (2 : Nat) ^ r.n ≤ 2 ^ 6 := Nat.pow_le_pow_right (by omega) hn6
  have e6 : (2 : Nat) ^ 6 = 64 := by decide
  have hpi : (2 : Int) ^ r.n = ((2 ^ r.n : Nat) : Int) := by simp
  obtain ⟨N, hN⟩ : ∃ N : Nat, N = 2 ^ r.n := ⟨_, rfl⟩
  rw [← hN] at h2p hpi
  have cB := rap_best_int_ok (tab N fun i => (i : Int)) (by simp; omega) (.func (.func fn_rap_Fewest_2) [] [.pv [LF r.dl l]]) (Rp.fewG r.dl l) (fun x hx => by
    obtain ⟨i, hi, rfl⟩ := List.getElem_of_mem hx
    simp at hi
    simp
    exact PInv.func (first := []) (cap := [_]) (args := [_]) (rap_Fewest_2_ok r.dl l (by omega) i (by omega)))
  have hB : bestC (Rp.fewG r.dl l) (tab N fun i => (i : Int)) = r.fewB := by rw [hl, hN]; rfl
  rw [hB] at cB
  have hw : IntKind.i64.wrap (N : Int) = N := wrap_i64s (by omega) (by omega)
  refine rap_Fewest.pure (by simp) ?_
  simp
  intro s1 s2
  refine FCall.pure (PInv.func cO) ?_
  simp
  refine FCall.pure (PInv.func cC) ?_
  simp
  intro s6
  refine PCallK.intro (PInv.func cS) ?_
  simp [hpi, hw]
  refine ⟨by omega, by unfold Fits; omega, ?_⟩
  refine FCall.pure (PInv.func (rap_upTo_ok N (by omega))) ?_
  simp
  refine FCall.frz1 6 (cells := [LF r.dl l]) (s := s6 + 1) (by simp) (v := .tup [.int .i64 (bst1 r.fewB), .int .i64 (bst2 r.fewB), .bool r.fewB.isSome]) ?_ (by simp) ?_
  · simp
    exact PInv.func (first := []) (cap := []) (args := [_, _]) cB
  cases hnb : r.fewB with
  | none =>
    simp
    refine FCall.pan (PInvPan.func (rap_want_pan 4)) ?_
    simp
    refine RetD.panic rfl rap_Fewest_1.recClo ?_
    refine ACalls.cps [(4, .row [.int .i64 0] (s2 + 1))] (fun _ : Unit => .tup []) (fun _ => [(4, .row [.int .i64 4] (s2 + 1))]) (fun _ => True) (fun K' hK' => rap_said_ref _ _ _ _ K' (hK' () trivial)) (by simp) (fun _ => rfl) fun _ _ => ?_
    simp
    exact RetV.refl (by simp [Rp.fewV, hv, hcl, ← hl, hnb])
  | some b =>
    simp
    refine FCall.pure (PInv.func (rap_want_ok 4)) ?_
    simp
    refine RetD.ret rfl rap_Fewest_1.recClo ((rap_said_nil _ _).mono ?_)
    rintro e h' ⟨rfl, rfl⟩
    simp
    exact RetV.refl (by simp [Rp.fewV, hv, hcl, ← hl, hnb, bst1, bst2])
end Go.Cw
end

/- Wrong: the fewest raps that were heard wrongly. -/
section
set_option maxRecDepth 100000
set_option linter.unusedSimpArgs false
namespace Go.Cw
open Go Go.Proofs

theorem bitsU_andNot (p q : Nat → Bool) {n : Nat} (hn : n ≤ 60) : bitI .andNot .u64 (bits p n) (bits q n) = bits (fun i => p i && !q i) n := by
  have ha := natB_lt62 p hn
  have hb := natB_lt62 q hn
  have hc := natB_lt62 (fun i => p i && !q i) hn
  rw [bits_natB, bits_natB, bits_natB]
  have key : (BitVec.ofNat 64 (natB p n) &&& ~~~(BitVec.ofNat 64 (natB q n))).toNat = natB (fun i => p i && !q i) n := by
    apply Nat.eq_of_testBit_eq
    intro i
    rw [← BitVec.getLsbD, BitVec.getLsbD_and, BitVec.getLsbD_not, BitVec.getLsbD_ofNat, BitVec.getLsbD_ofNat, natB_bit, natB_bit, natB_bit]
    by_cases hi : i < n
    · have : i < 64 := by omega
      simp [hi, this]
    · simp [hi]
  show IntKind.u64.wrap (Int.ofNat (BitVec.ofInt 64 (natB p n : Nat) &&& ~~~(BitVec.ofInt 64 (natB q n : Nat))).toNat) = _
  rw [BitVec.ofInt_natCast, BitVec.ofInt_natCast, key]
  have hh : ((natB (fun i => p i && !q i) n : Nat) : Int) < 2 ^ 62 := by exact_mod_cast hc
  exact wrap_u64 (by simp only [Int.ofNat_eq_natCast]; omega) hh
theorem bits_all1 (n : Nat) : bits (fun _ => true) n = 2 ^ n - 1 := by
  induction n with
  | zero => rfl
  | succ n ih => simp only [bits, ih, if_true, Int.pow_succ]; omega

namespace Rp
/-- The raps that are not in a set. -/
def restS (r : Rp) (q : Int) : Int := bits (fun i => !inS q i) r.k
theorem restS_eq (r : Rp) (hk : r.k ≤ 60) {q : Int} (hq : 0 ≤ q ∧ q < 2 ^ r.k) : bitI .andNot .u64 (2 ^ r.k - 1) q = r.restS q := by
  rw [← bits_all1, ← bits_inS hq, bitsU_andNot _ _ hk, bits_inS hq]
  rfl
noncomputable def wrG (r : Rp) (q : Int) : Int × Bool := (sizeS q, decide (0 < ((r.heardF (r.restS q) r.soundsF).length : Int)))
noncomputable def wrB (r : Rp) : Option (Int × Int) := bestC r.wrG (tab (2 ^ r.k) fun i => (i : Int))
noncomputable def wrV (r : Rp) : AVal :=
  if r.Valid then
    (match r.wrB with
      | none => .tup [.int .i64 0, .int .i64 4]
      | some b => if b.1 = 0 then .tup [.int .i64 0, .int .i64 4] else .tup [.int .i64 b.1, .int .i64 0])
  else .tup [.int .i64 0, .int .i64 1]
end Rp

theorem rap_Wrong_2_ok (r : Rp) (hv : r.Valid) (q : Int) (hq : 0 ≤ q ∧ q < 2 ^ r.k) : APure Pg fn_rap_Wrong_2 [.int .i64 q, .pv [r.H], .pv [LF r.dl r.soundsF]] (.tup [.int .i64 (r.wrG q).1, .bool (r.wrG q).2]) := by
  have hk := hv.k10
  have h2 := two_pow_le (show r.k ≤ 10 from hk)
  have e10 : (2 : Int) ^ 10 = 1024 := by decide
  have hw : IntKind.u64.wrap q = q := wrap_u64 (by omega) (by omega)
  have hr := bits_lt (fun i => !inS q i) r.k
  have hrs : r.restS q = bits (fun i => !inS q i) r.k := rfl
  have cE := rap_hull_every_ok r (by omega)
  have cH := rap_hull_heard_ok r hv (r.restS q) (by omega) r.soundsF (by have := r.soundsF_len hv; omega)
  have hre := r.restS_eq (by omega) hq
  obtain ⟨H, hH⟩ : ∃ H, H = r.H := ⟨_, rfl⟩
  rw [← hH] at cE cH ⊢
  refine rap_Wrong_2.pure (by simp) ?_
  simp [hw]
  refine PCallK.intro (PInv.func (math_OnesCount_ok q (by omega))) ?_
  simp
  refine PCallK.intro (PInv.func cE) ?_
  simp [hw, hre]
  refine FCall.pure (PInv.func cH) ?_
  simp
  refine RetV.refl ?_
  simp [Rp.wrG]

theorem rap_Wrong_ok (r : Rp) (hs : r.Small) : APure Pg fn_rap_Wrong [r.v] r.wrV := by
  by_cases hv : ¬ r.Valid
  · refine rap_Wrong.pure (by simp) ?_
    simp
    intro s1 s2
    refine FCall.pan (PInvPan.func (rap_open_arg r hs hv _)) ?_
    simp
    refine RetD.panic rfl rap_Wrong_1.recClo ?_
    refine ACalls.cps [(3, .row [.int .i64 0] (s2 + 1))] (fun _ : Unit => .tup []) (fun _ => [(3, .row [.int .i64 1] (s2 + 1))]) (fun _ => True) (fun K' hK' => rap_said_ref _ _ _ _ K' (hK' () trivial)) (by simp) (fun _ => rfl) fun _ _ => ?_
    simp
    exact RetV.refl (by simp [Rp.wrV, hv])
  replace hv := Classical.not_not.1 hv
  obtain ⟨H, hH⟩ : ∃ H, H = r.H := ⟨_, rfl⟩
  have cO := rap_open_ok r hs hv
  have cS := rap_hull_sounds_ok r hs hv
  rw [Rp.LS_eq] at cS
  have hk := hv.k10
  have h2p : (2 : Nat) ^ r.k ≤ 2 ^ 10 := Nat.pow_le_pow_right (by omega) hk
  have e10 : (2 : Nat) ^ 10 = 1024 := by decide
  have hpi : (2 : Int) ^ r.k = ((2 ^ r.k : Nat) : Int) := by simp
  obtain ⟨N, hN⟩ : ∃ N : Nat, N = 2 ^ r.k := ⟨_, rfl⟩
  rw [← hN] at h2p hpi
  have cB := rap_best_int_ok (tab N fun i => (i : Int)) (by simp; omega) (.func (.func fn_rap_Wrong_2) [] [.pv [r.H], .pv [LF r.dl r.soundsF]]) r.wrG (fun x hx => by
    obtain ⟨i, hi, rfl⟩ := List.getElem_of_mem hx
    simp at hi
    simp
    exact PInv.func (first := []) (cap := [_, _]) (args := [_]) (rap_Wrong_2_ok r hv i (by omega)))
  have hB : bestC r.wrG (tab N fun i => (i : Int)) = r.wrB := by rw [hN]; rfl
  rw [hB] at cB
  rw [← hH] at cO cS cB
  have hkl : r.rs.length = r.k := rfl
  have hHc : acells H = some [H] := by rw [hH]; rfl
  have hHf : ∀ a b c, frz a b c H = H := fun a b c => by rw [hH]; rfl
  have hw : IntKind.i64.wrap (N : Int) = N := wrap_fits (by unfold Fits; omega)
  refine rap_Wrong.pure (by simp) ?_
  simp
  intro s1 s2
  refine FCall.pure (PInv.func cO) ?_
  simp [hHc]
  intro s4
  refine FCall.pure (PInv.func cS) ?_
  simp [hkl, hpi, hw]
  intro s5
  refine ⟨by omega, by unfold Fits; omega, ?_⟩
  refine FCall.pure (PInv.func (rap_upTo_ok N (by omega))) ?_
  simp
  refine FCall.frz2 4 5 (cells := [H]) (s := s4 + 1) (cells' := [LF r.dl r.soundsF]) (s' := s5 + 1) (by simp) (by simp) (by omega) (v := .tup [.int .i64 (bst1 r.wrB), .int .i64 (bst2 r.wrB), .bool r.wrB.isSome]) ?_ (by simp) ?_
  · simp [hHf]
    exact PInv.func (first := []) (cap := []) (args := [_, _]) cB
  cases hnb : r.wrB with
  | none =>
    simp
    refine FCall.pan (PInvPan.func (rap_want_pan 4)) ?_
    simp
    refine RetD.panic rfl rap_Wrong_1.recClo ?_
    refine ACalls.cps [(3, .row [.int .i64 0] (s2 + 1))] (fun _ : Unit => .tup []) (fun _ => [(3, .row [.int .i64 4] (s2 + 1))]) (fun _ => True) (fun K' hK' => rap_said_ref _ _ _ _ K' (hK' () trivial)) (by simp) (fun _ => rfl) fun _ _ => ?_
    simp
    exact RetV.refl (by simp [Rp.wrV, hv, hnb])
  | some b =>
    have hb1 : bst1 (some b) = b.1 := rfl
    by_cases h0 : b.1 = 0
    · simp [hb1, h0]
      refine FCall.pan (PInvPan.func (rap_want_pan 4)) ?_
      simp
      refine RetD.panic rfl rap_Wrong_1.recClo ?_
      refine ACalls.cps [(3, .row [.int .i64 0] (s2 + 1))] (fun _ : Unit => .tup []) (fun _ => [(3, .row [.int .i64 4] (s2 + 1))]) (fun _ => True) (fun K' hK' => rap_said_ref _ _ _ _ K' (hK' () trivial)) (by simp) (fun _ => rfl) fun _ _ => ?_
      simp
      exact RetV.refl (by simp [Rp.wrV, hv, hnb, h0])
    · simp [hb1, h0]
      refine FCall.pure (PInv.func (rap_want_ok 4)) ?_
      simp
      refine RetD.ret rfl rap_Wrong_1.recClo ((rap_said_nil _ _).mono ?_)
      rintro e h' ⟨rfl, rfl⟩
      simp
      exact RetV.refl (by simp [Rp.wrV, hv, hnb, h0])
end Go.Cw
end
