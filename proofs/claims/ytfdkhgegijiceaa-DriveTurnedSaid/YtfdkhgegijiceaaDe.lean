/-
  The law Turned: seams that are numbered otherwise.
-/
import Derived.Test.YtfdkhgegijiceaaDd
import Derived.Test.YtfdkhgegijiceaaAf
set_option linter.unusedVariables false
set_option linter.unusedSimpArgs false
set_option linter.unusedSectionVars false

/- Seams that are numbered otherwise: plain reckoning. -/
section
set_option linter.unusedSimpArgs false
namespace Go.Cw
open Go

namespace Drv
/-- Blows, numbered from the other end. -/
def mirC (n : Nat) (c : Nat → Int) : Nat → Int := fun j => if j < n then c (n - 1 - j) else 0
def mir (d : Drv) : Drv := ⟨tab d.n (fun j => d.lim (d.n - 1 - j)), d.beside.reverse.map fun p => ((d.n : Int) - 1 - p.2, (d.n : Int) - 1 - p.1), (List.range d.n).map fun j => (d.lo (d.n - 1 - j), d.hi (d.n - 1 - j))⟩

theorem mir_n (d : Drv) : d.mir.n = d.n := by simp [mir, n]
theorem mirC_zn (n : Nat) (c : Nat → Int) : Zn n (mirC n c) := fun j hj => if_neg (by omega)
theorem mirC_at {n : Nat} {c : Nat → Int} {j : Nat} (hj : j < n) : mirC n c (n - 1 - j) = c j := by
  unfold mirC; rw [if_pos (by omega), show n - 1 - (n - 1 - j) = j by omega]
theorem mirC_lt {n : Nat} {c : Nat → Int} {j : Nat} (hj : j < n) : mirC n c j = c (n - 1 - j) := if_pos hj
theorem mirC_mirC {n : Nat} {c : Nat → Int} (hz : Zn n c) : mirC n (mirC n c) = c := by
  funext j
  by_cases hj : j < n
  · rw [mirC_lt hj, mirC_lt (by omega), show n - 1 - (n - 1 - j) = j by omega]
  · rw [mirC_zn n _ j (by omega), hz j (by omega)]

theorem mir_lim (d : Drv) {j : Nat} (hj : j < d.n) : d.mir.lim j = d.lim (d.n - 1 - j) := by
  simp [lim, mir, List.getD_eq_getElem?_getD, hj]
theorem mir_lo {d : Drv} : d.mir.lo = mirC d.n d.lo ∧ d.mir.hi = mirC d.n d.hi := by
  constructor <;> funext j <;> simp only [Drv.lo, Drv.hi, mir, List.getD_eq_getElem?_getD, List.getElem?_map] <;> by_cases hj : j < d.n
  · rw [mirC_lt hj, List.getElem?_range hj]; rfl
  · rw [mirC_zn _ _ _ (by omega), List.getElem?_eq_none (by simp; omega)]; rfl
  · rw [mirC_lt hj, List.getElem?_range hj]; rfl
  · rw [mirC_zn _ _ _ (by omega), List.getElem?_eq_none (by simp; omega)]; rfl

theorem mir_cnt {d : Drv} {i j : Nat} (hi : i < d.n) (hj : j < d.n) : d.mir.cnt i j = d.cnt (d.n - 1 - i) (d.n - 1 - j) := by
  unfold cnt cntL mir
  simp only [List.countP_map, List.countP_reverse]
  refine List.countP_congr fun p _ => ?_
  simp only [Function.comp, Bool.or_eq_true, decide_eq_true_eq, Prod.ext_iff]
  constructor
  · rintro (⟨h1, h2⟩ | ⟨h1, h2⟩)
    · right; constructor <;> omega
    · left; constructor <;> omega
  · rintro (⟨h1, h2⟩ | ⟨h1, h2⟩)
    · right; constructor <;> omega
    · left; constructor <;> omega

theorem mir_deg {d : Drv} {j : Nat} (hj : j < d.n) : d.mir.deg j = d.deg ((d.n - 1 - j : Nat) : Int) := by
  unfold deg mir
  simp only [List.countP_map, List.countP_reverse]
  refine List.countP_congr fun p _ => ?_
  simp only [Function.comp, Bool.or_eq_true, decide_eq_true_eq]
  constructor
  · rintro (h | h)
    · right; omega
    · left; omega
  · rintro (h | h)
    · right; omega
    · left; omega

theorem mir_valid {d : Drv} (hv : d.Valid) : d.mir.Valid := by
  have hn := mir_n d
  have hn1 := hv.n1
  have hnd : d.mir.beside.Nodup := by
    show List.Pairwise (· ≠ ·) (d.beside.reverse.map _)
    rw [List.pairwise_map, List.pairwise_reverse]
    refine List.Pairwise.imp ?_ hv.nodup
    intro a b hab h
    simp only [Prod.ext_iff] at h
    exact hab (Prod.ext (by omega) (by omega))
  refine ⟨by rw [hn]; exact hv.n1, by rw [hn]; exact hv.n6, by rw [hn]; simp [mir], fun i p hp => ?_, fun i l s hl hs => ?_⟩
  · have hm : p ∈ d.mir.beside := List.mem_of_getElem? hp
    obtain ⟨q, hq, rfl⟩ := List.mem_map.1 hm
    obtain ⟨k, hk, rfl⟩ := List.getElem_of_mem (List.mem_reverse.1 hq)
    obtain ⟨h1, h2, h3, _⟩ := hv.pr k d.beside[k] (by simp [hk])
    unfold Seam at h1 h2 ⊢
    rw [hn]
    refine ⟨by simp only; omega, by simp only; omega, by simp only; omega, fun j hj he => ?_⟩
    have := List.pairwise_iff_getElem.1 hnd j i (List.getElem?_eq_some_iff.1 he).1 (List.getElem?_eq_some_iff.1 hp).1 hj
    exact this ((List.getElem?_eq_some_iff.1 he).2.trans (List.getElem?_eq_some_iff.1 hp).2.symm)
  · have hi : i < d.n := by
      have := (List.getElem?_eq_some_iff.1 hl).1
      simpa [mir] using this
    have h0 : d.n - 1 - i < d.n := by omega
    simp only [mir, tab_get, if_pos hi, Option.some.injEq] at hl
    simp only [mir, List.getElem?_map, List.getElem?_range hi, Option.map_some, Option.some.injEq] at hs
    subst hl; subst hs
    rw [mir_deg hi]
    have hlm := hv.lim_pos h0
    have hlh := hv.lohi (d.n - 1 - i)
    have hsm := hv.sm (d.n - 1 - i) (d.lim (d.n - 1 - i)) (d.lo (d.n - 1 - i), d.hi (d.n - 1 - i)) (d.lim_get h0) (by
      have : d.n - 1 - i < d.blows.length := by rw [hv.bl]; exact h0
      simp [Drv.lo, Drv.hi, this])
    exact hsm

theorem mir_small {d : Drv} (hd : d.Small) : d.mir.Small := ⟨by have := hd.l; simp [mir]; exact this, by have := hd.p; simpa [mir] using this, by have := hd.l; simp [mir]; exact this⟩

theorem mir_fire {d : Drv} (hv : d.Valid) {i : Nat} (hi : i < d.n) (c : Nat → Int) : d.mir.fire (d.n - 1 - i) (mirC d.n c) = mirC d.n (d.fire i c) := by
  have hw := mir_valid hv
  funext j
  unfold fire
  by_cases hj : j < d.n
  · rw [mirC_lt hj, mirC_lt hj, mir_cnt (by omega) hj, show d.n - 1 - (d.n - 1 - i) = i by omega]
    by_cases h : j = d.n - 1 - i
    · rw [if_pos h, if_pos (by omega), mir_lim d (by omega), show d.n - 1 - (d.n - 1 - i) = i by omega]
    · rw [if_neg h, if_neg (by omega)]
  · rw [mirC_zn _ _ _ (by omega), mirC_zn _ _ _ (by omega), if_neg (by omega), cnt_none hw _ (by rw [mir_n]; omega)]; rfl

theorem mir_seq {d : Drv} (hv : d.Valid) {c c' : Nat → Int} {l : List Nat} (s : Seq d c l c') : Seq d.mir (mirC d.n c) (l.map fun i => d.n - 1 - i) (mirC d.n c') := by
  induction s with
  | nil => exact .nil
  | @cons c c' i l hi hc r ih =>
    refine .cons (by show d.n - 1 - i < d.mir.n; rw [mir_n]; omega) ?_ ?_
    · show d.mir.lim (d.n - 1 - i) ≤ mirC d.n c (d.n - 1 - i)
      rw [mir_lim d (show d.n - 1 - i < d.n by omega), mirC_at hi, show d.n - 1 - (d.n - 1 - i) = i by omega]; exact hc
    · rw [mir_fire hv hi]; exact ih

theorem mir_in {d : Drv} (hv : d.Valid) {c : Nat → Int} {m : Int} (hm : 0 ≤ m) (h : ∀ j, j < d.n → 0 ≤ c j ∧ c j ≤ m) : d.mir.In (6 * m) (mirC d.n c) :=
  In.of_le (mir_valid hv) (fun j hj => by rw [mir_n] at hj; rw [mirC_lt hj]; exact h _ (by omega)) hm

theorem mir_rest {d : Drv} (hv : d.Valid) {c : Nat → Int} {m : Int} (hm : 0 ≤ m) (h : ∀ j, j < d.n → 0 ≤ c j ∧ c j ≤ m) : d.mir.left (mirC d.n c) = mirC d.n (d.left c) ∧ ∀ j, j < d.n → d.mir.odo (mirC d.n c) (d.n - 1 - j) = d.odo c j := by
  have hin := In.of_le hv h hm
  obtain ⟨l, s, st, ho⟩ := hin.rest hv
  have hst : d.mir.Stable (mirC d.n (d.left c)) := fun j hj => by
    rw [mir_n] at hj
    rw [mirC_lt hj, mir_lim d hj]
    exact st _ (by omega)
  obtain ⟨h1, h2⟩ := (mir_seq hv s).rest (mir_valid hv) (mir_in hv hm h) hst
  refine ⟨h2.symm, fun j hj => ?_⟩
  rw [← h1, ho]
  unfold times
  rw [List.countP_map]
  congr 1
  refine List.countP_congr fun i hi => ?_
  have := s.mem i hi
  simp only [Function.comp, beq_iff_eq]
  omega

theorem mir_truth {d : Drv} (hv : d.Valid) {l : List Int} (h : l ∈ d.truths) : tab d.n (mirC d.n (ofL l)) ∈ d.mir.truths := by
  obtain ⟨h1, h2⟩ := hv.mem.1 h
  refine (mir_valid hv).mem.2 ⟨by simp [mir_n], fun j hj => ?_⟩
  rw [mir_n] at hj
  rw [mir_lo.1, mir_lo.2, (mirC_zn d.n (ofL l)).eq, mirC_lt hj, mirC_lt hj, mirC_lt hj]
  exact h2 _ (by omega)

theorem lohi_zn {d : Drv} (hv : d.Valid) : Zn d.n d.lo ∧ Zn d.n d.hi := by
  constructor <;> intro j hj <;> have : d.blows.length ≤ j := (by rw [hv.bl]; exact hj) <;> simp [Drv.lo, Drv.hi, this]

theorem truth_mir {d : Drv} (hv : d.Valid) {l : List Int} (h : l ∈ d.mir.truths) : ∃ l', l' ∈ d.truths ∧ ofL l = mirC d.n (ofL l') := by
  obtain ⟨h1, h2⟩ := (mir_valid hv).mem.1 h
  rw [mir_n] at h1 h2
  have hz : Zn d.n (ofL l) := Zn.ofL h1
  refine ⟨tab d.n (mirC d.n (ofL l)), hv.mem.2 ⟨by simp, fun j hj => ?_⟩, ?_⟩
  · rw [(mirC_zn d.n (ofL l)).eq, mirC_lt hj]
    have := h2 (d.n - 1 - j) (by omega)
    rw [mir_lo.1, mir_lo.2, mirC_at hj, mirC_at hj] at this
    exact this
  · rw [(mirC_zn d.n (ofL l)).eq, mirC_mirC hz]

theorem mir_left {d : Drv} (hv : d.Valid) {i : Nat} (hi : i < d.n) : spanOf (d.mir.leftL (d.n - 1 - i)) = spanOf (d.leftL i) := by
  have hne : d.leftL i ≠ [] := by unfold Drv.leftL; simpa using hv.truths_ne
  obtain ⟨h1, h2, h3⟩ := spanOf_mem hne
  have key : ∀ x ∈ d.leftL i, x ∈ d.mir.leftL (d.n - 1 - i) := fun x hx => by
    obtain ⟨l, hl, rfl⟩ := List.mem_map.1 hx
    refine List.mem_map.2 ⟨_, mir_truth hv hl, ?_⟩
    rw [(mirC_zn d.n (ofL l)).eq, (mir_rest hv (m := 12) (by omega) fun j hj => ((hv.truth hl).2 j hj).2).1, mirC_at hi]
  refine (spanOf_eq (key _ h1) (key _ h2) fun x hx => ?_).trans rfl
  obtain ⟨l, hl, rfl⟩ := List.mem_map.1 hx
  obtain ⟨l', hl', e⟩ := truth_mir hv hl
  rw [e, (mir_rest hv (m := 12) (by omega) fun j hj => ((hv.truth hl').2 j hj).2).1, mirC_at hi]
  exact h3 _ (List.mem_map.2 ⟨l', hl', rfl⟩)

theorem mir_times {d : Drv} (hv : d.Valid) {i : Nat} (hi : i < d.n) : d.mir.odo d.mir.lo (d.n - 1 - i) = d.odo d.lo i ∧ d.mir.odo d.mir.hi (d.n - 1 - i) = d.odo d.hi i := by
  rw [mir_lo.1, mir_lo.2]
  exact ⟨(mir_rest hv (m := 12) (by omega) fun j _ => by have := hv.lohi j; omega).2 i hi, (mir_rest hv (m := 12) (by omega) fun j _ => by have := hv.lohi j; omega).2 i hi⟩

theorem mir_plus {n : Nat} (c : Nat → Int) {a : Nat} (ha : a < n) (x : Int) : plus (mirC n c) (n - 1 - a) x = mirC n (plus c a x) := by
  funext j
  unfold plus
  by_cases hj : j < n
  · rw [mirC_lt hj, mirC_at ha]
    simp only [upd]
    by_cases h : j = n - 1 - a
    · rw [if_pos h, if_pos (by omega)]
    · rw [if_neg h, if_neg (by omega), mirC_lt hj]
  · rw [upd_ne _ _ (by omega), mirC_zn _ _ _ (by omega), mirC_zn _ _ _ (by omega)]

theorem mir_push {d : Drv} (hv : d.Valid) {a b : Nat} (ha : a < d.n) (hb : b < d.n) : d.mir.pushV ((d.n - 1 - a : Nat) : Int) ((d.n - 1 - b : Nat) : Int) = d.pushV a b := by
  have hw := mir_valid hv
  unfold pushV
  rw [if_pos hv, if_pos hw, if_pos ⟨⟨by omega, by rw [mir_n]; omega⟩, ⟨by omega, by rw [mir_n]; omega⟩⟩, if_pos ⟨⟨by omega, by omega⟩, ⟨by omega, by omega⟩⟩]
  simp only [Int.toNat_natCast]
  have : (fun k => decide (d.mir.PushAll (d.n - 1 - a) (d.n - 1 - b) k)) = fun k => decide (d.PushAll a b k) := by
    funext k
    rw [decide_eq_decide, push_all hw, push_all hv, mir_lo.1, mir_plus _ ha, (mir_rest hv (m := 12 + k) (by omega) fun j _ => ?_).2 b hb]
    have := hv.lohi j
    unfold plus upd
    split
    · rename_i h; subst h; omega
    · omega
  rw [this]
end Drv
end Go.Cw
end

/- Settle, as it makes new lists. -/
section
set_option maxRecDepth 100000
set_option linter.unusedSimpArgs false
namespace Go.Cw
open Go Go.Proofs

theorem drive_Settle_rows (d : Drv) (hd : d.Small) (h1 : d.Valid) (l : List Int) (h2 : d.Blows l) (ra rb : Nat) (hne : ra ≠ rb) (K : AEnd → Heap → Prop)
    (hK : ∀ sa sb, K (.ret (.tup [.sl ra 0 sa d.n (.gr 1), .sl rb 0 sb d.n (.gr 1), .int .i64 0])) (hpV [(ra, .row (ints (tab d.n (d.left (ofL l)))) sa), (rb, .row (ints (tab d.n (d.odo (ofL l)))) sb)])) :
    ACalls Pg fn_drive_Settle [d.v, L l] (hpV [(ra, .dead), (rb, .dead)]) K := by
  obtain ⟨F, hF⟩ : ∃ F, ra < F ∧ rb < F := ⟨ra + rb + 1, by omega⟩
  have e1 : ∀ k, ¬ F + k = ra := fun k => by omega
  have e2 : ∀ k, ¬ ra = F + k := fun k => by omega
  have e3 : ∀ k, ¬ F + k = rb := fun k => by omega
  have e4 : ∀ k, ¬ rb = F + k := fun k => by omega
  have hll := h2.1
  have hn6 := h1.n6
  have hn1 := h1.n1
  refine drive_Settle.enter F (by simp) ?_
  simp [e1, e2, e3, e4]
  intro s s1
  refine PCallK.intro (PInv.func (drive_areBlows_ok d l (by omega))) ?_
  simp [h2]
  refine FCall.pure (PInv.func (drive_open_ok d hd h1)) ?_
  simp
  have hz : Z6 (ofL l) := fun j hj => ofL_none l (by omega)
  refine FCall.cps [(F + 200, .dead)] (fun s' : Nat => .agg [d.H, .map (F + 200) s']) (fun s' => [(F + 200, .map [] s')]) (fun _ => True) (fun K' hK' => AInvoke.func ?_) (by simp [e1, e2, e3, e4]) (fun _ => rfl) trivial (fun s' _ => ⟨trivial, ?_⟩)
  · exact drive_hull_settler_ok d (F + 200) K' fun s' => hK' s' trivial
  simp [e1, e2, e3, e4]
  refine PCallK.intro (PInv.func (drive_blowsOf_ok l (by omega))) ?_
  simp
  refine FCall.cps [(F + 200, .map (d.memo []) s')] (fun _ : {M' : List (List Int) // ∀ l ∈ M', l.length = 6} => d.restV (ofL l)) (fun M' => [(F + 200, .map (d.memo M'.1) s')]) (fun _ => True) (fun K' hK' => AInvoke.func ?_) (by simp [e1, e2, e3, e4]; rfl) (fun _ => rfl) trivial (fun M' _ => ?_)
  · refine drive_settler_rest_ok d hd h1 (ofL l) hz (B := 312) (by omega) (Drv.In.of_le h1 (m := 52) h2.le (by omega)) (fun j _ => ?_) (F + 200) s' [] (by simp) K' fun M' hM' => hK' ⟨M', hM'⟩ trivial
    by_cases hj : j < d.n
    · have := h2.le j hj; omega
    · rw [ofL_none l (by omega)]; omega
  simp [Drv.restV, Drv.restL, e1, e2, e3, e4]
  intro s2
  refine PCallK.intro (PInv.func (drive_hull_seams_ok d)) ?_
  simp
  refine ⟨by omega, ?_⟩
  obtain ⟨cs, hcs⟩ : ∃ cs, cs = ints (tab 6 (d.left (ofL l)) ++ tab 6 (d.odo (ofL l))) := ⟨_, rfl⟩
  rw [← hcs]
  have hl12 : cs.length = 12 := by rw [hcs]; simp
  have ht1 : cs.take d.n = ints (tab d.n (d.left (ofL l))) := by
    rw [hcs, ints_take, List.take_append_of_le_length (by simpa using hn6)]; simp [Nat.min_eq_left hn6]
  have ht2 : (cs.drop 6).take d.n = ints (tab d.n (d.odo (ofL l))) := by
    rw [hcs, ints_drop, two_drop, ints_take]; simp [Nat.min_eq_left hn6]
  refine FCall.cps [(F + 300, .dead), (F + 8, .row cs (s2 + 1))] (fun s' : Nat => .sl (F + 300) 0 s' d.n (.gr 1)) (fun s' => [(F + 300, .row ((cs.drop 0).take d.n) s'), (F + 8, .row cs (s2 + 1))]) (fun _ => True) (fun K' hK' => AInvoke.func ?_) (by simp [e1, e2, e3, e4]) (fun _ => rfl) trivial (fun s3 _ => ⟨trivial, ?_⟩)
  · exact slices_Clone_ok (F + 8) (F + 300) 0 (s2 + 1) d.n _ cs hn1 (by omega) (by omega) (by omega) K' fun s' => hK' s' trivial
  simp [e1, e2, e3, e4]
  refine PCallK.intro (PInv.func (drive_hull_seams_ok d)) ?_
  simp
  refine ⟨by omega, ?_⟩
  refine FCall.cps [(F + 301, .dead), (F + 8, .row cs (s2 + 1))] (fun s' : Nat => .sl (F + 301) 0 s' d.n (.gr 1)) (fun s' => [(F + 301, .row ((cs.drop 6).take d.n) s'), (F + 8, .row cs (s2 + 1))]) (fun _ => True) (fun K' hK' => AInvoke.func ?_) (by simp [e1, e2, e3, e4]) (fun _ => rfl) trivial (fun s4 _ => ⟨trivial, ?_⟩)
  · exact slices_Clone_ok (F + 8) (F + 301) 6 (s2 + 1) d.n _ cs hn1 (by omega) (by omega) (by omega) K' fun s' => hK' s' trivial
  simp [ht1, ht2, e1, e2, e3, e4]
  refine RetD.ret rfl drive_Settle_1.recClo ((drive_said_nil _ _).mono ?_)
  rintro e h' ⟨rfl, rfl⟩
  simp [e1, e2, e3, e4]
  refine RetV.move (F + 300) ra (RetV.move (F + 301) rb ?_)
  refine RetV.view [(ra, .row (ints (tab d.n (d.left (ofL l)))) s3), (rb, .row (ints (tab d.n (d.odo (ofL l)))) s4)] (by simp [e1, e2, e3, e4, hne, Ne.symm hne]) ?_
  simpa [e1, e2, e3, e4] using hK s3 s4
end Go.Cw
end

/- DriveTurned. -/
section
set_option maxRecDepth 100000
set_option linter.unusedSimpArgs false
namespace Go.Cw
open Go Go.Proofs

theorem law05_DriveTurned_1_ok (n k : Nat) (hn : n ≤ 100) (hk : k < n) : APure Pg fn_law05_DriveTurned_1 [.int .i64 k, .pv [.int .i64 n]] (.int .i64 (n - 1 - k : Nat)) := by
  refine law05_DriveTurned_1.pure (by simp) ?_
  simp
  (repeat first | refine And.intro (by omega) ?_ | refine And.intro (Fits.of (by omega) (by omega)) ?_)
  exact RetV.refl (by simp; omega)

theorem prs_set2 (l : List (Int × Int)) (k : Nat) (hk : k < l.length) (x y : Int) : setRange (prs l) (k * 2) [.int .i64 x, .int .i64 y] = prs (l.set k (x, y)) := by
  induction l generalizing k with
  | nil => simp at hk
  | cons a l ih =>
    cases k with
    | zero => simp
    | succ k =>
      rw [show (k + 1) * 2 = k * 2 + 1 + 1 by omega]
      simp only [List.length_cons] at hk
      simpa using ih k (by omega)

/-- What is filled from the end. -/
def fromEnd {α : Type} (n k : Nat) (f : Nat → α) (z : α) : List α := (List.range n).map fun j => if n ≤ k + j then f (n - 1 - j) else z
@[simp] theorem fromEnd_length {α : Type} (n k : Nat) (f : Nat → α) (z : α) : (fromEnd n k f z).length = n := by simp [fromEnd]
theorem fromEnd_zero {α : Type} (n : Nat) (f : Nat → α) (z : α) : fromEnd n 0 f z = List.replicate n z := by
  apply List.ext_getElem?
  intro j
  simp only [fromEnd, List.getElem?_map, List.getElem?_replicate]
  by_cases hj : j < n
  · rw [List.getElem?_range hj, if_pos hj]; simp; omega
  · rw [List.getElem?_eq_none (by simp; omega), if_neg hj]; rfl
theorem fromEnd_set {α : Type} (n k : Nat) (f : Nat → α) (z : α) (hk : k < n) : (fromEnd n k f z).set (n - 1 - k) (f k) = fromEnd n (k + 1) f z := by
  apply List.ext_getElem?
  intro j
  rw [List.getElem?_set]
  simp only [fromEnd, List.getElem?_map, List.length_map, List.length_range]
  by_cases hj : j < n
  · rw [List.getElem?_range hj]
    by_cases h : n - 1 - k = j
    · subst h
      rw [if_pos rfl, if_pos (by omega)]
      simp only [Option.map_some]
      rw [if_pos (by omega), show n - 1 - (n - 1 - k) = k by omega]
    · rw [if_neg h]
      simp only [Option.map_some]
      by_cases h2 : n ≤ k + j
      · rw [if_pos h2, if_pos (by omega)]
      · rw [if_neg h2, if_neg (by omega)]
  · rw [List.getElem?_eq_none (by simp; omega)]
    split
    · rw [if_neg (by omega)]; rfl
    · rfl
theorem fromEnd_all {α : Type} (n : Nat) (f : Nat → α) (z : α) : fromEnd n n f z = (List.range n).map fun j => f (n - 1 - j) := by
  unfold fromEnd
  refine List.map_congr_left fun j _ => by rw [if_pos (by omega)]
theorem fromEnd_tab (n : Nat) (f : Nat → Int) : fromEnd n n f 0 = tab n fun j => f (n - 1 - j) := fromEnd_all n f 0

/-- The function that numbers otherwise. -/
def numV (n : Nat) : AVal := .func (.func fn_law05_DriveTurned_1) [] [.pv [.int .i64 n]]

section
variable {F n₀ : Nat} {inr : Bool} {keep : List Nat} {fa fl : List It} {t : Option Nat} {K : KT} {Q : Post} {tm : TM} {df : DF} {h : Heap}
theorem FCall.num {n k : Nat} (hn : n ≤ 100) (hk : k < n) (f : FaOk F fa tm h) (f' : FlOk fl (putD tm t (.int .i64 (n - 1 - k : Nat))) h) (k' : K (putD tm t (.int .i64 (n - 1 - k : Nat))) df h) :
    FCall ⟨Pg, F, n₀, inr, keep⟩ (numV n) [.int .i64 k] fa fl t K Q tm df h :=
  FCall.pure' (PInv.func (first := []) (law05_DriveTurned_1_ok n k hn hk)) f f' k'

theorem FCall.settleN {d : Drv} (hd : d.Small) (hv : d.Valid) {c : Nat → Int} (hz : Zn d.n c) (hc : ∀ j, j < d.n → 0 ≤ c j ∧ c j ≤ 52) (ra rb : Nat) (hne : ra ≠ rb) (ha : h ra = .dead) (hb : h rb = .dead)
    (k : ∀ sa sb, K (putD tm t (.tup [.sl ra 0 sa d.n (.gr 1), .sl rb 0 sb d.n (.gr 1), .int .i64 0])) df (upd (upd h ra (.row (Cw.ints (tab d.n (d.left c))) sa)) rb (.row (Cw.ints (tab d.n (d.odo c))) sb))) :
    FCall ⟨Pg, F, n₀, inr, keep⟩ (.func (.func fn_drive_Settle) [] []) [d.v, L (tab d.n c)] [] [] t K Q tm df h := by
  refine FCall.cps [(ra, .dead), (rb, .dead)] (fun x : Nat × Nat => .tup [.sl ra 0 x.1 d.n (.gr 1), .sl rb 0 x.2 d.n (.gr 1), .int .i64 0]) (fun x => [(ra, .row (Cw.ints (tab d.n (d.left c))) x.1), (rb, .row (Cw.ints (tab d.n (d.odo c))) x.2)]) (fun _ => True) (fun K' hK' => AInvoke.func ?_) ⟨ha, hb, trivial⟩ (fun _ => rfl) trivial (fun x _ => ⟨trivial, ?_⟩)
  · have := drive_Settle_rows d hd hv (tab d.n c) (blows_tab hc) ra rb hne K' fun sa sb => ?_
    · exact this
    · rw [hz.eq]; exact hK' (sa, sb) trivial
  · have := k x.1 x.2
    simp only [updL_cons, updL_nil]
    rw [upd_comm _ _ _ hne] at this
    exact this
end
end Go.Cw
end

/- DriveTurned: the walk. -/
section
set_option maxRecDepth 100000
set_option linter.unusedSimpArgs false
namespace Go.Cw
open Go Go.Proofs

theorem order_turned {d : Drv} {o : List Int} (ho : o.Perm (upto d.n)) (hn : 1 ≤ d.n) : ¬ d.Order ((d.n : Int) :: o.tail) := by
  intro h
  have hl := ho.length_eq
  cases o with
  | nil => simp at hl; omega
  | cons v t =>
    have h1 := ho.count_eq v
    rw [upto_count, List.count_cons_self] at h1
    by_cases h2 : 0 ≤ v ∧ v < d.n
    · rw [if_pos h2] at h1
      have h3 := h.2 v.toNat (by omega)
      rw [Int.toNat_of_nonneg h2.1, List.tail_cons, List.count_cons_of_ne (by omega)] at h3
      omega
    · rw [if_neg h2] at h1; omega

theorem law05_DriveTurned_ok (d : Drv) (l : List Int) (hl : U16ok l) : APure Pg fn_law05_DriveTurned [d.v, U16 l] (.bool true) := by
  refine law05_DriveTurned.pure (by simp) ?_
  simp
  intro s
  refine FCall.long0 (by simp) trivial ?_
  cases hlg : longB d [] with
  | true =>
    simp
    refine PCallK.intro (PInv.func law05_alive_ok) ?_
    simp
    exact RetV.refl rfl
  | false =>
  obtain ⟨hd, _⟩ := longB_iff.1 hlg
  simp
  refine PCallK.intro (PInv.func (ref05_Drive_ok d hd)) ?_
  by_cases hv : ¬ d.Valid
  · simp [hv]
    refine PCallK.intro (PInv.func law05_alive_ok) ?_
    simp
    exact RetV.refl rfl
  replace hv := Classical.not_not.1 hv
  have hn1 := hv.n1
  have hn6 := hv.n6
  have hln : d.limits.length = d.n := rfl
  have hbl : d.blows.length = d.n := hv.bl
  simp [hv]
  refine FCall.draws 600 (by simp) (by simp) fun s1 => ⟨by simp, ?_⟩
  simp
  intro s2
  refine FCall.made hd hv hl (k := 0) (by omega) (by omega) (by simp) (by simp) fun b o hb1 hb2 ho => ⟨by simp, ?_⟩
  have hB : ∀ j, 0 ≤ ofL b j ∧ ofL b j ≤ 30 := fun j => by
    by_cases hj : j < b.length
    · have := hb2 b[j] (by simp); rw [ofL_at _ hj] at this; exact this
    · rw [ofL_none _ (by omega)]; omega
  have hzB := Zn.ofL hb1
  have heb : b = tab d.n (ofL b) := by rw [← hb1, ofL_tab]
  generalize ofL b = B at *
  subst heb
  have hBm : d.In 180 B := Drv.In.of_le hv (m := 30) (fun j _ => hB j) (by omega)
  simp
  have hdn : ¬ d.n = 0 := by omega
  intro s3
  refine ⟨by omega, fun s4 => ⟨by omega, fun s5 s6 => ⟨by omega, ?_⟩⟩⟩
  have hvw : ∀ k : Nat, True := fun _ => trivial
  refine Lp.intro' (σ := Nat) (inv := fun k => k ≤ d.n)
    (vw := fun k => [(2, .pv d.cells), (5, drawV 600 s1 l), (6, .pv [.int .i64 d.n]), (7, L (tab d.n B)), (8, L o), (9, numV d.n), (10, .ptr 10 0 (s5+1)), (11, .sl 91 0 (s6+1) d.n (.ex d.n)), (92, .int .i64 d.n), (93, .int .i64 k)])
    (hp := fun k => [(600, .row [.int .i64 (2 * d.n)] s1), (86, .row (ints (fromEnd d.n k d.lim 0)) (s3+1)), (88, .row (prs (fromEnd d.n k (fun j => (d.lo j, d.hi j)) (0, 0))) (s4+1)),
      (10, .row [.sl 86 0 (s3+1) d.n (.ex d.n), .nils, .sl 88 0 (s4+1) d.n (.ex d.n)] (s5+1)), (91, .row (ints (fromEnd d.n k B 0)) (s6+1))]) (ms := fun k => d.n - k) 0 (by omega)
    (Sl.frz 2 (cells := d.cells) (s := s + 1) (by simp) (Sl.frz 6 (cells := [.int .i64 d.n]) (s := s2 + 1) (by simp [hln]) (Sl.refl ⟨rfl, ?_, ?_⟩))) ?_
  · simp [numV, drawV, hln]
  · simp [fromEnd_zero, ints, prs, hln, List.flatMap, List.map_replicate]
  intro k hk J hJ
  by_cases hkc : k < d.n
  · have hcl : k < d.limits.length := hkc
    have hcb : k < d.blows.length := by omega
    simp [hkc, hcl, hcb]
    have hnum : ((d.n - 1 - k : Nat) : Int) = d.n - 1 - k := by omega
    have hcb2 : d.n - 1 - k < d.n := by omega
    (repeat first | refine And.intro (by omega) ?_ | refine And.intro (Fits.of (by omega) (by omega)) ?_)
    refine FCall.num (by omega) hkc (by simp) (by simp [hcl, hcb, hkc]; omega) ?_
    simp
    refine FCall.num (by omega) hkc (by simp) (by simp [hcl, hcb, hkc]; omega) ?_
    simp
    refine FCall.num (by omega) hkc (by simp) (by simp [hcl, hcb, hkc]; omega) ?_
    simp [hcb2]
    have elim : d.limits[k] = d.lim k := d.lim_at hcl
    have elo : d.blows[k].1 = d.lo k := by simp [Drv.lo, hcb]
    have ehi : d.blows[k].2 = d.hi k := by simp [Drv.hi, hcb]
    have e1 := fromEnd_set d.n k d.lim 0 hkc
    have e2 := fromEnd_set d.n k B 0 hkc
    have e3 := fromEnd_set d.n k (fun j => (d.lo j, d.hi j)) (0, 0) hkc
    (repeat first | refine And.intro (by omega) ?_ | refine And.intro (Fits.of (by omega) (by omega)) ?_)
    simp only [elim, elo, ehi, e1, e2]
    rw [prs_set2 _ _ (by simpa using hcb2), e3]
    exact hJ.next (k + 1) (by omega) (by omega) (by simp) (by simp)
  obtain rfl : k = d.n := by omega
  have hml : fromEnd d.n d.n d.lim 0 = d.mir.limits := fromEnd_tab d.n d.lim
  have hmb : fromEnd d.n d.n (fun j => (d.lo j, d.hi j)) (0, 0) = d.mir.blows := fromEnd_all d.n _ _
  have hmt : fromEnd d.n d.n B 0 = tab d.n (Drv.mirC d.n B) := by
    rw [fromEnd_tab]; exact List.map_congr_left fun j hj => (Drv.mirC_lt (by simpa using hj)).symm
  simp [hml, hmb, hmt]
  refine hJ.exit ?_
  simp
  have hm := hd.p
  have hmp : d.mir.beside.length = d.beside.length := by simp [Drv.mir]
  refine Lp.intro' (σ := Nat × Nat) (inv := fun x => x.1 ≤ d.beside.length)
    (vw := fun x => [(2, .pv d.cells), (5, drawV 600 s1 l), (6, .pv [.int .i64 d.n]), (7, L (tab d.n B)), (8, L o), (9, numV d.n), (10, .ptr 10 0 (s5+1)), (11, .sl 91 0 (s6+1) d.n (.ex d.n)), (130, .int .i64 d.beside.length), (131, .int .i64 x.1)])
    (hp := fun x => [(600, .row [.int .i64 (2 * d.n)] s1), (86, .row (ints d.mir.limits) (s3+1)), (88, .row (prs d.mir.blows) (s4+1)),
      (10, .row [.sl 86 0 (s3+1) d.n (.ex d.n), gS 2 156 x.1 x.2, .sl 88 0 (s4+1) d.n (.ex d.n)] (s5+1)), (91, .row (ints (tab d.n (Drv.mirC d.n B))) (s6+1)), (156, gO x.1 (prs (d.mir.beside.take x.1)) x.2)]) (ms := fun x => d.beside.length - x.1) (0, 0) (by simp)
    (Sl.rowLe 10 [.sl 86 0 (s3+1) d.n (.ex d.n), .es, .sl 88 0 (s4+1) d.n (.ex d.n)] rfl ⟨ALe.refl _, ALe.nils_es, ALe.refl _, trivial⟩ (Sl.refl ⟨rfl, by simp, by simp⟩)) ?_
  rintro ⟨k, st⟩ hk J2 hJ2
  simp at hk
  by_cases hkc : k < d.beside.length
  · have hrl : d.beside.length - 1 - k < d.beside.length := by omega
    obtain ⟨a, b, hab, ha, hb⟩ : ∃ a b : Nat, d.beside[d.beside.length - 1 - k]? = some ((a : Int), (b : Int)) ∧ a < d.n ∧ b < d.n := by
      obtain ⟨p, hp⟩ : ∃ p, d.beside[d.beside.length - 1 - k]? = some p := ⟨_, List.getElem?_eq_getElem hrl⟩
      obtain ⟨h1, h2, _, _⟩ := hv.pr _ p hp
      unfold Drv.Seam at h1 h2
      exact ⟨p.1.toNat, p.2.toNat, by rw [hp]; exact congrArg some (Prod.ext (by simp; omega) (by simp; omega)), by omega, by omega⟩
    have htk : d.mir.beside.take (k + 1) = d.mir.beside.take k ++ [(((d.n - 1 - b : Nat) : Int), ((d.n - 1 - a : Nat) : Int))] := by
      have h1 : k < d.mir.beside.length := by omega
      rw [← List.take_append_getElem h1]
      congr 2
      have h2 : d.mir.beside[k]? = some (((d.n - 1 - b : Nat) : Int), ((d.n - 1 - a : Nat) : Int)) := by
        simp only [Drv.mir, List.getElem?_map, List.getElem?_reverse hkc, hab, Option.map_some, Option.some.injEq, Prod.mk.injEq]
        omega
      rw [List.getElem?_eq_getElem h1] at h2
      exact Option.some.inj h2
    simp [hkc, hab]
    (repeat first | refine And.intro (by omega) ?_ | refine And.intro (Fits.of (by omega) (by omega)) ?_)
    intro s7
    refine FCall.num (by omega) hb (by simp) (by simp) ?_
    simp
    refine FCall.num (by omega) ha (by simp) (by simp) ?_
    simp
    intro s8 s9
    refine xApN_gS (cells := prs (d.mir.beside.take k)) (by simp) (by simp; omega) (by omega) (by omega) ?_
    simp
    (repeat first | refine And.intro (by omega) ?_ | refine And.intro (Fits.of (by omega) (by omega)) ?_)
    exact hJ2.next (k + 1, s9 + 1) (by simp; omega) (by simp; omega) (by simp) (by simp [htk, prs])
  obtain rfl : k = d.beside.length := by omega
  have htk : d.mir.beside.take d.beside.length = d.mir.beside := List.take_of_length_le (by omega)
  have hx := Drv.mir_valid hv
  have hxs := Drv.mir_small hd
  have hxn := Drv.mir_n d
  have hxb := hx.bl
  simp [htk]
  refine hJ2.exitS (Sl.vle 10 (.pv d.mir.cells) (h' := hpV [(600, .row [.int .i64 (2 * d.n)] s1), (91, .row (ints (tab d.n (Drv.mirC d.n B))) (s6+1))]) ?_ (Sl.frz 91 (cells := ints (tab d.n (Drv.mirC d.n B))) (s := s6 + 1) (by simp) (Sl.refl ?_)))
  · have e : AVal.pv d.mir.cells = .pv [.vl d.n (ints d.mir.limits), .vl d.beside.length (prs d.mir.beside), .vl d.n (prs d.mir.blows)] := by
      have h1 : d.mir.limits.length = d.n := hxn
      have h2 : d.mir.blows.length = d.n := by rw [hxb]; exact hxn
      show AVal.pv [.vl d.mir.limits.length _, .vl d.mir.beside.length _, .vl d.mir.blows.length _] = _
      rw [h1, hmp, h2]
    rw [e]
    simp
    refine VLe.trans (v₂ := .pv ([.sl 86 0 (s3+1) d.n (.ex d.n), gS 2 156 d.beside.length st, .sl 88 0 (s4+1) d.n (.ex d.n)].drop 0)) (VLe.ptr (r := 10) (off := 0) (s := s5 + 1) (cells := [.sl 86 0 (s3+1) d.n (.ex d.n), gS 2 156 d.beside.length st, .sl 88 0 (s4+1) d.n (.ex d.n)]) (by simp)) ?_
    refine VLe.trans (VLe.pv (LLe.cons (VLe.sl (cells := ints d.mir.limits) (by simp)) (LLe.cons (VLe.gS (cells := prs d.mir.beside) (by simp) (by simp; omega)) (LLe.cons (VLe.sl (cells := prs d.mir.blows) (by simp)) (LLe.nil _)))) rfl) ?_
    exact VLe.wk (HLe.view (k := [(600, .row [.int .i64 (2 * d.n)] s1), (91, .row (ints (tab d.n (Drv.mirC d.n B))) (s6+1))]) (by simp))
  simp
  intro s7 s8 s9 s10
  refine xAp_cp (by simp) (by simp) (by simp [hln]; omega) ?_
  simp
  intro s11
  refine xAp_cp (by simp) (by simp) (by omega) ?_
  simp
  intro s12
  refine xAp_cp (by simp) (by simp) (by simp [hbl]; omega) ?_
  simp
  refine Sl.vle 15 (L d.limits) (VLe.cp (cells := ints d.limits) (by simp) (by simp)) (Sl.vle 16 (LP d.beside) (VLe.cp (cells := prs d.beside) (by simp) (by simp; omega)) (Sl.vle 17 (LP d.blows) (VLe.cp (cells := prs d.blows) (by simp) (by simp; omega)) ?_))
  refine Sl.view [(2, .pv d.cells), (5, drawV 600 s1 l), (6, .pv [.int .i64 d.n]), (7, L (tab d.n B)), (8, L o), (9, numV d.n), (10, .pv d.mir.cells), (11, L (tab d.mir.n (Drv.mirC d.n B))), (15, L d.limits), (16, LP d.beside), (17, LP d.blows)]
    [(600, .row [.int .i64 (2 * d.n)] s1)] ?_ ?_ ?_
  · simp [numV, drawV, hxn, L]
  · simp
  simp
  have hmz : Zn d.mir.n (Drv.mirC d.n B) := by rw [hxn]; exact Drv.mirC_zn _ _
  have hmB : ∀ j, j < d.mir.n → 0 ≤ Drv.mirC d.n B j ∧ Drv.mirC d.n B j ≤ 52 := fun j hj => by
    rw [hxn] at hj; rw [Drv.mirC_lt hj]; have := hB (d.n - 1 - j); omega
  obtain ⟨hrl, hro⟩ := Drv.mir_rest hv (c := B) (m := 30) (by omega) fun j _ => hB j
  refine FCall.settleN hd hv hzB (fun j _ => by have := hB j; omega) 700 701 (by omega) (by simp) (by simp) fun sa sb => ?_
  simp
  refine FCall.settle hxs hx hmz hmB ?_
  simp
  refine PCallK.intro (PInv.func (drive_Opens_ok d hd)) ?_
  simp [Drv.opensV, hv]
  refine PCallK.intro (PInv.func (drive_Opens_ok d.mir hxs)) ?_
  simp [Drv.opensV, hx, hxn, hrl]
  refine Lp.intro (σ := Nat) (inv := fun k => k ≤ d.n)
    (vw := fun k => [(2, .pv d.cells), (5, drawV 600 s1 l), (6, .pv [.int .i64 d.n]), (7, L (tab d.n B)), (8, L o), (9, numV d.n), (10, .pv d.mir.cells), (15, L d.limits), (16, LP d.beside), (17, LP d.blows),
      (18, .sl 700 0 sa d.n (.gr 1)), (19, .sl 701 0 sb d.n (.gr 1)), (21, L (tab d.n (Drv.mirC d.n (d.left B)))), (22, L (tab d.n (d.mir.odo (Drv.mirC d.n B)))),
      (24, .int .i64 (bits d.canP d.n)), (25, .int .i64 (bits d.sureP d.n)), (27, .int .i64 (bits d.mir.canP d.n)), (28, .int .i64 (bits d.mir.sureP d.n)), (235, .int .i64 d.n), (236, .int .i64 k)])
    (hp := fun _ => [(600, .row [.int .i64 (2 * d.n)] s1), (700, .row (ints (tab d.n (d.left B))) sa), (701, .row (ints (tab d.n (d.odo B))) sb)]) (ms := fun k => d.n - k) 0 (by omega) (by simp) (by simp) ?_
  intro k hk J3 hJ3
  by_cases hkc : k < d.n
  · have hqn : d.n - 1 - k < d.n := by omega
    have hqx : d.n - 1 - k < d.mir.n := by omega
    have hT := Drv.timesV_at hx hqx
    have hL := Drv.leftV_at hx hqx
    have h1 := Drv.mir_times hv hkc
    have h2 := Drv.mir_left hv hkc
    have h3 := hro k hkc
    have h4 := Drv.mirC_at (c := d.left B) hkc
    have c1 := bits_and1 d.canP (show d.n ≤ 60 by omega) hkc
    have c2 := bits_and1 d.sureP (show d.n ≤ 60 by omega) hkc
    have c3 := bits_and1 d.mir.canP (show d.n ≤ 60 by omega) hqn
    have c4 := bits_and1 d.mir.sureP (show d.n ≤ 60 by omega) hqn
    have e3 : d.mir.canP (d.n - 1 - k) = d.canP k := by unfold Drv.canP; rw [Drv.times_span hv, Drv.times_span hx, h1.2]
    have e4 : d.mir.sureP (d.n - 1 - k) = d.sureP k := by unfold Drv.sureP; rw [Drv.times_span hv, Drv.times_span hx, h1.1]
    rw [e3] at c3
    rw [e4] at c4
    rw [h1.1, h1.2] at hT
    rw [h2] at hL
    simp [hkc]
    refine PCallK.intro (v := d.timesV (k : Nat)) (PInv.func (drive_Times_ok d hd k)) ?_
    rw [Drv.timesV_at hv hkc]
    simp [SP2]
    intro s7
    refine FCall.num (by omega) hkc (by simp) (by simp) ?_
    simp
    refine PCallK.intro (v := d.mir.timesV (d.n - 1 - k : Nat)) (PInv.func (args := [d.mir.v, .int .i64 (d.n - 1 - k : Nat)]) (drive_Times_ok d.mir hxs (d.n - 1 - k : Nat))) ?_
    rw [hT]
    simp [SP2]
    intro s8
    refine PCallK.intro (v := d.leftV (k : Nat)) (PInv.func (drive_Left_ok d hd k)) ?_
    rw [Drv.leftV_at hv hkc]
    simp [SP2]
    intro s9
    refine FCall.num (by omega) hkc (by simp) (by simp) ?_
    simp
    refine PCallK.intro (v := d.mir.leftV (d.n - 1 - k : Nat)) (PInv.func (args := [d.mir.v, .int .i64 (d.n - 1 - k : Nat)]) (drive_Left_ok d.mir hxs (d.n - 1 - k : Nat))) ?_
    rw [hL]
    simp [SP2]
    intro s10
    refine ⟨hkc, ?_⟩
    simp [hkc]
    refine FCall.num (by omega) hkc (by simp) (by simp [hkc]) ?_
    simp [hqn, hkc, h4, h3]
    refine FCall.num (by omega) hkc (by simp) (by simp [hkc]) ?_
    simp [hqn, hkc, h4, h3, c1]
    (repeat first | refine And.intro (by omega) ?_ | refine And.intro (Fits.of (by omega) (by omega)) ?_)
    refine FCall.num (by omega) hkc (by simp) (by simp) ?_
    simp [hqn, hkc, c1, c2, c3, c4]
    (repeat first | refine And.intro (by omega) ?_ | refine And.intro (Fits.of (by omega) (by omega)) ?_)
    refine FCall.num (by omega) hkc (by simp) (by simp) ?_
    simp [hqn, hkc, c1, c2, c3, c4]
    (repeat first | refine And.intro (by omega) ?_ | refine And.intro (Fits.of (by omega) (by omega)) ?_)
    exact hJ3.next (k + 1) (by omega) (by omega) (by simp) (by simp)
  obtain rfl : k = d.n := by omega
  simp
  refine hJ3.exit ?_
  simp
  refine FCall.draw hl (n := d.n) (by omega) (k := 2 * d.n) (by omega) (by simp) (by simp) fun a ha => ⟨by simp, ?_⟩
  simp
  refine FCall.draw hl (n := d.n) (by omega) (k := 2 * d.n + 1) (by omega) (by simp) (by simp) fun b hb => ⟨trivial, ?_⟩
  have ha' : a < d.n := by omega
  have hb' : b < d.n := by omega
  obtain ⟨pk, pe, hpf⟩ : ∃ pk pe, d.pushV a b = .tup [.int .i64 pk, .int .i64 pe] := d.pushV_form a b
  have hpm := Drv.mir_push hv ha' hb'
  simp
  refine PCallK.intro (v := d.pushV a b) (PInv.func (drive_Push_ok d hd a b)) ?_
  rw [hpf]
  simp
  refine FCall.num (by omega) ha' (by simp) (by simp) ?_
  simp
  refine FCall.num (by omega) hb' (by simp) (by simp) ?_
  simp
  refine PCallK.intro (v := d.mir.pushV (d.n - 1 - a : Nat) (d.n - 1 - b : Nat)) (PInv.func (args := [d.mir.v, .int .i64 (d.n - 1 - a : Nat), .int .i64 (d.n - 1 - b : Nat)]) (drive_Push_ok d.mir hxs (d.n - 1 - a : Nat) (d.n - 1 - b : Nat))) ?_
  rw [hpm, hpf]
  simp
  refine ⟨by omega, ?_⟩
  intro s7 s8 s9 s10 s11
  simp [xAp_ne hdn, hdn, show ¬ d.n ≤ 0 by omega]
  refine ⟨by omega, fun _ => ?_⟩
  intro s12
  refine ⟨by omega, fun s13 => ?_⟩
  have hTl : (tab d.n B).tail.length = d.n - 1 := by simp
  have htt : (tab d.n B).tail.take (d.n - 1) = (tab d.n B).tail := List.take_of_length_le (by omega)
  rw [htt]
  refine xAp_cpW (cs := [.int .i64 (-1)]) (by simp) (by simp) (by simp) (by omega) ?_
  simp
  intro s14
  rw [htt]
  refine xAp_cpW (cs := [.int .i64 53]) (by simp) (by simp) (by simp) (by omega) ?_
  simp
  intro s15
  obtain ⟨bads, hbads⟩ : ∃ bads, bads = [(tab d.n B).tail, tab d.n B ++ [0], -1 :: (tab d.n B).tail, 53 :: (tab d.n B).tail] := ⟨_, rfl⟩
  have hb4 : bads.length = 4 := by rw [hbads]; rfl
  have hol : o.length = d.n := by rw [ho.length_eq]; simp
  have hon : ¬ o.length = 0 := by omega
  refine Lp.intro' (σ := Nat) (inv := fun k => k ≤ 4)
    (vw := fun k => [(2, .pv d.cells), (6, .pv [.int .i64 d.n]), (7, L (tab d.n B)), (8, L o), (15, L d.limits), (16, LP d.beside), (17, LP d.blows),
      (18, .sl 700 0 sa d.n (.gr 1)), (19, .sl 701 0 sb d.n (.gr 1)), (385, .vl 4 (LL bads)), (386, .int .i64 4), (387, .int .i64 k)])
    (hp := fun _ => [(700, .row (ints (tab d.n (d.left B))) sa), (701, .row (ints (tab d.n (d.odo B))) sb)]) (ms := fun k => 4 - k) 0 (by omega) ?_ ?_
  · refine Sl.vle 385 (.vl 4 (LL bads)) (h' := hpV [(700, .row (ints (tab d.n (d.left B))) sa), (701, .row (ints (tab d.n (d.odo B))) sb)]) ?_ (Sl.refl ⟨rfl, by simp, by simp⟩)
    have e : LL bads = [.vl (d.n - 1) (ints (tab d.n B).tail), .vl (d.n + 1) (ints (tab d.n B ++ [0])), .vl (1 + (d.n - 1)) ([.int .i64 (-1)] ++ ints (tab d.n B).tail), .vl (1 + (d.n - 1)) ([.int .i64 53] ++ ints (tab d.n B).tail)] := by
      rw [hbads]; simp [LL, L, Nat.add_comm 1]
    rw [e]
    simp only [upd_same, upd_ne _ _ (show ¬ (385 : Nat) = 386 by omega)]
    refine VLe.trans (VLe.sl (r := 385) (cells := [.vl (d.n - 1) (ints (tab d.n B).tail), .sl 376 0 (s12 + 1) (d.n + 1) (.gr 1), cpW 1 377 (s9 + 1) 380 (s13 + 1) 1 (d.n - 1), cpW 1 381 (s10 + 1) 384 (s14 + 1) 1 (d.n - 1)]) (by simp)) ?_
    refine VLe.trans (VLe.vl (by omega) (LLe.cons (VLe.refl _ _) (LLe.cons (VLe.sl (cells := ints (tab d.n B ++ [0])) (by simp))
      (LLe.cons (VLe.cpW (cs := [.int .i64 (-1)]) (ys := ints (tab d.n B).tail) (by simp) (by simp) (by simp)) (LLe.cons (VLe.cpW (cs := [.int .i64 53]) (ys := ints (tab d.n B).tail) (by simp) (by simp) (by simp)) (LLe.nil _))))) rfl) ?_
    exact VLe.wk (HLe.view (k := [(700, .row (ints (tab d.n (d.left B))) sa), (701, .row (ints (tab d.n (d.odo B))) sb)]) (by simp))
  intro k hk J4 hJ4
  by_cases hkc : k < 4
  · obtain ⟨bd, hbd, hbl6, hbb⟩ : ∃ bd, bads[k]? = some bd ∧ bd.length ≤ 1000 ∧ ¬ d.Blows bd := by
      rw [hbads]
      match k, hkc with
      | 0, _ => exact ⟨_, rfl, by omega, fun h => by have := h.1; omega⟩
      | 1, _ => exact ⟨_, rfl, by simp; omega, fun h => by have := h.1; simp at this⟩
      | 2, _ => exact ⟨_, rfl, by simp; omega, fun h => by have := h.2 (-1) (by simp); omega⟩
      | 3, _ => exact ⟨_, rfl, by simp; omega, fun h => by have := h.2 53 (by simp); omega⟩
    have hsv : d.settleV bd = .tup [L [], L [], .int .i64 2] := by simp only [Drv.settleV]; rw [if_pos hv, if_neg hbb]
    have hrv : d.runV bd o = .tup [L [], .int .i64 2] := by simp only [Drv.runV]; rw [if_pos hv, if_neg (fun h => hbb h.1)]
    simp [hkc, hbd, show (k : Int) < 4 by omega]
    refine FCall.pure (v := d.settleV bd) (PInv.func (drive_Settle_ok d hd bd hbl6)) ?_
    rw [hsv]
    simp
    refine FCall.pure (v := d.runV bd o) (PInv.func (drive_Run_ok d hd bd o hbl6 (by omega))) ?_
    rw [hrv]
    simp
    (repeat first | refine And.intro (by omega) ?_ | refine And.intro (Fits.of (by omega) (by omega)) ?_)
    exact hJ4.next (k + 1) (by omega) (by omega) (by simp) (by simp)
  obtain rfl : k = 4 := by omega
  simp
  refine hJ4.exit ?_
  simp
  intro s16 s17 s18
  simp [xAp_ne hon, hon, show ¬ o.length ≤ 0 by omega]
  refine ⟨by omega, fun _ => ?_⟩
  intro s19
  refine ⟨by omega, ?_⟩
  have hBl : d.Blows (tab d.n B) := ⟨by simp, fun x hx => by have := hb2 x hx; omega⟩
  have hr1 : d.runV (tab d.n B) (o ++ [0]) = .tup [L [], .int .i64 2] := by
    simp only [Drv.runV]; rw [if_pos hv, if_neg (fun h => by have := h.2.1; simp at this; omega)]
  have hr2 : d.runV (tab d.n B) ((d.n : Int) :: o.tail) = .tup [L [], .int .i64 2] := by
    simp only [Drv.runV]
    rw [if_pos hv, if_neg (fun h => order_turned ho hn1 h.2)]
  have hpv : d.pushV (d.n : Nat) 0 = .tup [.int .i64 0, .int .i64 2] := by
    simp only [Drv.pushV]
    rw [if_pos hv, if_neg (fun h => by have := h.1; unfold Drv.Seam at this; omega)]
  refine FCall.frz1 419 (cells := ints (o ++ [0])) (s := s19 + 1) (v := d.runV (tab d.n B) (o ++ [0])) (by simp) ?_ trivial ⟨trivial, ?_⟩
  · have := PInv.func (first := []) (cap := []) (args := [d.v, L (tab d.n B), L (o ++ [0])]) (drive_Run_ok d hd (tab d.n B) (o ++ [0]) (by simp; omega) (by simp; omega))
    simpa [L] using this
  rw [hr1]
  simp
  refine ⟨by omega, fun s20 s21 => ?_⟩
  have hot : o.tail.take (o.length - 1) = o.tail := List.take_of_length_le (by simp)
  rw [hot]
  refine xAp_cpW (cs := [.int .i64 d.n]) (by simp) (by simp) (by simp) (by omega) ?_
  simp
  refine FCall.cpW3 (cs := [.int .i64 d.n]) (ys := ints o.tail) (v := d.runV (tab d.n B) ((d.n : Int) :: o.tail)) (by omega) (by simp) (by simp) (by simp) ?_ trivial ⟨trivial, ?_⟩
  · have := PInv.func (first := []) (cap := []) (args := [d.v, L (tab d.n B), L ((d.n : Int) :: o.tail)]) (drive_Run_ok d hd (tab d.n B) ((d.n : Int) :: o.tail) (by simp; omega) (by simp; omega))
    simpa [L, Nat.add_comm 1] using this
  rw [hr2]
  simp
  refine Sl.view [(2, .pv d.cells), (6, .pv [.int .i64 d.n]), (7, L (tab d.n B)), (15, L d.limits), (16, LP d.beside), (17, LP d.blows), (18, .sl 700 0 sa d.n (.gr 1)), (19, .sl 701 0 sb d.n (.gr 1)), (53, .int .i64 2), (55, .int .i64 2)]
    [(700, .row (ints (tab d.n (d.left B))) sa), (701, .row (ints (tab d.n (d.odo B))) sb)] (by simp) (by simp) ?_
  simp
  refine PCallK.intro (v := d.pushV (d.n : Nat) 0) (PInv.func (drive_Push_ok d hd (d.n : Nat) 0)) ?_
  rw [hpv]
  simp
  intro s22
  simp [xAp_ne hdn, hdn, show ¬ d.n ≤ 0 by omega]
  intro s23
  refine ⟨by omega, fun _ => ?_⟩
  refine Lp.intro' (σ := Nat × List Int × List Int) (inv := fun x => x.1 ≤ d.n ∧ x.2.1.length = d.n ∧ x.2.2.length = d.n)
    (vw := fun x => [(2, .pv d.cells), (7, L (tab d.n B)), (15, L d.limits), (16, LP d.beside), (17, LP d.blows), (18, .sl 700 0 sa d.n (.gr 1)), (19, .sl 701 0 sb d.n (.gr 1)), (58, L (tab d.n (d.left B))), (454, .int .i64 d.n), (455, .int .i64 x.1)])
    (hp := fun x => [(700, .row (ints x.2.1) sa), (701, .row (ints x.2.2) sb)]) (ms := fun x => d.n - x.1) (0, tab d.n (d.left B), tab d.n (d.odo B)) (by simp)
    (Sl.frz 452 (cells := ints (tab d.n (d.left B))) (s := s23 + 1) (by simp) (Sl.refl ⟨rfl, by simp [L], by simp⟩)) ?_
  rintro ⟨k, x, y⟩ ⟨hk, hxl, hyl⟩ J5 hJ5
  simp at hk hxl hyl
  by_cases hkc : k < d.n
  · simp [hkc, hxl, hyl]
    (repeat first | refine And.intro (by omega) ?_ | refine And.intro (Fits.of (by omega) (by omega)) ?_)
    exact hJ5.next (k + 1, x.set k (-9), y.set k (-9)) (by simp [hxl, hyl]; omega) (by simp; omega) (by simp) (by simp)
  obtain rfl : k = d.n := by omega
  simp
  refine hJ5.exit ?_
  simp
  refine FCall.settle hd hv hzB (fun j _ => by have := hB j; omega) ?_
  simp
  refine FCall.intsB (by omega) ?_
  simp
  refine FCall.pure (PInv.func (law05_ints_ok d.limits d.limits (by omega) (by omega))) ?_
  simp
  refine Lp.intro (σ := Nat) (inv := fun k => k ≤ d.beside.length)
    (vw := fun k => [(2, .pv d.cells), (16, LP d.beside), (17, LP d.blows), (488, .int .i64 d.beside.length), (489, .int .i64 k)])
    (hp := fun _ => []) (ms := fun k => d.beside.length - k) 0 (by omega) (by simp) (by simp) ?_
  intro k hk J6 hJ6
  by_cases hkc : k < d.beside.length
  · simp [hkc]
    (repeat first | refine And.intro (by omega) ?_ | refine And.intro (Fits.of (by omega) (by omega)) ?_)
    exact hJ6.next (k + 1) (by omega) (by omega) (by simp) (by simp)
  obtain rfl : k = d.beside.length := by omega
  simp
  refine hJ6.exit ?_
  simp
  refine Lp.intro (σ := Nat) (inv := fun k => k ≤ d.n)
    (vw := fun k => [(2, .pv d.cells), (17, LP d.blows), (504, .int .i64 d.n), (505, .int .i64 k)])
    (hp := fun _ => []) (ms := fun k => d.n - k) 0 (by omega) (by simp [hbl]) (by simp) ?_
  intro k hk J7 hJ7
  by_cases hkc : k < d.n
  · have hcb : k < d.blows.length := by omega
    simp [hkc, hcb, hbl]
    (repeat first | refine And.intro (by omega) ?_ | refine And.intro (Fits.of (by omega) (by omega)) ?_)
    exact hJ7.next (k + 1) (by omega) (by omega) (by simp) (by simp)
  obtain rfl : k = d.n := by omega
  simp
  refine hJ7.exit ?_
  simp
  refine PCallK.intro (PInv.func law05_alive_ok) ?_
  simp
  exact RetV.refl rfl
end Go.Cw
end
