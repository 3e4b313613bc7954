/-
  What the functions of layer 5 compute; the laws Tells and Pushes; how their arguments are read.
-/
import Derived.Test.YtfdkhgegijiceaaDa
import Derived.Test.YtfdkhgegijiceaaGa
import Derived.Test.YtfdkhgegijiceaaGb
import Derived.Test.YtfdkhgegijiceaaAe
import Derived.Test.YtfdkhgegijiceaaRows
set_option linter.unusedVariables false
set_option linter.unusedSimpArgs false
set_option linter.unusedSectionVars false

/- What the program's Left tells. -/
section
set_option maxRecDepth 100000
set_option linter.unusedSimpArgs false
namespace Go.Cw
open Go Go.Proofs

theorem renO_memo (d : Drv) (r nm s : Nat) (M : List (List Int)) : renO r nm (.map (d.memo M) s) = .map (d.memo M) s := renO_ents fun l => by simp [Drv.restV]
theorem ren_H (d : Drv) (r nm : Nat) : ren r nm d.H = d.H := (rfl)

def dup (o : List Int) : List (Int × Int) := o.map fun x => (x, x)
@[simp] theorem dup_length (o : List Int) : (dup o).length = o.length := by simp [dup]
theorem dup_snoc (o : List Int) (x : Int) : dup o ++ [(x, x)] = dup (o ++ [x]) := by simp [dup]

theorem drive_Left_3_ok (a b : Int × Int) : APure Pg fn_drive_Left_3 [SP2 a, SP2 b] (SP2 (min a.1 b.1, max a.2 b.2)) := by
  refine drive_Left_3.pure (by simp) ?_
  simp [SP2]
  exact fun s s1 s2 => RetV.refl (by simp [SP2])

/-- What spans are together. -/
def joinS : List (Int × Int) → Int × Int
  | [] => (0, 0)
  | x :: xs => (xs.foldl (fun a p => min a p.1) x.1, xs.foldl (fun a p => max a p.2) x.2)

theorem drive_joined_ok (l : List (Int × Int)) (hl : l ≠ []) (hb : l.length ≤ 100000) :
    APure Pg fn_drive_joined_api_Span [LP l, .agg [.func (.func fn_drive_Left_3) [] []]] (SP2 (joinS l)) := by
  obtain ⟨x, xs, rfl⟩ := List.exists_cons_of_ne_nil hl
  refine drive_joined_api_Span.pure (by simp) ?_
  simp
  intro s s1 s2
  refine ⟨by omega, ?_⟩
  simp at hb
  refine Lp.intro (σ := Nat) (inv := fun k => k ≤ xs.length)
    (vw := fun k => [(3, .ptr 3 0 (s+1)), (4, .ptr 4 0 (s1+1)), (5, .ptr 5 0 (s2+1)), (12, .vl xs.length (prs xs)), (13, .int .i64 xs.length), (14, .int .i64 k)])
    (hp := fun k => [(3, .row [.func (.func fn_drive_Left_3) [] []] (s+1)), (4, .row [.int .i64 0, .int .i64 0] (s1+1)), (5, .row [.int .i64 ((xs.take k).foldl (fun a p => min a p.1) x.1), .int .i64 ((xs.take k).foldl (fun a p => max a p.2) x.2)] (s2+1))]) (ms := fun k => xs.length - k) 0 (by simp) (by simp) (by simp) ?_
  intro k hk J hJ
  by_cases hkc : k < xs.length
  · have e1 : (xs.take (k + 1)).foldl (fun a p => min a p.1) x.1 = min ((xs.take k).foldl (fun a p => min a p.1) x.1) xs[k].1 := by
      rw [← List.take_append_getElem hkc, List.foldl_append]; rfl
    have e2 : (xs.take (k + 1)).foldl (fun a p => max a p.2) x.2 = max ((xs.take k).foldl (fun a p => max a p.2) x.2) xs[k].2 := by
      rw [← List.take_append_getElem hkc, List.foldl_append]; rfl
    obtain ⟨mn, hmn⟩ : ∃ mn, (xs.take k).foldl (fun a p => min a p.1) x.1 = mn := ⟨_, rfl⟩
    obtain ⟨mx, hmx⟩ : ∃ mx, (xs.take k).foldl (fun a p => max a p.2) x.2 = mx := ⟨_, rfl⟩
    rw [hmn] at e1
    rw [hmx] at e2
    rw [hmn, hmx]
    simp [hkc, prs_drop]
    refine ⟨by omega, fun s3 => FCall.pure (PInv.func (drive_Left_3_ok (mn, mx) xs[k])) ?_⟩
    simp [SP2]
    (repeat first | refine And.intro (by omega) ?_ | refine And.intro (Fits.of (by omega) (by omega)) ?_)
    exact hJ.next (k + 1) (by omega) (by omega) (by simp) (by simp only [e1, e2]; simp)
  · obtain rfl : k = xs.length := by omega
    simp
    refine hJ.exit ?_
    simp
    exact RetV.refl (by simp [SP2, joinS])

noncomputable def leftRows (d : Drv) (seam : Nat) (s6 s7 s3 s8 s9 sm : Nat) (o : List Int) (s : Nat) (M : List (List Int)) : List (Nat × AObj) :=
  [(6, .row [d.H] s6), (7, .row [.func (.func fn_drive_settler_rest) [.agg [d.H, .map 200 sm]] []] s7), (3, .row [.int .i64 seam] s3), (8, .row [gS 2 300 o.length s] s8),
    (9, .row [.func (.func fn_drive_Left_2) [] [.ptr 6 0 s6, .ptr 7 0 s7, .ptr 3 0 s3, .ptr 8 0 s8, .ptr 9 0 s9]] s9), (300, gO o.length (prs (dup o)) s), (200, .map (d.memo M) sm)]

theorem drive_Left_2_ok (d : Drv) (hd : d.Small) (hv : d.Valid) (seam : Nat) (hs : seam < d.n) (s6 s7 s3 s8 s9 sm : Nat) : ∀ (j : Nat) (b : List Int) (o : List Int) (s : Nat) (M : List (List Int)), (∀ l ∈ M, l.length = 6) → b.length + j = d.n →
    (∀ i, i < b.length → 0 ≤ ofL b i ∧ ofL b i ≤ 12) → o.length + (truthsS (d.blows.drop b.length) b).length ≤ 100000 →
    ∀ K : AEnd → Heap → Prop, (∀ s' M', (∀ l ∈ M', l.length = 6) → K (.ret (.tup [])) (hpV (leftRows d seam s6 s7 s3 s8 s9 sm (o ++ (truthsS (d.blows.drop b.length) b).map fun l => d.left (ofL l) seam) s' M'))) →
      ACalls Pg fn_drive_Left_2 [B6 (ofL b), .int .i64 b.length, .ptr 6 0 s6, .ptr 7 0 s7, .ptr 3 0 s3, .ptr 8 0 s8, .ptr 9 0 s9] (hpV (leftRows d seam s6 s7 s3 s8 s9 sm o s M)) K := by
  intro j
  have hn6 := hv.n6
  have hs6 : seam < 6 := by omega
  induction j with
  | zero =>
    intro b o s M hM hb hbb hlen K hK
    have hbl : b.length = d.n := hb
    have hdr : d.blows.drop b.length = [] := by rw [List.drop_eq_nil_iff, hv.bl]; omega
    rw [hdr, show truthsS [] b = [b] from rfl] at hK hlen
    refine drive_Left_2.enter 1000 (by simp) ?_
    simp [leftRows, B6]
    intro s1
    refine PCallK.intro (PInv.func (drive_hull_seams_ok d)) ?_
    simp [hbl]
    have hc : ∀ i, i < d.n → 0 ≤ ofL b i ∧ ofL b i ≤ 12 := fun i hi => hbb i (by omega)
    refine FCall.cps [(200, .map (d.memo M) sm)] (fun _ : {M' : List (List Int) // ∀ l ∈ M', l.length = 6} => d.restV (ofL b)) (fun M' => [(200, .map (d.memo M'.1) sm)]) (fun _ => True) (fun K' hK' => AInvoke.func ?_) (by simp) (fun _ => rfl) trivial (fun M' _ => ?_)
    · refine drive_settler_rest_ok d hd hv (ofL b) (fun j hj => ofL_none b (by omega)) (B := 72) (by omega) (Drv.In.of_le hv (m := 12) hc (by omega)) (fun j hj => ?_) 200 sm M hM K' fun M' hM' => hK' ⟨M', hM'⟩ trivial
      by_cases hj : j < d.n
      · have := hc j hj; omega
      · rw [ofL_none b (by omega)]; omega
    obtain ⟨M', hM'⟩ := M'
    simp [Drv.restV, Drv.restL, two_take, hs6, show (seam : Int) < 6 by omega]
    intro s2 s10
    refine xApN_gS (cells := prs (dup o)) (by simp) (by simp; omega) (by omega) (by omega) ?_
    simp
    refine RetV.moveH 1026 300 (RetV.view (leftRows d seam s6 s7 s3 s8 s9 sm (o ++ [d.left (ofL b) seam]) (s10 + 1) M') (by simp [leftRows, dup, renO_memo, ren_H, prs_append_one]) ?_)
    simpa using hK (s10 + 1) M' hM'
  | succ j ih =>
    intro b o s M hM hb hbb hlen K hK
    refine drive_Left_2.enter 1000 (by simp) ?_
    have hbb' : b.length < d.blows.length := by rw [hv.bl]; omega
    obtain ⟨sp, hsp⟩ : ∃ sp, d.blows[b.length] = sp := ⟨_, rfl⟩
    have hnar := hv.narrow sp (by rw [← hsp]; simp)
    have hT : truthsS (d.blows.drop b.length) b = (List.range (sp.2 - sp.1 + 1).toNat).flatMap fun (k : Nat) => truthsS (d.blows.drop (b.length + 1)) (b ++ [sp.1 + (k : Int)]) := by
      rw [List.drop_eq_getElem_cons hbb', hsp]; rfl
    rw [hT] at hK hlen
    obtain ⟨OUT, hOUT⟩ : ∃ OUT : Nat → List Int, OUT = fun k => o ++ ((List.range k).flatMap fun (k : Nat) => truthsS (d.blows.drop (b.length + 1)) (b ++ [sp.1 + (k : Int)])).map fun l => d.left (ofL l) seam := ⟨_, rfl⟩
    have hO0 : OUT 0 = o := by rw [hOUT]; simp
    have hOs : ∀ k, OUT (k + 1) = OUT k ++ (truthsS (d.blows.drop (b.length + 1)) (b ++ [sp.1 + (k : Int)])).map fun l => d.left (ofL l) seam := by
      intro k; rw [hOUT]; simp only [List.range_succ, List.flatMap_append, List.map_append, List.append_assoc]; simp
    have hOm : ∀ k m, (OUT k).length ≤ (OUT (k + m)).length := by
      intro k m
      induction m with
      | zero => exact Nat.le_refl _
      | succ m ih => rw [← Nat.add_assoc, hOs, List.length_append]; omega
    have hOn : o ++ ((List.range (sp.2 - sp.1 + 1).toNat).flatMap fun (k : Nat) => truthsS (d.blows.drop (b.length + 1)) (b ++ [sp.1 + (k : Int)])).map (fun l => d.left (ofL l) seam) = OUT (sp.2 - sp.1 + 1).toNat := by rw [hOUT]
    have hOl : (OUT (sp.2 - sp.1 + 1).toNat).length ≤ 100000 := by rw [← hOn, List.length_append, List.length_map]; exact hlen
    rw [hOn] at hK
    clear hOUT hOn
    simp [leftRows, B6]
    intro s1
    refine PCallK.intro (PInv.func (drive_hull_seams_ok d)) ?_
    simp [show ¬ b.length = d.n by omega, hbb', hsp, Drv.H]
    refine Lp.intro (σ := Nat × Nat × {M : List (List Int) // ∀ l ∈ M, l.length = 6}) (inv := fun x => x.1 ≤ (sp.2 - sp.1 + 1).toNat)
      (vw := fun x => [(1, .int .i64 b.length), (2, .ptr 6 0 s6), (3, .ptr 7 0 s7), (4, .ptr 3 0 s3), (5, .ptr 8 0 s8), (6, .ptr 9 0 s9), (7, .ptr 1007 0 (s1+1)), (10, .int .i64 (sp.1 + x.1))])
      (hp := fun x => (1007, .row (ints (tab 6 (ofL b))) (s1+1)) :: leftRows d seam s6 s7 s3 s8 s9 sm (OUT x.1) x.2.1 x.2.2.1)
      (ms := fun x => (sp.2 - sp.1 + 1).toNat - x.1) (0, s, ⟨M, hM⟩) (by simp) (by simp) (by simp [leftRows, hO0, Drv.H]) ?_
    rintro ⟨k, st, M', hM'⟩ hk J hJ
    simp at hk
    by_cases hkc : k < (sp.2 - sp.1 + 1).toNat
    · have hle : sp.1 + (k : Int) ≤ sp.2 := by omega
      have hb6 : b.length < 6 := by omega
      have hone : (OUT (k + 1)).length ≤ 100000 := by
        obtain ⟨m, hm⟩ := Nat.exists_eq_add_of_le hkc
        have := hOm (k + 1) m
        rw [← hm] at this
        omega
      have hz : ofL b b.length = 0 := ofL_none b (Nat.le_refl _)
      have hpl : plus (ofL b) b.length (sp.1 + k) = ofL (b ++ [sp.1 + (k : Int)]) := by
        rw [ofL_snoc]; unfold plus upd; rw [hz, Int.zero_add]
      simp [leftRows, hbb', hsp, Drv.H, hle]
      refine ⟨Fits.of (by omega) (by omega), PCallK.intro (PInv.func (drive_blows_with_ok (ofL b) b.length hb6 (sp.1 + k) (by rw [hz]; exact Fits.of (by omega) (by omega)))) ?_⟩
      rw [hpl]
      simp
      refine FCall.cps (leftRows d seam s6 s7 s3 s8 s9 sm (OUT k) st M') (fun _ : Nat × {M : List (List Int) // ∀ l ∈ M, l.length = 6} => .tup []) (fun x => leftRows d seam s6 s7 s3 s8 s9 sm (OUT (k + 1)) x.1 x.2.1) (fun _ => True) (fun K' hK' => AInvoke.func ?_) (by simp [leftRows, Drv.H]) (fun _ => rfl) trivial (fun x _ => ⟨trivial, ?_⟩)
      · have := ih (b ++ [sp.1 + (k : Int)]) (OUT k) st M' hM' (by simp; omega) (fun i hi => ?_) ?_ K' ?_
        · simpa using this
        · rw [ofL_snoc]
          simp only [List.length_append, List.length_singleton] at hi
          simp only []
          split
          · omega
          · exact hbb i (by omega)
        · rw [show (b ++ [sp.1 + (k : Int)]).length = b.length + 1 by simp]
          have := hOs k
          have h2 : (OUT (k + 1)).length = (OUT k).length + (truthsS (d.blows.drop (b.length + 1)) (b ++ [sp.1 + (k : Int)])).length := by rw [this]; simp
          omega
        · intro s' M'' hM''
          have := hK' (s', ⟨M'', hM''⟩) trivial
          rw [show (b ++ [sp.1 + (k : Int)]).length = b.length + 1 by simp, ← hOs]
          exact this
      obtain ⟨st2, M2, hM2⟩ := x
      simp [leftRows]
      (repeat first | refine And.intro (by omega) ?_ | refine And.intro (Fits.of (by omega) (by omega)) ?_)
      exact hJ.next (k + 1, st2, ⟨M2, hM2⟩) (by simp; omega) (by simp; omega) (by simp; omega) (by simp [leftRows, Drv.H])
    · have hle : ¬ sp.1 + (k : Int) ≤ sp.2 := by omega
      simp [leftRows, hbb', hsp, Drv.H, hle]
      refine hJ.exit ?_
      simp
      obtain rfl : k = (sp.2 - sp.1 + 1).toNat := by omega
      refine RetV.view (leftRows d seam s6 s7 s3 s8 s9 sm (OUT (sp.2 - sp.1 + 1).toNat) st M') (by simp [leftRows, Drv.H]) ?_
      exact hK st M' hM'


@[simp] theorem acells_H (d : Drv) : acells d.H = some [d.H] := (rfl)

theorem joinS_dup (o : List Int) (h : o ≠ []) : joinS (dup o) = spanOf o := by
  obtain ⟨x, xs, rfl⟩ := List.exists_cons_of_ne_nil h
  simp [joinS, dup, spanOf, List.foldl_map]

theorem drive_Left_ok (d : Drv) (hd : d.Small) (k : Int) : APure Pg fn_drive_Left [d.v, .int .i64 k] (d.leftV k) := by
  refine drive_Left.pure (by simp) ?_
  simp
  intro s s1 s2 s3
  refine PCallK.intro (PInv.func (drive_isSeam_ok d hd k)) ?_
  simp
  by_cases h1 : d.Valid
  · by_cases h2 : d.Seam k
    · obtain ⟨i, rfl⟩ := Int.eq_ofNat_of_zero_le h2.1
      have hi : i < d.n := by have := h2.2; omega
      have hi6 : i < 6 := by have := h1.n6; omega
      have hl := h1.truths_len
      simp [h2]
      refine FCall.pure' (PInv.func (drive_open_ok d hd h1)) (by simp) trivial ?_
      simp
      intro s4
      refine FCall.cps [(200, .dead)] (fun s' : Nat => .agg [d.H, .map 200 s']) (fun s' => [(200, .map [] s')]) (fun _ => True) (fun K' hK' => AInvoke.func ?_) (by simp) (fun _ => rfl) trivial (fun sm _ => ⟨trivial, ?_⟩)
      · exact drive_hull_settler_ok d 200 K' fun s' => hK' s' trivial
      simp
      intro s5 s6 s7
      have hne := h1.truths_ne
      have hpos : 0 < d.truths.length := List.length_pos_iff.2 hne
      have hll : (d.leftL i).length = d.truths.length := by simp [Drv.leftL]
      refine FCall.cps [(6, .row [d.H] (s4+1)), (7, .row [.func (.func fn_drive_settler_rest) [.agg [d.H, .map 200 sm]] []] (s5+1)), (3, .row [.int .i64 i] (s1+1)), (8, .row [.nils] (s6+1)),
        (9, .row [.func (.func fn_drive_Left_2) [] [.ptr 6 0 (s4+1), .ptr 7 0 (s5+1), .ptr 3 0 (s1+1), .ptr 8 0 (s6+1), .ptr 9 0 (s7+1)]] (s7+1)), (300, .dead), (200, .map [] sm)]
        (fun _ : Nat × {M : List (List Int) // ∀ l ∈ M, l.length = 6} => .tup []) (fun x => leftRows d i (s4+1) (s5+1) (s1+1) (s6+1) (s7+1) sm (d.leftL i) x.1 x.2.1) (fun _ => True) (fun K' hK' => ?_) (by simp) (fun _ => rfl) trivial (fun x _ => ⟨trivial, ?_⟩)
      · refine AInvoke.rowLe (cells := [.nils]) (s := s6 + 1) 8 [.es] (by simp) ⟨ALe.nils_es, trivial⟩ (AInvoke.func ?_)
        have := drive_Left_2_ok d hd h1 i hi (s4+1) (s5+1) (s1+1) (s6+1) (s7+1) sm d.n [] [] 0 [] (by simp) (by simp) (by simp) (by simpa [Drv.truths] using Nat.le_trans hl (by omega)) K' ?_
        · have e : hpV (leftRows d i (s4+1) (s5+1) (s1+1) (s6+1) (s7+1) sm [] 0 []) = upd (hpV [(6, .row [d.H] (s4+1)), (7, .row [.func (.func fn_drive_settler_rest) [.agg [d.H, .map 200 sm]] []] (s5+1)), (3, .row [.int .i64 i] (s1+1)), (8, .row [.nils] (s6+1)),
            (9, .row [.func (.func fn_drive_Left_2) [] [.ptr 6 0 (s4+1), .ptr 7 0 (s5+1), .ptr 3 0 (s1+1), .ptr 8 0 (s6+1), .ptr 9 0 (s7+1)]] (s7+1)), (300, .dead), (200, .map [] sm)]) 8 (.row [.es] (s6+1)) := by
            funext x
            simp only [leftRows, hpV_cons, upd_app]
            by_cases h8 : x = 8
            · subst h8; simp
            · simp [h8, Drv.memo, entsI]
          rw [e] at this
          exact this
        · intro s' M' hM'
          have := hK' (s', ⟨M', hM'⟩) trivial
          simpa [Drv.truths, Drv.leftL] using this
      obtain ⟨st, M', hM'⟩ := x
      simp [leftRows, hll, gS_pos hpos, gO_pos hpos]
      refine FCall.frz1 300 rfl (v := SP2 (spanOf (d.leftL i))) ?_ trivial ⟨trivial, ?_⟩
      · have hne' : d.leftL i ≠ [] := by intro h; simp [Drv.leftL] at h; exact hne h
        have := drive_joined_ok (dup (d.leftL i)) (by intro h; simp [dup] at h; exact hne' h) (by simp [hll]; omega)
        rw [joinS_dup _ hne'] at this
        rw [LP, dup_length, hll] at this
        simpa using PInv.func (first := []) (cap := []) this
      · simp [SP2]
        refine RetD.ret rfl drive_Left_1.recClo ((drive_said_nil _ _).mono ?_)
        rintro e h' ⟨rfl, rfl⟩
        simp
        exact RetV.refl (by simp [Drv.leftV, h1, h2, SP2])
    · simp [h2]
      refine FCall.pan' (PInvPan.func (drive_open_range d hd h1)) (by simp) ?_
      simp
      refine RetD.panic rfl drive_Left_1.recClo ?_
      refine ACalls.cps [(5, .row [.int .i64 0] (s3 + 1))] (fun _ : Unit => .tup []) (fun _ => [(5, .row [.int .i64 2] (s3 + 1))]) (fun _ => True) (fun K' hK' => drive_said_ref _ _ _ _ K' (hK' () trivial)) (by simp) (fun _ => rfl) fun _ _ => ?_
      simp
      exact RetV.refl (by simp [Drv.leftV, h1, h2, SP2])
  · refine FCall.pan' (PInvPan.func (drive_open_arg d hd h1 _)) (by simp) ?_
    simp
    refine RetD.panic rfl drive_Left_1.recClo ?_
    refine ACalls.cps [(5, .row [.int .i64 0] (s3 + 1))] (fun _ : Unit => .tup []) (fun _ => [(5, .row [.int .i64 1] (s3 + 1))]) (fun _ => True) (fun K' hK' => drive_said_ref _ _ _ _ K' (hK' () trivial)) (by simp) (fun _ => rfl) fun _ _ => ?_
    simp
    exact RetV.refl (by simp [Drv.leftV, h1, SP2])

end Go.Cw
end

/- What is sorted; when a list is an order: the program tells it. -/
section
set_option maxRecDepth 100000
set_option linter.unusedSimpArgs false
namespace Go.Cw
open Go Go.Proofs

theorem cmp_isNaN_int_ok (n : Int) : APure Pg fn_cmp_isNaN_int [.int .i64 n] (.bool false) := by
  refine cmp_isNaN_int.pure (by simp) ?_
  simp
  exact RetV.refl rfl

theorem cmp_Less_int_ok (a b : Int) : APure Pg fn_cmp_Less_int [.int .i64 a, .int .i64 b] (.bool (decide (a < b))) := by
  refine cmp_Less_int.pure (by simp) ?_
  simp
  refine PCallK.intro (PInv.func (cmp_isNaN_int_ok _)) ?_
  simp
  exact RetV.refl (by simp)

instance (l : List Int) : Decidable (SortedI l) := inferInstanceAs (Decidable (List.Pairwise _ _))

theorem SortedI.of_next {l : List Int} (h : ∀ j (hj : j + 1 < l.length), l[j] ≤ l[j + 1]) : SortedI l := by
  unfold SortedI
  rw [List.pairwise_iff_getElem]
  intro i j hi hj hij
  induction j with
  | zero => omega
  | succ j ih =>
    have h1 := h j hj
    by_cases hx : i = j
    · subst hx; exact h1
    · exact Int.le_trans (ih (by omega) (by omega)) h1

theorem slices_IsSorted_ok (l : List Int) (hl : l.length ≤ 100000) : APure Pg fn_slices_IsSorted_int_int [L l] (.bool (decide (SortedI l))) := by
  refine slices_IsSorted_int_int.pure (by simp) ?_
  simp
  (repeat first | refine And.intro (by omega) ?_ | refine And.intro (Fits.of (by omega) (by omega)) ?_)
  refine Lp.intro (σ := Int) (inv := fun k => -1 ≤ k ∧ k < l.length ∧ ∀ j (hj : j + 1 < l.length), k ≤ (j : Int) → l[j] ≤ l[j + 1]) (vw := fun k => [(0, L l), (3, .int .i64 k)]) (hp := fun _ => []) (ms := fun k => (k + 1).toNat) ((l.length : Int) - 1)
    ⟨by omega, by omega, fun j hj hk => by omega⟩ (by simp) (by simp) ?_
  rintro k ⟨hk0, hk, inv⟩ J hJ
  by_cases hkc : 0 < k
  · obtain ⟨m, rfl⟩ : ∃ m : Nat, k = ((m + 1 : Nat) : Int) := ⟨(k - 1).toNat, by omega⟩
    have e1 : ((m + 1 : Nat) : Int) - 1 = (m : Int) := by omega
    have h1 : m + 1 < l.length := by omega
    have h2 : m < l.length := by omega
    simp [e1, h1, h2]
    refine ⟨⟨by omega, by omega⟩, Fits.of (by omega) (by omega), PCallK.intro (PInv.func (cmp_Less_int_ok _ _)) ?_⟩
    by_cases q : l[m + 1] < l[m]
    · simp [q]
      refine hJ.ret ?_
      simp
      refine RetV.refl ?_
      have : ¬ SortedI l := fun hs => by
        have := (List.pairwise_iff_getElem.1 hs) m (m + 1) h2 h1 (by omega)
        omega
      simp [this]
    · simp [q, e1]
      (repeat first | refine And.intro (by omega) ?_ | refine And.intro (Fits.of (by omega) (by omega)) ?_)
      refine hJ.next (m : Int) ⟨by omega, by omega, fun j hj hjk => ?_⟩ (by omega) (by simp) (by simp)
      by_cases hx : j = m
      · subst hx; omega
      · exact inv j hj (by omega)
  · simp [hkc]
    refine hJ.exit ?_
    simp
    refine RetV.refl ?_
    have : SortedI l := .of_next fun j hj => inv j hj (by omega)
    simp [this]

theorem SortedI.unique {l m : List Int} (hl : SortedI l) (hm : SortedI m) (h : l.Perm m) : l = m :=
  List.Perm.eq_of_pairwise (fun a b _ _ h1 h2 => Int.le_antisymm h1 h2) hl hm h

theorem Drv.Order.perm {d : Drv} {l : List Int} (h : d.Order l) : l.Perm (upto d.n) := by
  rw [List.perm_iff_count]
  intro x
  rw [upto_count]
  by_cases hx : 0 ≤ x ∧ x < d.n
  · rw [if_pos hx]
    have := h.2 x.toNat (by omega)
    rwa [show ((x.toNat : Nat) : Int) = x by omega] at this
  · rw [if_neg hx, List.count_eq_zero]
    exact fun hm => hx (h.mem x hm)
theorem Drv.Order.of_perm {d : Drv} {l : List Int} (h : l.Perm (upto d.n)) : d.Order l := by
  refine ⟨by rw [h.length_eq]; simp, fun i hi => ?_⟩
  rw [List.perm_iff_count.1 h, upto_count, if_pos (by omega)]
theorem Drv.Order.iff {d : Drv} {l : List Int} : d.Order l ↔ l.length = d.n ∧ sortI l = upto l.length := by
  constructor
  · intro h
    refine ⟨h.1, (sortI_sorted l).unique (upto_sorted _) ?_⟩
    rw [h.1]; exact (sortI_perm l).trans h.perm
  · rintro ⟨h1, h2⟩
    refine .of_perm ?_
    rw [← h1, ← h2]; exact (sortI_perm l).symm
theorem Drv.Order.sorted {d : Drv} {l : List Int} (h : d.Order l) (hs : SortedI l) : toN l = List.range d.n := by
  have : l = upto d.n := hs.unique (upto_sorted _) h.perm
  rw [this]
  simp only [toN, upto, List.map_map]
  conv => rhs; rw [← List.map_id (List.range d.n)]
  exact List.map_congr_left fun x _ => by simp

theorem drive_isOrder_ok (d : Drv) (l : List Int) (hl : l.length ≤ 1000) : APure Pg fn_drive_isOrder [d.v, L l] (.bool (decide (d.Order l))) := by
  refine drive_isOrder.pure (by simp) ?_
  simp [Drv.cells]
  intro s s1
  refine ⟨⟨by omega, by omega⟩, ?_⟩
  refine FCall.cps (σ := Unit) [(10, .row (ints l) (s1 + 1))] (fun _ => .tup []) (fun _ => [(10, .row (ints (sortI l)) (s1 + 1))]) (fun _ => True) (fun K k => ?_) ?_ ?_ trivial ?_
  · exact AInvoke.func (slices_Sort_int_int.c (by omega) (k () trivial))
  · simp
  · intro; rfl
  rintro _ _
  simp
  have hsl : (sortI l).length = l.length := sortI_length l
  refine Lp.intro (σ := Nat) (inv := fun k => k ≤ l.length ∧ ∀ j (h : j < (sortI l).length), j < k → (sortI l)[j] = (j : Int))
    (vw := fun k => [(1, L l), (2, .ptr 2 0 (s + 1)), (16, .sl 10 0 (s1 + 1) l.length (.ex l.length)), (17, .int .i64 l.length), (18, .int .i64 k)]) (hp := fun _ => [(2, .row d.cells (s + 1)), (10, .row (ints (sortI l)) (s1 + 1))]) (ms := fun k => l.length - k) 0 (by simp) (by simp) (by simp [Drv.cells]) ?_
  rintro k ⟨hk, inv⟩ J hJ
  by_cases hkc : k < l.length
  · have hkc' : k < (sortI l).length := by omega
    by_cases q : (k : Int) = (sortI l)[k]
    · simp [hkc, hkc', ← q]
      (repeat first | refine And.intro (by omega) ?_ | refine And.intro (Fits.of (by omega) (by omega)) ?_)
      refine hJ.next (k + 1) ⟨by omega, fun j hj hjk => ?_⟩ (by omega) (by simp) (by simp [Drv.cells])
      by_cases h : j = k
      · subst h; exact q.symm
      · exact inv j hj (by omega)
    · simp [hkc, hkc', q]
      refine hJ.ret ?_
      simp
      refine RetV.refl ?_
      have : ¬ d.Order l := fun h => q (by
        have h2 := (Drv.Order.iff.1 h).2
        have : (sortI l)[k] = (upto l.length)[k]'(by simpa using hkc) := by simp only [h2]
        rw [this, upto_get hkc])
      simp [this]
  · simp [hkc, Drv.cells]
    refine hJ.exit ?_
    simp [Drv.cells]
    refine RetV.refl ?_
    have e : sortI l = upto l.length := by
      refine List.ext_getElem (by simp [hsl]) fun j h1 h2 => ?_
      rw [inv j h1 (by omega), upto_get (by omega)]
    have : d.Order l ↔ l.length = d.limits.length := by rw [Drv.Order.iff]; simp [e, Drv.n]
    simp [this]

end Go.Cw
end

/- How seams open by an order: the program's pickers, its steps, and Run. -/
section
set_option maxRecDepth 100000
set_option linter.unusedSimpArgs false
namespace Go.Cw
open Go Go.Proofs

theorem pick_ordered : MethAt Pg 89 "caulkworks/drive.pick" fn_drive_ordered_pick := ⟨fun _ _ => by kernel_rfl⟩
theorem pick_rising : MethAt Pg 94 "caulkworks/drive.pick" fn_drive_rising_pick := ⟨fun _ _ => by kernel_rfl⟩

def pickV : Option Nat → AVal
  | some i => .tup [.int .i64 i, .bool true]
  | none => .tup [.int .i64 0, .bool false]

theorem drive_ordered_pick_1_ok (d : Drv) (h6 : d.n ≤ 6) (c : Nat → Int) (i : Nat) (hi : i < d.n) : APure Pg fn_drive_ordered_pick_1 [.int .i64 i, .pv [d.H], .pv (ints (tab 6 c))] (.bool (decide (d.lim i ≤ c i))) := by
  refine drive_ordered_pick_1.pure (by simp) ?_
  simp
  refine PCallK.intro (PInv.func (drive_hull_can_ok d c i hi h6)) ?_
  simp
  exact RetV.refl (by simp)

theorem idx_first (d : Drv) (c : Nat → Int) (l : List Nat) : (d.firstCan l c = none ∧ idx (fun x => decide (d.lim x.toNat ≤ c x.toNat)) (nats l) = -1) ∨
    ∃ (k : Nat) (h : k < l.length), d.firstCan l c = some l[k] ∧ idx (fun x => decide (d.lim x.toNat ≤ c x.toNat)) (nats l) = (k : Int) := by
  have e : (nats l).findIdx? (fun x => decide (d.lim x.toNat ≤ c x.toNat)) = l.findIdx? (fun i => decide (d.lim i ≤ c i)) := by
    simp only [nats, List.findIdx?_map]
    rfl
  cases h : l.findIdx? (fun i => decide (d.lim i ≤ c i)) with
  | none =>
    refine .inl ⟨?_, by simp [idx, e, h]⟩
    rw [List.findIdx?_eq_none_iff] at h
    exact List.find?_eq_none.2 fun i hi => by simpa using h i hi
  | some k =>
    obtain ⟨hk, h1, h2⟩ := List.findIdx?_eq_some_iff_getElem.1 h
    refine .inr ⟨k, hk, ?_, by simp [idx, e, h]⟩
    exact List.find?_eq_some_iff_getElem.2 ⟨by simpa using h1, k, hk, rfl, fun j hj => by simpa using h2 j hj⟩

theorem drive_ordered_pick_ok (d : Drv) (hd : d.Small) (hv : d.Valid) (order : List Nat) (ho : ∀ i ∈ order, i < d.n) (hol : order.length ≤ 40) (c : Nat → Int) : APure Pg fn_drive_ordered_pick [.agg [L (nats order)], d.H, B6 c] (pickV (d.firstCan order c)) := by
  have h6 := hv.n6
  refine drive_ordered_pick.pure (by simp) ?_
  simp [B6]
  intro s s1 s2
  refine Sl.frz 4 rfl (Sl.frz 5 rfl (Sl.refl ?_))
  simp
  refine PCallK.intro (PInv.func (slices_IndexFunc_ok (nats order) (by simp; omega) _ (fun x => decide (d.lim x.toNat ≤ c x.toNat)) fun x hx => ?_)) ?_
  · obtain ⟨i, hi, rfl⟩ : ∃ i ∈ order, (i : Int) = x := by simpa [nats] using hx
    refine PInv.func ?_
    simpa using drive_ordered_pick_1_ok d h6 c i (ho i hi)
  rcases idx_first d c order with ⟨h1, h2⟩ | ⟨k, hk, h1, h2⟩
  · rw [h1, h2]
    simp
    exact RetV.refl rfl
  · rw [h1, h2]
    simp [show ¬ (k : Int) < 0 by omega, hk]
    exact RetV.refl rfl

theorem rangeN_first (d : Drv) (c : Nat → Int) (k : Nat) (hk : k < d.n) (h : d.lim k ≤ c k) (inv : ∀ j, j < k → ¬ d.lim j ≤ c j) : d.firstCan (List.range d.n) c = some k :=
  List.find?_eq_some_iff_getElem.2 ⟨by simpa using h, k, by simpa using hk, by simp, fun j hj => by simpa using inv j hj⟩

theorem drive_rising_pick_ok (d : Drv) (hd : d.Small) (hv : d.Valid) (order : List Int) (hol : order.length = d.n) (c : Nat → Int) : APure Pg fn_drive_rising_pick [.agg [L order], d.H, B6 c] (pickV (d.firstCan (List.range d.n) c)) := by
  have h6 := hv.n6
  refine drive_rising_pick.pure (by simp) ?_
  simp [B6]
  intro s s1
  refine Lp.intro (σ := Nat) (inv := fun k => k ≤ d.n ∧ ∀ j, j < k → ¬ d.lim j ≤ c j) (vw := fun k => [(1, d.H), (5, .ptr 5 0 (s1 + 1)), (12, .int .i64 d.n), (13, .int .i64 k)]) (hp := fun _ => [(5, .row (ints (tab 6 c)) (s1 + 1))]) (ms := fun k => d.n - k) 0 (by simp) (by simp [hol]) (by simp) ?_
  rintro k ⟨hk, inv⟩ J hJ
  by_cases hkc : k < d.n
  · simp [hkc]
    refine PCallK.intro (PInv.func (drive_hull_can_ok d c k hkc h6)) ?_
    by_cases q : d.lim k ≤ c k
    · simp [q]
      refine hJ.ret ?_
      simp
      refine RetV.refl ?_
      rw [rangeN_first d c k hkc q inv]; rfl
    · simp [q]
      (repeat first | refine And.intro (by omega) ?_ | refine And.intro (Fits.of (by omega) (by omega)) ?_)
      refine hJ.next (k + 1) ⟨by omega, fun j hj => ?_⟩ (by omega) (by simp) (by simp)
      by_cases h : j = k
      · subst h; exact q
      · exact inv j (by omega)
  · simp [hkc]
    refine hJ.exit ?_
    simp
    refine RetV.refl ?_
    have : d.firstCan (List.range d.n) c = none := List.find?_eq_none.2 fun i hi => by
      have := inv i (by simp at hi; omega)
      simpa using this
    rw [this]; rfl
end Go.Cw
end

/- The program's steps: a range over them takes each seam as it opens. -/
section
set_option maxRecDepth 100000
set_option linter.unusedSimpArgs false
namespace Go.Cw
open Go Go.Proofs

theorem drive_hull_steps_ok (d : Drv) (c : Nat → Int) (T : TypeId) (l : List Int) (K : AEnd → Heap → Prop)
    (hK : ∀ s, K (.ret (.func (.func fn_drive_hull_steps_1) [] [.pv [.iface T (.agg [L l])], .pv [d.H], .ptr 304 0 s])) (hpV [(304, .row (ints (tab 6 c)) s)])) :
    ACalls Pg fn_drive_hull_steps [d.H, B6 c, .iface T (.agg [L l])] (hpV [(304, .dead)]) K := by
  refine drive_hull_steps.enter 300 (by simp) ?_
  simp [B6]
  intro s s1 s2
  refine RetV.frz 303 rfl (RetV.frz 305 rfl (RetV.view [(304, .row (ints (tab 6 c)) (s1 + 1))] (by simp) ?_))
  simpa using hK (s1 + 1)

theorem drive_hull_steps_1_ok (d : Drv) (hd : d.Small) (hv : d.Valid) (order : List Nat) (ho : ∀ i ∈ order, i < d.n) (p : AVal) (hp : ∀ c, PInv Pg (.func (.method "caulkworks/drive.pick") [p] []) [d.H, B6 c] (pickV (d.firstCan order c)))
    {m : Int} (hm : m ≤ 10000) {c c' : Nat → Int} (hc : d.In m c) (hz : ∀ j, d.n ≤ j → c j = 0) {all : List Nat} (r : d.Runs order c all c')
    {τ : Type} (row : τ → List (Nat × AObj)) (hb : RowsB row 300) (pr : τ → List Nat) (yr ys : Nat)
    (hy : ∀ t i (K : AEnd → Heap → Prop) cc, (pr t).length < all.length → (∀ t', pr t' = pr t ++ [i] → K (.ret (.bool true)) (hpV (row t'))) → AInvoke Pg (.yield yr ys) [.int .i64 (i : Nat), B6 cc] (hpV (row t)) K)
    (t₀ : τ) (h0 : pr t₀ = []) (s : Nat) (K : AEnd → Heap → Prop) (hK : ∀ t, pr t = all → K (.ret (.tup [])) (hpV (row t))) :
    ACalls Pg fn_drive_hull_steps_1 [.yield yr ys, .pv [p], .pv [d.H], .ptr 304 0 s] (hpV ((304, .row (ints (tab 6 c)) s) :: row t₀)) K := by
  have hn6 := hv.n6
  refine drive_hull_steps_1.enter 320 (by simp) ?_
  simp
  refine Lp.intro (σ := τ × List Nat × (Nat → Int)) (inv := fun x => all = pr x.1 ++ x.2.1 ∧ d.Runs order x.2.2 x.2.1 c' ∧ d.In m x.2.2 ∧ ∀ j, d.n ≤ j → x.2.2 j = 0)
    (vw := fun _ => [(0, .yield yr ys), (1, .pv [p]), (2, .pv [d.H]), (3, .ptr 304 0 s)]) (hp := fun x => (304, .row (ints (tab 6 x.2.2)) s) :: row x.1) (ms := fun x => x.2.1.length) (t₀, all, c) (by simpa [h0] using ⟨r, hc, hz⟩) (by simp) (by simp [hb.upd, hb.self]) ?_
  rintro ⟨t, rest, cur⟩ ⟨hall, hr, hcur, hz⟩ J hJ
  simp at hall hr hcur hz
  simp
  have hpc := hp cur
  cases hr with
  | stop hf =>
    rw [hf] at hpc
    refine FCall.pure hpc ?_
    simp [pickV]
    refine hJ.exit ?_
    simp
    refine RetV.view (row t) (by simp [hb.upd, hb.self]) ?_
    exact hK t (by simpa using hall.symm)
  | @step _ _ i rest' hf r' =>
    rw [hf] at hpc
    refine FCall.pure hpc ?_
    simp [pickV]
    obtain ⟨hi, hli⟩ := Drv.firstCan_some hf
    have hin := ho i hi
    have hop := drive_hull_opened_ok d hd hv cur (fun j hj => ?_) i hin 1 (by omega)
    rotate_left
    · by_cases hjn : j < d.n
      · have := hcur.pos j hjn; have := hcur.le hjn; omega
      · have := hz j (by omega); omega
    rw [show d.fireN i 1 cur = d.fire i cur by funext j; simp [Drv.fireN, Drv.fire]] at hop
    refine PCallK.intro (PInv.func (by simpa [B6] using hop)) ?_
    simp [B6]
    refine FCall.cps (σ := {t' : τ // pr t' = pr t ++ [i]}) (row t) (fun _ => .bool true) (fun t' => row t'.1) (fun _ => True) (fun K' hK' => hy t i K' (d.fire i cur) ?_ fun t' ht' => hK' ⟨t', ht'⟩ trivial) (by simp [hb.upd, hb.self]) (fun t' => hb.hn _ _) trivial (fun t' _ => ⟨trivial, ?_⟩)
    · rw [hall]; simp
    obtain ⟨t', ht'⟩ := t'
    simp
    refine hJ.next (t', rest', d.fire i cur) ⟨by rw [ht', hall]; simp, r', hcur.fire hv hin hli, fun j hj => ?_⟩ (by simp) (by simp) (by simp [hb.upd, hb.updL, hb.updL_self])
    show d.fire i cur j = 0
    unfold Drv.fire
    rw [Drv.cnt_none hv i hj, hz j hj, if_neg (by omega)]
    rfl
end Go.Cw
end

/- Run: the program tells what the reference tells. -/
section
set_option maxRecDepth 100000
set_option linter.unusedSimpArgs false
namespace Go.Cw
open Go Go.Proofs

theorem Drv.Order.lt {d : Drv} {l : List Int} (h : d.Order l) : ∀ i ∈ toN l, i < d.n := by
  intro i hi
  simp only [toN, List.mem_map] at hi
  obtain ⟨x, hx, rfl⟩ := hi
  have := h.mem x hx
  omega

/-- What Run keeps while seams open: the list as it grows, and what the range has made. -/
def runRow (s6 sd : Nat) (L : Jm → AObj) (t : List Nat × Nat) : List (Nat × AObj) :=
  [(6, .row [gS 1 41 t.1.length t.2] s6), (41, gO t.1.length (ints (nats t.1)) t.2), (100, L .go), (101, .dfr false sd)]

theorem runRow_b (s6 sd : Nat) (L : Jm → AObj) : RowsB (runRow s6 sd L) 300 := ⟨fun _ _ => rfl, fun t x hx => by simp [runRow] at hx; omega, fun t => by simp [runRow]⟩

theorem drive_Run_ok (d : Drv) (hd : d.Small) (l order : List Int) (hl : l.length ≤ 1000) (ho : order.length ≤ 1000) : APure Pg fn_drive_Run [d.v, L l, L order] (d.runV l order) := by
  refine drive_Run.pure (by simp) ?_
  simp
  intro s s1 s2
  refine PCallK.intro (PInv.func (drive_areBlows_ok d l hl)) ?_
  simp
  have e1 : ∀ b, (decide (d.Blows l) && b) = true ↔ d.Blows l ∧ b = true := fun b => by simp
  by_cases h2 : d.Blows l
  rotate_left
  · simp [h2]
    by_cases h1 : d.Valid
    · refine FCall.pan (PInvPan.func (drive_open_range d hd h1)) ?_
      simp
      refine RetD.panic rfl drive_Run_1.recClo ?_
      refine ACalls.cps [(7, .row [.int .i64 0] (s2 + 1))] (fun _ : Unit => .tup []) (fun _ => [(7, .row [.int .i64 2] (s2 + 1))]) (fun _ => True) (fun K' hK' => drive_said_ref _ _ _ _ K' (hK' () trivial)) (by simp) (fun _ => rfl) fun _ _ => ?_
      simp
      exact RetV.ale (v' := .tup [L [], .int .i64 2]) (ALe.tup ⟨ALe.nils_L, ALe.refl _, trivial⟩) (RetV.refl (by simp [Drv.runV, h1, h2]))
    · refine FCall.pan (PInvPan.func (drive_open_arg d hd h1 _)) ?_
      simp
      refine RetD.panic rfl drive_Run_1.recClo ?_
      refine ACalls.cps [(7, .row [.int .i64 0] (s2 + 1))] (fun _ : Unit => .tup []) (fun _ => [(7, .row [.int .i64 1] (s2 + 1))]) (fun _ => True) (fun K' hK' => drive_said_ref _ _ _ _ K' (hK' () trivial)) (by simp) (fun _ => rfl) fun _ _ => ?_
      simp
      exact RetV.ale (v' := .tup [L [], .int .i64 1]) (ALe.tup ⟨ALe.nils_L, ALe.refl _, trivial⟩) (RetV.refl (by simp [Drv.runV, h1]))
  simp [h2]
  refine PCallK.intro (PInv.func (drive_isOrder_ok d order ho)) ?_
  simp
  by_cases h1 : d.Valid
  rotate_left
  · refine FCall.pan (PInvPan.func (drive_open_arg d hd h1 _)) ?_
    simp
    refine RetD.panic rfl drive_Run_1.recClo ?_
    refine ACalls.cps [(7, .row [.int .i64 0] (s2 + 1))] (fun _ : Unit => .tup []) (fun _ => [(7, .row [.int .i64 1] (s2 + 1))]) (fun _ => True) (fun K' hK' => drive_said_ref _ _ _ _ K' (hK' () trivial)) (by simp) (fun _ => rfl) fun _ _ => ?_
    simp
    exact RetV.ale (v' := .tup [L [], .int .i64 1]) (ALe.tup ⟨ALe.nils_L, ALe.refl _, trivial⟩) (RetV.refl (by simp [Drv.runV, h1]))
  by_cases h3 : d.Order order
  rotate_left
  · simp [h3]
    refine FCall.pan (PInvPan.func (drive_open_range d hd h1)) ?_
    simp
    refine RetD.panic rfl drive_Run_1.recClo ?_
    refine ACalls.cps [(7, .row [.int .i64 0] (s2 + 1))] (fun _ : Unit => .tup []) (fun _ => [(7, .row [.int .i64 2] (s2 + 1))]) (fun _ => True) (fun K' hK' => drive_said_ref _ _ _ _ K' (hK' () trivial)) (by simp) (fun _ => rfl) fun _ _ => ?_
    simp
    exact RetV.ale (v' := .tup [L [], .int .i64 2]) (ALe.tup ⟨ALe.nils_L, ALe.refl _, trivial⟩) (RetV.refl (by simp [Drv.runV, h1, h2, h3]))
  simp [h3]
  have hn6 := h1.n6
  have hn1 := h1.n1
  have hlo : order.length = d.n := h3.1
  refine FCall.pure (PInv.func (drive_open_ok d hd h1)) ?_
  simp
  refine PCallK.intro (PInv.func (slices_IsSorted_ok order (by omega))) ?_
  have pk : ∀ T : TypeId, (if SortedI order then T = 94 else T = 89) → ∀ c, PInv Pg (.func (.method "caulkworks/drive.pick") [.iface T (.agg [L order])] []) [d.H, B6 c] (pickV (d.firstCan (toN order) c)) := by
    intro T hT c h
    by_cases hs : SortedI order
    · rw [if_pos hs] at hT
      subst hT
      refine AInvoke.meth pick_rising ?_
      rw [h3.sorted hs]
      exact drive_rising_pick_ok d hd h1 order hlo c h
    · rw [if_neg hs] at hT
      subst hT
      refine AInvoke.meth pick_ordered ?_
      have := drive_ordered_pick_ok d hd h1 (toN order) h3.lt (by simp [toN]; omega) c h
      rwa [h3.nats] at this
  have hi := Drv.In.of_le h1 (c := ofL l) (m := 52) h2.le (by omega)
  have hr := hi.runs h1 h3.lt
  have hlen := (hr.inn h1 h3.lt hi).2.1
  by_cases hs : SortedI order
  all_goals simp [hs]
  all_goals refine PCallK.intro (PInv.func (drive_blowsOf_ok l (by have := h2.1; omega))) ?_
  all_goals simp
  all_goals refine FCall.cps [(304, .dead)] (fun s' : Nat => .func (.func fn_drive_hull_steps_1) [] [.pv [.iface _ (.agg [L order])], .pv [d.H], .ptr 304 0 s']) (fun s' => [(304, .row (ints (tab 6 (ofL l))) s')]) (fun _ => True) (fun K' hK' => AInvoke.func (drive_hull_steps_ok d (ofL l) _ order K' fun s' => hK' s' trivial)) (by simp) (fun _ => rfl) trivial (fun s3 _ => ⟨trivial, ?_⟩)
  all_goals simp
  all_goals refine RF.intro 100 101 rfl (by simp) (by simp) (by simp) fun sl sd LO LB yl => ?_
  all_goals refine ACalls.rowLe 6 [.es] rfl (by simpa using ALe.nils_es) ?_
  all_goals refine ACalls.cps (σ := List Nat × Nat) ((304, .row (ints (tab 6 (ofL l))) s3) :: runRow (s1 + 1) sd LO ([], 0)) (fun _ => .tup []) (fun t => (304, .dead) :: runRow (s1 + 1) sd LO t) (fun t => t.1 = (d.runOf (toN order) (ofL l)).1) (fun K' hK' => ?_) (by simp [runRow]) (fun _ => rfl) fun t ht => ?_
  · refine drive_hull_steps_1_ok d hd h1 (toN order) h3.lt _ (pk 94 (by simp [hs])) (m := 6 * 52) (by omega) hi (fun j hj => ofL_none l (by have := h2.1; omega)) hr (runRow (s1 + 1) sd LO) (runRow_b _ _ _) (fun t => t.1) 100 sl (fun t i K cc hlt hk => ?_) ([], 0) rfl s3 K' fun t ht => ?_
    · refine AInvoke.wk (yl _ _ _ rfl (by simp [runRow]) ?_)
      simp [runRow]
      intro s4 s5
      refine xApN_gS (cells := ints (nats t.1)) (by simp) (by simp) (by omega) (by omega) ?_
      simp
      exact Wk.view (runRow (s1 + 1) sd LO (t.1 ++ [i], s5 + 1)) (by simp [runRow]) (hk _ rfl)
    · have := hK' t ht
      rwa [hpV_cons, upd_dead (by simp [runRow])] at this
  · refine ⟨.go, by simp [runRow], ?_⟩
    simp [runRow]
    refine RetD.ret rfl drive_Run_1.recClo ((drive_said_nil _ _).mono ?_)
    rintro e h' ⟨rfl, rfl⟩
    simp
    refine RetV.le (VLe.tup_gS (cells := ints (nats t.1)) (by simp) (by simp)) (RetV.refl ?_)
    simp [Drv.runV, h1, h2, h3, L, ht]
  · refine drive_hull_steps_1_ok d hd h1 (toN order) h3.lt _ (pk 89 (by simp [hs])) (m := 6 * 52) (by omega) hi (fun j hj => ofL_none l (by have := h2.1; omega)) hr (runRow (s1 + 1) sd LO) (runRow_b _ _ _) (fun t => t.1) 100 sl (fun t i K cc hlt hk => ?_) ([], 0) rfl s3 K' fun t ht => ?_
    · refine AInvoke.wk (yl _ _ _ rfl (by simp [runRow]) ?_)
      simp [runRow]
      intro s4 s5
      refine xApN_gS (cells := ints (nats t.1)) (by simp) (by simp) (by omega) (by omega) ?_
      simp
      exact Wk.view (runRow (s1 + 1) sd LO (t.1 ++ [i], s5 + 1)) (by simp [runRow]) (hk _ rfl)
    · have := hK' t ht
      rwa [hpV_cons, upd_dead (by simp [runRow])] at this
  · refine ⟨.go, by simp [runRow], ?_⟩
    simp [runRow]
    refine RetD.ret rfl drive_Run_1.recClo ((drive_said_nil _ _).mono ?_)
    rintro e h' ⟨rfl, rfl⟩
    simp
    refine RetV.le (VLe.tup_gS (cells := ints (nats t.1)) (by simp) (by simp)) (RetV.refl ?_)
    simp [Drv.runV, h1, h2, h3, L, ht]
end Go.Cw
end

/- What is told of the document's example, reckoned out. -/
section
set_option linter.unusedSimpArgs false
namespace Go.Cw
open Go

namespace Drv
def runLs (d : Drv) (order : List Nat) : Nat → List Int → Option (List Nat × List Int)
  | 0, _ => none
  | f + 1, l => match d.firstCan order (ofL l) with
    | none => some ([], l)
    | some i => match runLs d order f (tab d.n (d.fire i (ofL l))) with
      | some (all, l') => some (i :: all, l')
      | none => none

theorem fire_tab {d : Drv} (hv : d.Valid) {i : Nat} (hi : i < d.n) {l : List Int} (hl : l.length = d.n) : ofL (tab d.n (d.fire i (ofL l))) = d.fire i (ofL l) := by
  funext j
  by_cases hj : j < d.n
  · simp [ofL, hj]
  · rw [ofL_none _ (by simp; omega)]
    unfold fire
    rw [ofL_none l (by omega), cnt_none hv i (by omega), if_neg (by omega)]
    rfl

theorem runLs_ok {d : Drv} (hv : d.Valid) {order : List Nat} (ho : ∀ i ∈ order, i < d.n) : ∀ {f : Nat} {l l' : List Int} {all : List Nat}, l.length = d.n → d.runLs order f l = some (all, l') → d.Runs order (ofL l) all (ofL l') ∧ l'.length = d.n
  | 0, _, _, _, _, h => by simp [runLs] at h
  | f + 1, l, l', all, hl, h => by
    simp only [runLs] at h
    split at h
    · rename_i hf
      simp only [Option.some.injEq, Prod.mk.injEq] at h
      obtain ⟨rfl, rfl⟩ := h
      exact ⟨.stop hf, hl⟩
    · rename_i i hf
      split at h
      · rename_i all' l'' hr
        simp only [Option.some.injEq, Prod.mk.injEq] at h
        obtain ⟨rfl, rfl⟩ := h
        obtain ⟨h1, h2⟩ := runLs_ok hv ho (by simp) hr
        rw [fire_tab hv (ho i (firstCan_some hf).1) hl] at h1
        exact ⟨.step hf h1, h2⟩
      · cases h

theorem run_of {d : Drv} (hv : d.Valid) {f : Nat} {l l' : List Int} {all : List Nat} (hl : l.length = d.n) (h : d.runLs (List.range d.n) f l = some (all, l')) : d.left (ofL l) = ofL l' ∧ d.odo (ofL l) = times all := by
  have r := (runLs_ok hv (by simp) hl h).1
  unfold left odo
  rw [r.eq]
  exact ⟨rfl, rfl⟩

theorem plus_set (l : List Int) (a : Nat) (x : Int) (ha : a < l.length) : plus (ofL l) a x = ofL (l.set a (l[a] + x)) := by
  funext j
  unfold plus upd ofL
  by_cases h : j = a
  · subst h; simp [ha]
  · have : ¬ a = j := fun e => h e.symm
    simp [h, List.getElem?_set, this]

theorem pushV_eq {d : Drv} (hv : d.Valid) {a b : Nat} (ha : a < d.n) (hb : b < d.n) (k : Nat) (hk : k < 41) (h : 0 < d.odo (plus d.lo a k) b) (hn : ∀ j < k, ¬ 0 < d.odo (plus d.lo a j) b) : d.pushV a b = .tup [.int .i64 k, .int .i64 0] := by
  have hf : ((List.range 41).find? fun k => decide (d.PushAll a b k)) = some k := by
    rw [List.find?_eq_some_iff_getElem]
    refine ⟨by simpa using (push_all hv a b k).2 h, k, by simpa using hk, by simp, fun j hj => ?_⟩
    have := mt (push_all hv a b j).1 (hn j hj)
    simpa using this
  unfold pushV
  rw [if_pos hv, if_pos ⟨⟨by omega, by omega⟩, ⟨by omega, by omega⟩⟩]
  simp only [Int.toNat_natCast, hf]
end Drv

/-- The document's example. -/
def smp : Drv := ⟨[3, 3, 3], [(0, 1), (1, 2)], [(4, 4), (2, 2), (1, 2)]⟩

theorem smp_small : smp.Small := ⟨by decide, by decide, by decide⟩
theorem smp_valid : smp.Valid := by
  refine ⟨by decide, by decide, by decide, fun i p hp => ?_, fun i l s hl hs => ?_⟩
  · match i with
    | 0 =>
      simp [smp] at hp
      subst hp
      refine ⟨by decide, by decide, by decide, fun k hk => absurd hk (by omega)⟩
    | 1 =>
      simp [smp] at hp
      subst hp
      refine ⟨by decide, by decide, by decide, fun k hk => ?_⟩
      obtain rfl : k = 0 := by omega
      decide
    | i + 2 => simp [smp] at hp
  · match i with
    | 0 => simp [smp] at hl hs; subst hl hs; decide
    | 1 => simp [smp] at hl hs; subst hl hs; decide
    | 2 => simp [smp] at hl hs; subst hl hs; decide
    | i + 3 => simp [smp] at hl

theorem smp_n : smp.n = 3 := (rfl)
theorem smp_lo : smp.lo = ofL [4, 2, 1] := by funext j; match j with | 0 | 1 | 2 => rfl | j + 3 => simp [Drv.lo, smp, ofL]
theorem smp_hi : smp.hi = ofL [4, 2, 2] := by funext j; match j with | 0 | 1 | 2 => rfl | j + 3 => simp [Drv.hi, smp, ofL]

theorem smp_run {l l' : List Int} {all : List Nat} (hl : l.length = 3) (h : smp.runLs [0, 1, 2] 60 l = some (all, l')) : smp.left (ofL l) = ofL l' ∧ smp.odo (ofL l) = times all := Drv.run_of smp_valid hl h

theorem smp_settle {l l' m : List Int} {all : List Nat} (hb : smp.Blows l) (h : smp.runLs [0, 1, 2] 60 l = some (all, l')) (hm : tab 3 (ofL l') = l' ∧ tab 3 (times all) = m) : smp.settleV l = .tup [L l', L m, .int .i64 0] := by
  obtain ⟨h1, h2⟩ := smp_run hb.1 h
  simp only [Drv.settleV, smp_valid, hb, if_true, h1, h2, smp_n, hm.1, hm.2]

theorem smp_settle₁ : smp.settleV [4, 2, 2] = .tup [L [2, 1, 0], L [1, 1, 1], .int .i64 0] := smp_settle (all := [0, 1, 2]) (by decide) (by decide) ⟨by decide, by decide⟩
theorem smp_settle₂ : smp.settleV [4, 2, 1] = .tup [L [2, 0, 2], L [1, 1, 0], .int .i64 0] := smp_settle (all := [0, 1]) (by decide) (by decide) ⟨by decide, by decide⟩
theorem smp_settle₃ : smp.settleV [3, 3, 3] = .tup [L [1, 2, 1], L [1, 1, 1], .int .i64 0] := smp_settle (all := [0, 1, 2]) (by decide) (by decide) ⟨by decide, by decide⟩

theorem smp_runV {l o : List Int} {order all : List Nat} {l' : List Int} (hb : smp.Blows l) (ho : smp.Order o) (hn : toN o = order) (h : smp.runLs order 60 l = some (all, l')) : smp.runV l o = .tup [L (nats all), .int .i64 0] := by
  have r := (Drv.runLs_ok smp_valid (by rw [← hn]; exact ho.lt) hb.1 h).1
  simp only [Drv.runV, smp_valid, hb, ho, and_self, if_true, hn, r.eq]
theorem smp_run₁ : smp.runV [3, 3, 3] [2, 1, 0] = .tup [L [2, 1, 0], .int .i64 0] := smp_runV (order := [2, 1, 0]) (all := [2, 1, 0]) (by decide) (by decide) (by decide) (l' := [1, 2, 1]) (by decide)
theorem smp_run₂ : smp.runV [3, 3, 3] [0, 1, 2] = .tup [L [0, 1, 2], .int .i64 0] := smp_runV (order := [0, 1, 2]) (all := [0, 1, 2]) (by decide) (by decide) (by decide) (l' := [1, 2, 1]) (by decide)

theorem smp_lo_run : smp.left smp.lo = ofL [2, 0, 2] ∧ smp.odo smp.lo = times [0, 1] := by rw [smp_lo]; exact smp_run rfl (by decide)
theorem smp_hi_run : smp.left smp.hi = ofL [2, 1, 0] ∧ smp.odo smp.hi = times [0, 1, 2] := by rw [smp_hi]; exact smp_run rfl (by decide)

theorem smp_times (k : Nat) (hk : k < 3) (s : Int × Int) (hs : (times [0, 1] k, times [0, 1, 2] k) = s) : smp.timesV k = .tup [SP2 s, .int .i64 0] := by
  have : smp.Seam k := ⟨by omega, by rw [smp_n]; omega⟩
  simp only [Drv.timesV, smp_valid, this, if_true, Int.toNat_natCast, Drv.times_span smp_valid, smp_lo_run, smp_hi_run, hs]
theorem smp_truths : smp.truths = [[4, 2, 1], [4, 2, 2]] := by decide
theorem smp_left (k : Nat) (hk : k < 3) (s : Int × Int) (hs : spanOf [ofL [2, 0, 2] k, ofL [2, 1, 0] k] = s) : smp.leftV k = .tup [SP2 s, .int .i64 0] := by
  have : smp.Seam k := ⟨by omega, by rw [smp_n]; omega⟩
  have h1 := smp_lo_run.1
  have h2 := smp_hi_run.1
  rw [smp_lo] at h1
  rw [smp_hi] at h2
  simp only [Drv.leftV, smp_valid, this, if_true, Int.toNat_natCast, Drv.leftL, smp_truths, List.map_cons, List.map_nil, h1, h2, hs]
theorem smp_opens : smp.opensV = .tup [.int .i64 7, .int .i64 3, .int .i64 0] := by
  simp only [Drv.opensV, smp_valid, if_true, smp_n, Drv.canP, Drv.sureP, bits, Drv.times_span smp_valid, smp_lo_run, smp_hi_run]
  rfl

theorem smp_push (a b k : Nat) (ha : a < 3) (hb : b < 3) (hk : k < 41)
    (h : ((List.range (k + 1)).all fun j => match smp.runLs [0, 1, 2] 60 ([4, 2, 1].set a ([4, 2, 1].getD a 0 + (j : Int))) with
      | some (all, _) => decide (0 < times all b) == decide (j = k)
      | none => false) = true) : smp.pushV a b = .tup [.int .i64 k, .int .i64 0] := by
  have key : ∀ j, j ≤ k → (0 < smp.odo (plus smp.lo a j) b ↔ j = k) := by
    intro j hj
    have := List.all_eq_true.1 h j (by simp; omega)
    split at this
    · rename_i all l' hr
      have e : ([4, 2, 1] : List Int).getD a 0 = ([4, 2, 1] : List Int)[a]'(by simpa using ha) := by
        match a, ha with
        | 0, _ | 1, _ | 2, _ => rfl
      rw [smp_lo, Drv.plus_set _ _ _ (by simpa using ha), ← e, (smp_run (by simp) hr).2]
      simpa using this
    · cases this
  exact Drv.pushV_eq smp_valid ha hb k hk ((key k (Nat.le_refl _)).2 rfl) fun j hj h => by have := (key j (by omega)).1 h; omega

theorem smp_chain (l : List Int) (a : Nat) (ha : a < 3) (hb : smp.Blows l) (hs : (List.range 3).all (fun i => decide (ofL l i < 3)) = true) {all : List Nat} {l' : List Int} (h : smp.runLs [0, 1, 2] 60 (l.set a (l.getD a 0 + 1)) = some (all, l')) (z : Int)
    (hz : bits (fun i => decide (0 < times all i)) 3 = z) : smp.chainV l a = .tup [.int .i64 z, .int .i64 0] := by
  have hl : l.length = 3 := hb.1
  have hseam : smp.Seam a := ⟨by omega, by rw [smp_n]; omega⟩
  have hno : ¬ ∃ i, i < smp.n ∧ smp.lim i ≤ ofL l i := by
    rintro ⟨i, hi, hli⟩
    have h1 := List.all_eq_true.1 hs i (by simpa [smp_n] using hi)
    have : smp.lim i = 3 := by
      have hi' : i < 3 := hi
      match i, hi' with
      | 0, _ | 1, _ | 2, _ => rfl
    rw [this] at hli
    simp at h1; omega
  have e : l.getD a 0 = l[a]'(by omega) := by simp [show a < l.length by omega]
  have h2 : smp.odo (plus (ofL l) a 1) = times all := by
    rw [Drv.plus_set _ _ _ (by omega), ← e]
    exact (smp_run (by simp [hl]) h).2
  rw [smp_n] at hno
  simp only [Drv.chainV, smp_valid, if_true, hb, hseam, and_self, smp_n, hno, if_false, Int.toNat_natCast, h2, hz]

theorem smp_push₁ : smp.pushV 0 2 = .tup [.int .i64 7, .int .i64 0] := smp_push 0 2 7 (by omega) (by omega) (by omega) (by decide)
theorem smp_push₂ : smp.pushV 1 2 = .tup [.int .i64 3, .int .i64 0] := smp_push 1 2 3 (by omega) (by omega) (by omega) (by decide)
theorem smp_push₃ : smp.pushV 2 2 = .tup [.int .i64 1, .int .i64 0] := smp_push 2 2 1 (by omega) (by omega) (by omega) (by decide)
theorem smp_push₄ : smp.pushV 0 1 = .tup [.int .i64 0, .int .i64 0] := smp_push 0 1 0 (by omega) (by omega) (by omega) (by decide)
theorem smp_chain₁ : smp.chainV [2, 2, 2] 1 = .tup [.int .i64 7, .int .i64 0] := smp_chain [2, 2, 2] 1 (by omega) (by decide) (by decide) (all := [1, 0, 2]) (l' := [0, 2, 0]) (by decide) 7 (by decide)
theorem smp_chain₂ : smp.chainV [2, 0, 2] 1 = .tup [.int .i64 0, .int .i64 0] := smp_chain [2, 0, 2] 1 (by omega) (by decide) (by decide) (all := []) (l' := [2, 1, 2]) (by decide) 0 (by decide)
theorem smp_chain₃ : smp.chainV [3, 0, 0] 1 = .tup [.int .i64 0, .int .i64 6] := by
  have hb : smp.Blows [3, 0, 0] := by decide
  have hs : smp.Seam 1 := by decide
  have he : ∃ i, i < smp.n ∧ smp.lim i ≤ ofL [3, 0, 0] i := ⟨0, by decide, by decide⟩
  simp only [Drv.chainV, smp_valid, if_true, hb, hs, and_self, he]

end Go.Cw
end

/- The statements' own small functions; what the document fixes is met. -/
section
set_option maxRecDepth 100000
set_option linter.unusedSimpArgs false
namespace Go.Cw
open Go Go.Proofs

theorem law05_span_ok (a b : Int) : APure Pg fn_law05_span [.int .i64 a, .int .i64 b] (SP2 (a, b)) := by
  refine law05_span.pure (by simp) ?_
  simp
  intro s
  exact RetV.refl (by simp [SP2])

theorem law05_ints_ok (a b : List Int) (ha : a.length ≤ 100000) (hb : b.length ≤ 100000) : APure Pg fn_law05_ints [L a, L b] (.bool (decide (a = b))) := by
  refine law05_ints.pure (by simp) ?_
  simp
  refine PCallK.intro (PInv.func (ref05_Ints_ok a b ha hb)) ?_
  simp
  exact RetV.refl (by simp)

theorem law05_sample_ok : APure Pg fn_law05_sample [] smp.v := by
  refine law05_sample.pure (by simp) ?_
  simp
  intro s s1 s2
  refine PCallK.intro (PInv.func (law05_span_ok _ _)) ?_
  simp
  refine PCallK.intro (PInv.func (law05_span_ok _ _)) ?_
  simp
  refine PCallK.intro (PInv.func (law05_span_ok _ _)) ?_
  simp [SP2]
  intro s3
  refine RetV.frz 1 rfl (RetV.frz 4 rfl (RetV.frz 8 rfl (RetV.refl ?_)))
  simp [smp, L, LP]

theorem law05_alive_ok : APure Pg fn_law05_alive [] (.bool true) := by
  refine law05_alive.pure (by simp) ?_
  simp
  refine PCallK.intro (PInv.func law05_sample_ok) ?_
  simp
  intro s
  refine FCall.frz1 19 rfl (v := smp.settleV [4, 2, 2]) (by simpa [L] using PInv.func (first := []) (cap := []) (drive_Settle_ok smp smp_small [4, 2, 2] (by simp))) trivial ⟨trivial, ?_⟩
  rw [smp_settle₁]
  simp
  refine PCallK.intro (PInv.func law05_sample_ok) ?_
  simp
  intro s1 s2
  refine FCall.frz2 26 27 rfl rfl (by simp) (v := smp.runV [3, 3, 3] [2, 1, 0]) (by simpa [L] using PInv.func (first := []) (cap := []) (drive_Run_ok smp smp_small [3, 3, 3] [2, 1, 0] (by simp) (by simp))) trivial ⟨trivial, ?_⟩
  rw [smp_run₁]
  simp
  refine PCallK.intro (PInv.func law05_sample_ok) ?_
  simp
  refine PCallK.intro (v := smp.timesV (2 : Nat)) (PInv.func (drive_Times_ok smp smp_small 2)) ?_
  rw [smp_times 2 (by omega) (0, 1) (by decide)]
  simp [SP2]
  intro s3
  refine PCallK.intro (PInv.func law05_sample_ok) ?_
  simp
  refine PCallK.intro (v := smp.leftV (1 : Nat)) (PInv.func (drive_Left_ok smp smp_small 1)) ?_
  rw [smp_left 1 (by omega) (0, 1) (by decide)]
  simp [SP2]
  intro s4
  refine PCallK.intro (PInv.func law05_sample_ok) ?_
  simp
  refine PCallK.intro (PInv.func (drive_Opens_ok smp smp_small)) ?_
  rw [smp_opens]
  simp
  refine PCallK.intro (PInv.func law05_sample_ok) ?_
  simp
  refine PCallK.intro (v := smp.pushV 0 2) (PInv.func (drive_Push_ok smp smp_small 0 2)) ?_
  rw [smp_push₁]
  simp
  refine PCallK.intro (PInv.func law05_sample_ok) ?_
  simp
  intro s5
  refine FCall.frz1 54 rfl (v := smp.chainV [2, 2, 2] 1) (by simpa [L] using PInv.func (first := []) (cap := []) (drive_Chain_ok smp smp_small [2, 2, 2] (by simp) 1)) trivial ⟨trivial, ?_⟩
  rw [smp_chain₁]
  simp
  intro s6
  refine FCall.frz1 59 rfl (v := .bool true) (by simpa [L] using PInv.func (first := []) (cap := []) (law05_ints_ok [2, 1, 0] [2, 1, 0] (by simp) (by simp))) trivial ⟨trivial, ?_⟩
  simp
  intro s7
  refine FCall.frz1 63 rfl (v := .bool true) (by simpa [L] using PInv.func (first := []) (cap := []) (law05_ints_ok [1, 1, 1] [1, 1, 1] (by simp) (by simp))) trivial ⟨trivial, ?_⟩
  simp
  intro s8
  refine FCall.frz1 72 rfl (v := .bool true) (by simpa [L] using PInv.func (first := []) (cap := []) (law05_ints_ok [2, 1, 0] [2, 1, 0] (by simp) (by simp))) trivial ⟨trivial, ?_⟩
  simp
  refine PCallK.intro (PInv.func (law05_span_ok _ _)) ?_
  simp [SP2]
  refine PCallK.intro (PInv.func (law05_span_ok _ _)) ?_
  simp [SP2]
  exact RetV.refl rfl
end Go.Cw
end

/- Too much of something; Tells and Pushes. -/
section
set_option maxRecDepth 100000
set_option linter.unusedSimpArgs false
namespace Go.Cw
open Go Go.Proofs

def longB (d : Drv) (ls : List (List Int)) : Bool := !(decide (d.limits.length ≤ 40) && decide (d.beside.length ≤ 40) && decide (d.blows.length ≤ 40) && ls.all fun l => decide (l.length ≤ 40))
theorem longB_iff {d : Drv} {ls : List (List Int)} : longB d ls = false ↔ d.Small ∧ ∀ l ∈ ls, l.length ≤ 40 := by
  unfold longB
  simp only [Bool.not_eq_false', Bool.and_eq_true, decide_eq_true_eq, List.all_eq_true]
  exact ⟨fun h => ⟨⟨h.1.1.1, h.1.1.2, h.1.2⟩, h.2⟩, fun h => ⟨⟨⟨h.1.l, h.1.p⟩, h.1.b⟩, h.2⟩⟩

theorem law05_long_ok (d : Drv) (ls : List (List Int)) (hls : ls.length ≤ 100) : APure Pg fn_law05_long [d.v, .vl ls.length (ls.map L)] (.bool (longB d ls)) := by
  refine law05_long.pure (by simp) ?_
  simp
  intro s
  refine Lp.intro (σ := Nat × Int) (inv := fun x => x.1 ≤ ls.length ∧ (x.2 ≤ 40 ↔ d.Small ∧ ∀ l ∈ ls.take x.1, l.length ≤ 40)) (vw := fun x => [(18, .vl ls.length (ls.map L)), (19, .int .i64 ls.length), (20, .int .i64 x.1), (5, .int .i64 x.2)]) (hp := fun _ => []) (ms := fun x => ls.length - x.1)
    (0, max d.limits.length (max d.beside.length d.blows.length : Int)) ⟨by simp, ?_⟩ (by simp) (by simp) ?_
  · simp
    constructor
    · intro h; exact ⟨by omega, by omega, by omega⟩
    · intro h; have := h.l; have := h.p; have := h.b; omega
  rintro ⟨k, m⟩ ⟨hk, inv⟩ J hJ
  by_cases hkc : k < ls.length
  · simp [hkc]
    (repeat first | refine And.intro (by omega) ?_ | refine And.intro (Fits.of (by omega) (by omega)) ?_)
    refine hJ.next (k + 1, max m ls[k].length) ⟨by simp; omega, ?_⟩ (by simp; omega) (by simp) (by simp)
    simp only [] at inv hk ⊢
    rw [show (max m (ls[k].length : Int) ≤ 40) ↔ m ≤ 40 ∧ ls[k].length ≤ 40 by omega, inv]
    rw [← List.take_append_getElem hkc]
    simp only [List.mem_append, List.mem_singleton]
    constructor
    · rintro ⟨⟨h1, h2⟩, h3⟩
      exact ⟨h1, fun l hl => hl.elim (h2 l) (fun e => by rw [e]; exact h3)⟩
    · rintro ⟨h1, h2⟩
      exact ⟨⟨h1, fun l hl => h2 l (.inl hl)⟩, h2 _ (.inr rfl)⟩
  · simp [hkc]
    refine hJ.exit ?_
    simp
    refine RetV.refl ?_
    simp only [] at inv hk
    rw [List.take_of_length_le (by omega)] at inv
    have : decide (40 < m) = longB d ls := by
      cases hl : longB d ls with
      | false => have := inv.2 (longB_iff.1 hl); simp; omega
      | true =>
        have : ¬ m ≤ 40 := fun h => by rw [longB_iff.2 (inv.1 h)] at hl; cases hl
        simp; omega
    simp [this]

theorem Drv.settleV_form (d : Drv) (hd : d.Small) (l : List Int) : ∃ a b e, d.settleV l = .tup [L a, L b, .int .i64 e] ∧ a.length ≤ 100000 ∧ b.length ≤ 100000 := by
  have := hd.l
  unfold Drv.settleV
  split
  · split
    · exact ⟨_, _, _, rfl, by simp [Drv.n]; omega, by simp [Drv.n]; omega⟩
    · exact ⟨_, _, _, rfl, by simp, by simp⟩
  · exact ⟨_, _, _, rfl, by simp, by simp⟩
theorem Drv.runV_form (d : Drv) (l order : List Int) : ∃ a e, d.runV l order = .tup [L a, .int .i64 e] ∧ a.length ≤ 100000 := by
  unfold Drv.runV
  split
  · rename_i hv
    split
    · rename_i h
      have hi := Drv.In.of_le hv (c := ofL l) (m := 52) h.1.le (by omega)
      have := ((hi.runs hv h.2.lt).inn hv h.2.lt hi).2.1
      exact ⟨_, _, rfl, by simp; omega⟩
    · exact ⟨_, _, rfl, by simp⟩
  · exact ⟨_, _, rfl, by simp⟩
theorem Drv.timesV_form (d : Drv) (k : Int) : ∃ s e, d.timesV k = .tup [SP2 s, .int .i64 e] := by
  unfold Drv.timesV
  split
  · split
    · exact ⟨_, _, rfl⟩
    · exact ⟨_, _, rfl⟩
  · exact ⟨_, _, rfl⟩
theorem Drv.leftV_form (d : Drv) (k : Int) : ∃ s e, d.leftV k = .tup [SP2 s, .int .i64 e] := by
  unfold Drv.leftV
  split
  · split
    · exact ⟨_, _, rfl⟩
    · exact ⟨_, _, rfl⟩
  · exact ⟨_, _, rfl⟩
theorem Drv.opensV_form (d : Drv) : ∃ a b e, d.opensV = .tup [.int .i64 a, .int .i64 b, .int .i64 e] := by
  unfold Drv.opensV
  split
  · exact ⟨_, _, _, rfl⟩
  · exact ⟨_, _, _, rfl⟩
theorem Drv.pushV_form (d : Drv) (a b : Int) : ∃ n e, d.pushV a b = .tup [.int .i64 n, .int .i64 e] := by
  unfold Drv.pushV
  split
  · split
    · split
      · exact ⟨_, _, rfl⟩
      · exact ⟨_, _, rfl⟩
    · exact ⟨_, _, rfl⟩
  · exact ⟨_, _, rfl⟩
theorem Drv.chainV_form (d : Drv) (l : List Int) (a : Int) : ∃ n e, d.chainV l a = .tup [.int .i64 n, .int .i64 e] := by
  unfold Drv.chainV
  split
  · split
    · split
      · exact ⟨_, _, rfl⟩
      · exact ⟨_, _, rfl⟩
    · exact ⟨_, _, rfl⟩
  · exact ⟨_, _, rfl⟩

end Go.Cw
end

/- How a drive is read as an argument; the given statements of Tells and Pushes. -/
section
set_option maxRecDepth 100000
namespace Go.Cw
open Go Go.Proofs

section
variable {w : World} {μ : Mu}

theorem opens_int : Opens Pg w μ 3 fun av => ∃ n, (Lit.int .i64 n).wf = true ∧ av = [.int .i64 n] := Opens.int Try.underlying3 (by kernel_rfl)
theorem opens_ints : Opens Pg w μ 22 fun av => ∃ l : List Int, av = [L l] := Opens.ints Try.underlying22 (by kernel_rfl) Try.underlying3 (by kernel_rfl)
theorem opens_pairs : Opens Pg w μ 23 fun av => ∃ l : List (Int × Int), av = [LP l] :=
  Opens.prs Try.underlying23 (by kernel_rfl) (by kernel_rfl) (Opens.two Try.underlying68 (by kernel_rfl) Try.underlying3 (by kernel_rfl))
theorem opens_span : Opens Pg w μ 35 fun av => ∃ p : Int × Int, av = [.int .i64 p.1, .int .i64 p.2] := by
  refine (Opens.struct (Vs := [_, _]) Try.underlying35 (by kernel_rfl) ⟨rfl, opens_int, by kernel_rfl, opens_int, trivial⟩).mono ?_
  rintro av ⟨ass, h, rfl⟩
  obtain ⟨a, b, rfl, ⟨n, _, rfl⟩, ⟨m, _, rfl⟩⟩ := h.two
  exact ⟨(n, m), rfl⟩
theorem opens_spans : Opens Pg w μ 24 fun av => ∃ l : List (Int × Int), av = [LP l] := Opens.prs Try.underlying24 (by kernel_rfl) (by kernel_rfl) opens_span
theorem opens_drive : Opens Pg w μ 26 fun av => ∃ d : Drv, av = d.cells := by
  refine (Opens.struct (Vs := [_, _, _]) Try.underlying26 (by kernel_rfl) ⟨rfl, opens_ints, by kernel_rfl, opens_pairs, by kernel_rfl, opens_spans, trivial⟩).mono ?_
  rintro av ⟨ass, h, rfl⟩
  obtain ⟨a, b, c, rfl, ⟨l, rfl⟩, ⟨p, rfl⟩, ⟨q, rfl⟩⟩ := h.three
  exact ⟨⟨l, p, q⟩, rfl⟩
end

theorem kids : Kids Pg (· < Pg.types.size) := kids_rows (by kernel_rfl) (by kernel_rfl)
theorem slices_full : ∀ t e, t < Pg.types.size → Pg.underlying t = some (.slice e) → 0 < Pg.cellsOf e := slices_full_of Pg (by kernel_rfl)
theorem ownKnobNone : ownKnob Pg.godebug = none := by kernel_rfl

end Go.Cw
end
