/- The walk of the reference's function that finds the earliest times. -/
import Derived.Test.YtiddlpgpbafdmaaDoorPassWalk
import Derived.Test.YtiddlpgpbafdmaaDoorAppend
import Derived.Deep.DeepMust
namespace Go.Proofs.YtiddlpgpbafdmaaDoor
open Go.RowKit
set_option linter.unusedVariables false

/-- what one round of the reference's loop leaves -/
theorem spec_round {w wr W w1 : World} {E : TypeId} {A' A1 : Option Addr} {c' cc1 n k R : Nat} {p a b : Int} {xs : List (Int × Int)} {q : Int × Int} {i : Value}
    (hxy : xs[k]? = some q) (hq : passNext R p (passTimes R p (xs.take k)) q = (a, b)) (hbel : Below w.heap.size w wr) (hws1 : w.heap.size + 1 < wr.heap.size) (hk : k + 1 ≤ n)
    (c1 : wr.cell? ⟨w.heap.size, 0, none⟩ = some (.int .i64 R)) (c2 : wr.cell? ⟨w.heap.size, 1, none⟩ = some (.int .i64 p))
    (hown : wr.ownsRow (w.heap.size + 1) E 2 (.slice A' k c') k (pairsV (passTimes R p (xs.take k))))
    (hown1 : w1.ownsRow (w.heap.size + 1) E 2 (.slice A1 (k + 1) cc1) (k + 1) (pairsV (passTimes R p (xs.take k) ++ [(a, b)])))
    (hgr1 : W.grownBy w1 (Value.slice A' k c').ownBlock)
    (hW : Below w.heap.size w W ∧ W.cell? ⟨w.heap.size, 0, none⟩ = some (.int .i64 R) ∧ W.cell? ⟨w.heap.size, 1, none⟩ = some (.int .i64 p) ∧ w.heap.size + 1 < W.heap.size)
    (ho : W.ownsRow (w.heap.size + 1) E 2 (.slice A' k c') k (pairsV (passTimes R p (xs.take k)))) (hi : i = .int .i64 ((k + 1 : Nat) : Int)) :
    ∃ (k' : Nat) (A'' : Option Addr) (c'' : Nat), k' ≤ n ∧ i = .int .i64 k' ∧ Value.slice A1 (k + 1) cc1 = .slice A'' k' c'' ∧ w1.ownsRow (w.heap.size + 1) E 2 (.slice A'' k' c'') k' (pairsV (passTimes R p (xs.take k'))) ∧ Below w.heap.size w w1 ∧ w.heap.size + 1 < w1.heap.size ∧ w1.cell? ⟨w.heap.size, 0, none⟩ = some (.int .i64 R) ∧ w1.cell? ⟨w.heap.size, 1, none⟩ = some (.int .i64 p) := by
  obtain ⟨h1, h2, h3, h4⟩ := hW
  refine ⟨k + 1, A1, cc1, hk, hi, rfl, ?_, ?_, ?_, ?_, ?_⟩
  · rw [passTimes_take hxy, hq]; exact hown1
  · exact below_append h1 hgr1 ho (by omega) (by omega)
  · have := hgr1.size; omega
  · exact cell_append h2 hgr1 ho (by simp)
  · exact cell_append h3 hgr1 ho (by simp)

set_option maxRecDepth 100000 in
set_option maxHeartbeats 1000000 in
theorem specTimes_ok (A : Option Addr) (n c : Nat) (xs : List (Int × Int)) (R : Nat) (p : Int) (w : World) (hl : xs.length = n) (hr : RdP w w.heap.size A xs) (hn : n ≤ 1048576) (hx : chargesOk xs = true) (hf : furnOk R p = true) :
    Calls Tryd.prog 40 #[.slice A n c, .agg #[.int .i64 R, .int .i64 p]] w (PairsRow 47 (passTimes R p xs) w) := by
  obtain ⟨i0, hi, hz0, hz1, hz2⟩ := info_parts info_Pass
  have HX := Lib.hid hx
  have HF := Lib.hid hf
  have HL := Lib.hid hl
  have hn8 := chargesOk_len hx
  obtain ⟨f1, f2, f3, f4⟩ := furnOk_iff.1 hf
  have hn8' : n ≤ 8 := by omega
  clear hl hn hn8
  go_enter Tryd.func40, Tryd.ntmps40
  go_wp2_with (fail)
  refine (specCharges_any _ _ _ xs _ HL.out (hr.up (((Below.refl _ _).alloc (Nat.le_refl _) _).alloc (by simp) _) (by simp; omega)) (by omega)).mono ?_
  rintro e w' ⟨rfl, rfl⟩
  go_wp2_with (fail)
  refine (specFurn_any _ _ _).mono ?_
  rintro e w2 ⟨rfl, hb2⟩
  have t2 : Below w.heap.size w w2 := (((Below.refl _ _).alloc (Nat.le_refl _) _).alloc (by simp) _).trans (hb2.mono (by simp; omega))
  have hz2' : w.heap.size + 1 < w2.heap.size := by have := hb2.size; simp at this; omega
  have q1 : w2.cell? ⟨w.heap.size, 0, none⟩ = some (.int .i64 R) := by rw [hb2.cell (by simp; omega)]; go_simp
  have q2 : w2.cell? ⟨w.heap.size, 1, none⟩ = some (.int .i64 p) := by rw [hb2.cell (by simp; omega)]; go_simp
  have hown2 : w2.ownsRow (w.heap.size + 1) 47 2 (.slice (some ⟨w.heap.size + 1, 0, none⟩) 0 0) 0 [] := by
    have h := own_below (World.ownsRow_made (e := 47) (size := 2) (base := w.heap.size + 1) (w.alloc (.cells #[.int .i64 R, .int .i64 p] 24)) #[] 0 (by simp) (Nat.zero_le _) rfl) hb2
    simpa using h
  clear hb2
  go_wp2_with (fail)
  clear hx hf
  go_loopw [5, 6] (fun v i wr => ∃ (k : Nat) (A' : Option Addr) (c' : Nat), k ≤ n ∧ i = .int .i64 k ∧ v = .slice A' k c' ∧ wr.ownsRow (w.heap.size + 1) 47 2 (.slice A' k c') k (pairsV (passTimes R p (xs.take k))) ∧ Below w.heap.size w wr ∧ w.heap.size + 1 < wr.heap.size ∧ wr.cell? ⟨w.heap.size, 0, none⟩ = some (.int .i64 R) ∧ wr.cell? ⟨w.heap.size, 1, none⟩ = some (.int .i64 p)) (fun _ i _ => n - (intOf i).toNat)
  case atStart => exact ⟨0, _, _, Nat.zero_le _, rfl, rfl, by simpa [passTimes, pairsV] using hown2, t2, hz2', q1, q2⟩
  case round =>
    obtain ⟨k, A', c', hk, rfl, rfl, hown, hbel, hws1, c1, c2⟩ := hrel
    clear hown2 q1 q2 t2 hz2'
    have hsz := hbel.size
    have hws : w.heap.size < wr.heap.size := by omega
    by_cases hlt : k < n
    · obtain ⟨⟨x, y⟩, hxy⟩ : ∃ q, xs[k]? = some q := ⟨_, List.getElem?_eq_getElem (by have := HL.out; omega)⟩
      obtain ⟨b, off, rfl, hbB, hc1, hc2⟩ := hr k x y hxy
      obtain ⟨x0, x1, y0, y1⟩ := chargesOk_get HX.out hxy
      have HXY := Lib.hid hxy
      clear hxy hr
      rw [← hbel.cell (by exact hbB)] at hc1 hc2
      have hbw : b < wr.heap.size := by omega
      rcases k with _ | m
      · simp only [Nat.zero_mul, Nat.add_zero] at hc1 hc2
        simp only [show ((0 : Nat) : Int) = 0 from rfl]
        have hR : (0 : Int) < (R : Int) := by omega
        go_wp2_with (fail)
        go_region
        go_wp2_with (at_builtin; go_must (refine wpList_append_pair _ rfl (.tmp 82) (.tmp 84) 43 rfl (w.heap.size + 1) 47 i0 Tryd.underlying43 hi hz0 hz1 hz2 (.slice A' 0 c') 0 (passTimes R p (xs.take 0)) rfl (own_drew ((hown.alloc _).alloc _)) (wr.heap.size + 1) (Newest.drew_ (Newest.alloc_ (by simp))) rfl (by omega) (by simp; omega) ?_); intro A1 cc1 w1 hown1 hgr1)
        go_roundw
        case rel => exact spec_round (k := 0) HXY.out (passNext_nil R p (x, y) (by omega)) hbel hws1 (by omega) c1 c2 hown hown1 hgr1 ⟨(by repeat' (first | exact Below.refl _ _ | assumption | refine Below.alloc ?_ (by first | omega | (simp; done) | (simp; omega)) _ | refine Below.setCell ?_ (by first | omega | (simp; done) | (simp; omega)) _ | refine Below.drew ?_ | refine below_drawn ?_ _)), by go_simp, by go_simp, by simp; omega⟩ (own_drew ((hown.alloc _).alloc _)) (by go_num)
        case measure => simp [intOf]; omega
      · obtain ⟨g, c9, hv, hgb, hgs⟩ := own_form hown (by omega)
        injection hv with hA _ hcc
        subst hA hcc
        have hal := pt_len (r := R) (p := p) (xs := xs) (k := m + 1) (by have := HL.out; omega)
        obtain ⟨⟨lx, ly⟩, hlast⟩ : ∃ q, (passTimes R p (xs.take (m + 1)))[m]? = some q := ⟨_, List.getElem?_eq_getElem (by omega)⟩
        obtain ⟨l0, l1, l2⟩ := passTimes_bounds HX.out HF.out hlast
        have hpl := pairsV_get hlast
        have g3 := (hown.cellAt (m * 2) (by omega)).trans hpl.1
        have g4 := (hown.cellAt (m * 2 + 1) (by omega)).trans hpl.2
        have HQ : Hid (R ≤ m + 1 → ∃ rx ry : Int, (passTimes R p (xs.take (m + 1)))[m + 1 - R]? = some (rx, ry) ∧ 0 ≤ rx ∧ rx ≤ ry ∧ ry ≤ 1791 ∧ wr.cell? ⟨g, (m + 1 - R) * 2 + 1, none⟩ = some (.int .i64 ry)) := fun hRm => by
          obtain ⟨⟨rx, ry⟩, hq⟩ : ∃ q, (passTimes R p (xs.take (m + 1)))[m + 1 - R]? = some q := ⟨_, List.getElem?_eq_getElem (by omega)⟩
          obtain ⟨r0, r1, r2⟩ := passTimes_bounds HX.out HF.out hq
          have hpr := pairsV_get hq
          exact ⟨rx, ry, hq, r0, r1, r2, (hown.cellAt ((m + 1 - R) * 2 + 1) (by omega)).trans hpr.2⟩
        have HN := Lib.hid hal
        have HT := Lib.hid hlast
        clear hpl hal hlast
        by_cases hR : (m : Int) + 1 < (R : Int)
        · go_wp2_with (fail)
          go_region
          all_goals go_wp2_with (fail)
          all_goals go_region
          all_goals go_wp2_with (fail)
          all_goals go_region
          all_goals go_wp2_with (at_builtin; go_must (refine wpList_append_pair _ rfl (.tmp 82) (.tmp 84) 43 rfl (w.heap.size + 1) 47 i0 Tryd.underlying43 hi hz0 hz1 hz2 (.slice (some ⟨g, 0, none⟩) (m + 1) c') (m + 1) (passTimes R p (xs.take (m + 1))) rfl (own_drew (own_drew (own_drew ((hown.alloc _).alloc _)))) (wr.heap.size + 1) (Newest.drew_ (Newest.drew_ (Newest.drew_ (Newest.alloc_ (by simp))))) rfl (by omega) (by simp; omega) ?_); intro A1 cc1 w1 hown1 hgr1)
          all_goals go_roundw
          all_goals first | (simp [intOf]; omega; done) | skip
          all_goals
            refine spec_round (k := m + 1) HXY.out (a := _) (b := _) ?_ hbel hws1 (by omega) c1 c2 hown hown1 hgr1 ⟨(by repeat' (first | exact Below.refl _ _ | assumption | refine Below.alloc ?_ (by first | omega | (simp; done) | (simp; omega)) _ | refine Below.setCell ?_ (by first | omega | (simp; done) | (simp; omega)) _ | refine Below.drew ?_ | refine below_drawn ?_ _)), by go_simp, by go_simp, by simp; omega⟩ (own_drew (own_drew (own_drew ((hown.alloc _).alloc _)))) (by go_num)
            rw [passNext_few HN.out HT.out (by omega)]
            simp only [Prod.mk.injEq]
            constructor <;> (repeat' split) <;> omega
        · obtain ⟨rx, ry, hq, r0, r1, r2, g5⟩ := HQ.out (by omega)
          have HQ' := Lib.hid hq
          clear hq HQ
          go_wp2_with (fail)
          go_region
          all_goals go_wp2_with (fail)
          all_goals go_region
          all_goals go_wp2_with (fail)
          all_goals go_region
          all_goals go_wp2_with (fail)
          all_goals go_region
          all_goals go_wp2_with (at_builtin; go_must (refine wpList_append_pair _ rfl (.tmp 82) (.tmp 84) 43 rfl (w.heap.size + 1) 47 i0 Tryd.underlying43 hi hz0 hz1 hz2 (.slice (some ⟨g, 0, none⟩) (m + 1) c') (m + 1) (passTimes R p (xs.take (m + 1))) rfl (own_drew (own_drew (own_drew (own_drew ((hown.alloc _).alloc _))))) (wr.heap.size + 1) (Newest.drew_ (Newest.drew_ (Newest.drew_ (Newest.drew_ (Newest.alloc_ (by simp)))))) rfl (by omega) (by simp; omega) ?_); intro A1 cc1 w1 hown1 hgr1)
          all_goals go_roundw
          all_goals first | (simp [intOf]; omega; done) | skip
          all_goals
            refine spec_round (k := m + 1) HXY.out (a := _) (b := _) ?_ hbel hws1 (by omega) c1 c2 hown hown1 hgr1 ⟨(by repeat' (first | exact Below.refl _ _ | assumption | refine Below.alloc ?_ (by first | omega | (simp; done) | (simp; omega)) _ | refine Below.setCell ?_ (by first | omega | (simp; done) | (simp; omega)) _ | refine Below.drew ?_ | refine below_drawn ?_ _)), by go_simp, by go_simp, by simp; omega⟩ (own_drew (own_drew (own_drew (own_drew ((hown.alloc _).alloc _))))) (by go_num)
            rw [passNext_full HN.out HT.out (by omega) HQ'.out]
            simp only [Prod.mk.injEq]
            constructor <;> (repeat' split) <;> omega
    · go_wp2
      go_ret
      have : k = n := by omega
      subst this
      have h := hown
      rw [List.take_of_length_le (Nat.le_of_eq HL.out)] at h
      exact PairsRow.mk (by rw [passTimes_length]; exact HL.out) (by omega) h hbel

theorem row_empty {w w' : World} {E : TypeId} {o : Obj} (h : Below ((w.alloc o).alloc (.cells #[] E)).heap.size ((w.alloc o).alloc (.cells #[] E)) w') :
    PairsRow E [] w (.returned (.slice (some ⟨w.heap.size + 1, 0, none⟩) 0 0)) w' := by
  have h0 := own_below (World.ownsRow_made (e := E) (size := 2) (base := w.heap.size) (w.alloc o) #[] 0 (by simp) (Nat.zero_le _) rfl) h
  exact PairsRow.mk (L := []) (base := w.heap.size) rfl (Nat.le_refl _) (by simpa [pairsV] using h0) ((((Below.refl _ _).alloc (Nat.le_refl _) _).alloc (by simp) _).trans (h.mono (by simp; omega)))

theorem specTimes_no (A : Option Addr) (n c : Nat) (xs : List (Int × Int)) (r p : Int) (w : World) (hl : xs.length = n) (hr : RdP w w.heap.size A xs) (hn : n ≤ 1048576) (hx : (chargesOk xs && furnOk r p) = false) :
    Calls Tryd.prog 40 #[.slice A n c, .agg #[.int .i64 r, .int .i64 p]] w (PairsRow 47 [] w) := by
  cases h1 : chargesOk xs
  · go_enter Tryd.func40, Tryd.ntmps40
    go_wp2_with (fail)
    refine (specCharges_any _ _ _ xs _ hl (hr.up (((Below.refl _ _).alloc (Nat.le_refl _) _).alloc (by simp) _) (by simp; omega)) (by omega)).mono ?_
    rintro e w' ⟨rfl, rfl⟩
    go_wp2
    go_ret
    exact row_empty (Below.refl _ _)
  · have h2 : furnOk r p = false := by rw [h1] at hx; simpa using hx
    go_enter Tryd.func40, Tryd.ntmps40
    go_wp2_with (fail)
    refine (specCharges_any _ _ _ xs _ hl (hr.up (((Below.refl _ _).alloc (Nat.le_refl _) _).alloc (by simp) _) (by simp; omega)) (by omega)).mono ?_
    rintro e w' ⟨rfl, rfl⟩
    go_wp2_with (fail)
    refine (specFurn_any _ _ _).mono ?_
    rintro e w2 ⟨rfl, hb2⟩
    go_wp2
    go_ret
    exact row_empty hb2

theorem specTimes_any (A : Option Addr) (n c : Nat) (xs : List (Int × Int)) (r p : Int) (w : World) (hl : xs.length = n) (hr : RdP w w.heap.size A xs) (hn : n ≤ 1048576) :
    Calls Tryd.prog 40 #[.slice A n c, .agg #[.int .i64 r, .int .i64 p]] w (PairsRow 47 (timesOf xs r p) w) := by
  cases h : chargesOk xs && furnOk r p
  · rw [timesOf_no h]
    exact specTimes_no A n c xs r p w hl hr hn h
  · obtain ⟨h1, h2⟩ := Bool.and_eq_true_iff.1 h
    obtain ⟨f1, _⟩ := furnOk_iff.1 h2
    obtain ⟨R, rfl⟩ : ∃ R : Nat, r = R := ⟨r.toNat, by omega⟩
    rw [timesOf_ok h]
    exact specTimes_ok A n c xs R p w hl hr hn h1 h2
end Go.Proofs.YtiddlpgpbafdmaaDoor
