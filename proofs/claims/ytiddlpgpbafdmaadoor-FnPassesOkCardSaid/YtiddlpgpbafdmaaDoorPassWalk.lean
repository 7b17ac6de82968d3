/- The walks of the two functions that find the earliest times. -/
import Derived.Test.YtiddlpgpbafdmaaDoorPass
import Derived.Test.YtiddlpgpbafdmaaDoorFurnWalk
import Derived.StillTailTactics
import Derived.RegionTactic
import Derived.Outline
namespace Go.Proofs.YtiddlpgpbafdmaaDoor
open Go.RowKit
set_option linter.unusedVariables false

theorem times_own {w : World} {base : Nat} {e : TypeId} {g n c R k : Nat} {p a b : Int} {xs : List (Int × Int)} {q : Int × Int} (hl : xs.length = n) (hxy : xs[k]? = some q)
    (h : w.ownsRow base e 2 (.slice (some ⟨g, 0, none⟩) n c) n (pairsV (passTimes R p (xs.take k) ++ List.replicate (n - k) (0, 0)))) (hq : passNext R p (passTimes R p (xs.take k)) q = (a, b)) :
    ((w.setCell ⟨g, k * 2, none⟩ (.int .i64 a)).setCell ⟨g, k * 2 + 1, none⟩ (.int .i64 b)).ownsRow base e 2 (.slice (some ⟨g, 0, none⟩) n c) n (pairsV (passTimes R p (xs.take (k + 1)) ++ List.replicate (n - (k + 1)) (0, 0))) := by
  have hk := (List.getElem?_eq_some_iff.1 hxy).1
  rw [← pt_fill hl hxy hq]
  exact own_set2 h (by have := pt_len (r := R) (p := p) (xs := xs) (k := k) (by omega); simp; omega)
theorem times_own0 {w : World} {base : Nat} {e : TypeId} {g n c R : Nat} {p a b : Int} {xs : List (Int × Int)} {q : Int × Int} (hl : xs.length = n) (hxy : xs[0]? = some q) (hR : 1 ≤ R)
    (h : w.ownsRow base e 2 (.slice (some ⟨g, 0, none⟩) n c) n (pairsV (passTimes R p (xs.take 0) ++ List.replicate (n - 0) (0, 0)))) (hq : (q.1, q.1 + q.2) = (a, b)) :
    ((w.setCell ⟨g, 0, none⟩ (.int .i64 a)).setCell ⟨g, 1, none⟩ (.int .i64 b)).ownsRow base e 2 (.slice (some ⟨g, 0, none⟩) n c) n (pairsV (passTimes R p (xs.take 1) ++ List.replicate (n - 1) (0, 0))) :=
  times_own (k := 0) hl hxy h ((passNext_nil R p q hR).trans hq)

set_option maxRecDepth 100000 in
set_option maxHeartbeats 1000000 in
theorem implTimes_ok (A : Option Addr) (n c : Nat) (xs : List (Int × Int)) (R : Nat) (p : Int) (w : World) (hl : xs.length = n) (hr : RdP w w.heap.size A xs) (hn : n ≤ 1048576) (hx : chargesOk xs = true) (hf : furnOk R p = true) :
    Calls Tryd.prog 38 #[.slice A n c, .agg #[.int .i64 R, .int .i64 p]] w (PairsRow 47 (passTimes R p xs) w) := by
  obtain ⟨i0, hi, hz0, hz1, hz2⟩ := info_parts info_Pass
  have HX := Lib.hid hx
  have HF := Lib.hid hf
  have HL := Lib.hid hl
  have hn8 := chargesOk_len hx
  obtain ⟨f1, f2, f3, f4⟩ := furnOk_iff.1 hf
  have hn8' : n ≤ 8 := by omega
  clear hl hn hn8
  go_enter Tryd.func38, Tryd.ntmps38
  go_wp2_with (fail)
  refine (implCharges_any _ _ _ xs _ HL.out (hr.up ((Below.refl _ _).alloc (Nat.le_refl _) _) (by simp)) (by omega)).mono ?_
  rintro e w1 ⟨rfl, hb1⟩
  have t1 := below_boxed hb1
  obtain ⟨hc1, hf1⟩ := bcell hb1
  have hz1' : w.heap.size < w1.heap.size := by have := hb1.size; simp at this; omega
  go_wp2_with (fail)
  refine (implFurn_any _ _ _).mono ?_
  rintro e w2 ⟨rfl, hb2⟩
  have t2 := below_next t1 hb2
  have hz2' : w.heap.size < w2.heap.size := by have := hb2.size; omega
  have q1 : w2.cell? ⟨w.heap.size, 0, none⟩ = some (.int .i64 R) := by rw [hb2.cell (by exact hz1'), hc1 _ _ (by simp)]; go_simp
  have q2 : w2.cell? ⟨w.heap.size, 1, none⟩ = some (.int .i64 p) := by rw [hb2.cell (by exact hz1'), hc1 _ _ (by simp)]; go_simp
  clear hc1 hf1 hb1 t1 hb2 hz1'
  go_wp2_with (at_make; refine wpList_make_full _ rfl _ _ 43 rfl (w.heap.size + 1) 47 i0 _ 2 Tryd.underlying43 hi hz0 hz1 .i64 .i64 _ _ n rfl rfl rfl rfl (by rw [hz2]; omega) (by unfold maxLen; omega) (by omega) ?_; intro w3 hown3 hgr3)
  rw [madeP] at hown3
  have q1' : w3.cell? ⟨w.heap.size, 0, none⟩ = some (.int .i64 R) := hgr3.cell q1 (by simp)
  have q2' : w3.cell? ⟨w.heap.size, 1, none⟩ = some (.int .i64 p) := hgr3.cell q2 (by simp)
  have t3 : Below w.heap.size w w3 := t2.grown hgr3 t2.size (by simp)
  clear hx hf q1 q2 hgr3 t2
  generalize hg : w2.heap.size = g at *
  clear hg w1 w2
  go_loopw [22] (fun i wr => ∃ k : Nat, k ≤ n ∧ i = .int .i64 k ∧ wr.ownsRow (w.heap.size + 1) 47 2 (.slice (some ⟨g, 0, none⟩) n n) n (pairsV (passTimes R p (xs.take k) ++ List.replicate (n - k) (0, 0))) ∧ Below w.heap.size w wr ∧ wr.cell? ⟨w.heap.size, 0, none⟩ = some (.int .i64 R) ∧ wr.cell? ⟨w.heap.size, 1, none⟩ = some (.int .i64 p)) (fun i _ => n - (intOf i).toNat)
  case atStart => exact ⟨0, Nat.zero_le _, rfl, by simpa [passTimes] using hown3, t3, q1', q2'⟩
  case round =>
    obtain ⟨k, hk, rfl, hown, hbel, c1, c2⟩ := hrel
    clear hown3 q1' q2' t3
    have hsz := hbel.size
    have hgs := (hown.lt g rfl).2
    have hws : w.heap.size < wr.heap.size := by omega
    have f1' := hown.frozenAt
    by_cases hlt : k < n
    · obtain ⟨⟨x, y⟩, hxy⟩ : ∃ q, xs[k]? = some q := ⟨_, List.getElem?_eq_getElem (by have := HL.out; omega)⟩
      obtain ⟨b, off, rfl, hbB, hc1, hc2⟩ := hr k x y hxy
      obtain ⟨x0, x1, y0, y1⟩ := chargesOk_get HX.out hxy
      have HXY := Lib.hid hxy
      clear hxy hr
      rw [← hbel.cell (by exact hbB)] at hc1 hc2
      rcases k with _ | m
      · obtain ⟨u1, g1⟩ : ∃ u, wr.cell? ⟨g, 0, none⟩ = some u := ⟨_, (hown.cellAt 0 (by omega)).trans (List.getElem?_eq_getElem (by have := hown.1; omega))⟩
        obtain ⟨u2, g2⟩ : ∃ u, wr.cell? ⟨g, 1, none⟩ = some u := ⟨_, (hown.cellAt 1 (by omega)).trans (List.getElem?_eq_getElem (by have := hown.1; omega))⟩
        simp only [Nat.zero_mul, Nat.add_zero] at hc1 hc2
        simp only [show ((0 : Nat) : Int) = 0 from rfl]
        have hR : (0 : Int) < (R : Int) := by omega
        go_wp2
        go_roundw
        case rel =>
          refine ⟨1, by omega, by go_num, ?_, (by repeat' (first | exact Below.refl _ _ | assumption | refine Below.alloc ?_ (by first | omega | (simp; done) | (simp; omega)) _ | refine Below.setCell ?_ (by first | omega | (simp; done) | (simp; omega)) _ | refine Below.drew ?_ | refine below_drawn ?_ _)), ?_, ?_⟩
          · repeat' (first | apply own_drew | refine World.ownsRow.alloc ?_ _)
            exact times_own0 HL.out HXY.out (by omega) hown rfl
          · go_simp
          · go_simp
        case measure => simp [intOf]; omega
      · have hal := pt_len (r := R) (p := p) (xs := xs) (k := m + 1) (by have := HL.out; omega)
        obtain ⟨⟨lx, ly⟩, hlast⟩ : ∃ q, (passTimes R p (xs.take (m + 1)))[m]? = some q := ⟨_, List.getElem?_eq_getElem (by omega)⟩
        obtain ⟨l0, l1, l2⟩ := passTimes_bounds HX.out HF.out hlast
        obtain ⟨u1, g1⟩ : ∃ u, wr.cell? ⟨g, (m + 1) * 2, none⟩ = some u := ⟨_, (hown.cellAt _ (by omega)).trans (List.getElem?_eq_getElem (by have := hown.1; omega))⟩
        obtain ⟨u2, g2⟩ : ∃ u, wr.cell? ⟨g, (m + 1) * 2 + 1, none⟩ = some u := ⟨_, (hown.cellAt _ (by omega)).trans (List.getElem?_eq_getElem (by have := hown.1; omega))⟩
        have hpl := pairsV_get (xs := passTimes R p (xs.take (m + 1)) ++ List.replicate (n - (m + 1)) (0, 0)) (j := m) (by rw [List.getElem?_append_left (by omega)]; exact hlast)
        have g3 := (hown.cellAt (m * 2) (by omega)).trans hpl.1
        have g4 := (hown.cellAt (m * 2 + 1) (by omega)).trans hpl.2
        have HQ : Hid (R ≤ m + 1 → ∃ rx ry : Int, (passTimes R p (xs.take (m + 1)))[m + 1 - R]? = some (rx, ry) ∧ 0 ≤ rx ∧ rx ≤ ry ∧ ry ≤ 1791 ∧ wr.cell? ⟨g, (m + 1 - R) * 2 + 1, none⟩ = some (.int .i64 ry)) := fun hRm => by
          obtain ⟨⟨rx, ry⟩, hq⟩ : ∃ q, (passTimes R p (xs.take (m + 1)))[m + 1 - R]? = some q := ⟨_, List.getElem?_eq_getElem (by omega)⟩
          obtain ⟨r0, r1, r2⟩ := passTimes_bounds HX.out HF.out hq
          have hpr := pairsV_get (xs := passTimes R p (xs.take (m + 1)) ++ List.replicate (n - (m + 1)) (0, 0)) (j := m + 1 - R) (by rw [List.getElem?_append_left (by omega)]; exact hq)
          exact ⟨rx, ry, hq, r0, r1, r2, (hown.cellAt ((m + 1 - R) * 2 + 1) (by omega)).trans hpr.2⟩
        have HN := Lib.hid hal
        have HT := Lib.hid hlast
        clear hpl hal hlast
        by_cases hR : (m : Int) + 1 < (R : Int)
        · go_wp2
          go_region
          all_goals go_wp2
          all_goals go_region
          all_goals go_wp2
          all_goals go_roundw
          all_goals first | (simp [intOf]; omega; done) | skip
          all_goals
            refine ⟨m + 2, by omega, by go_num, ?_, (by repeat' (first | exact Below.refl _ _ | assumption | refine Below.alloc ?_ (by first | omega | (simp; done) | (simp; omega)) _ | refine Below.setCell ?_ (by first | omega | (simp; done) | (simp; omega)) _ | refine Below.drew ?_ | refine below_drawn ?_ _)), by go_simp, by go_simp⟩
            repeat' (first | apply own_drew | refine World.ownsRow.alloc ?_ _)
            refine times_own HL.out HXY.out hown ?_
            rw [passNext_few HN.out HT.out (by omega)]
            simp only [Prod.mk.injEq]
            constructor <;> (repeat' split) <;> omega
        · obtain ⟨rx, ry, hq, r0, r1, r2, g5⟩ := HQ.out (by omega)
          have HQ' := Lib.hid hq
          clear hq HQ
          go_wp2
          go_region
          all_goals go_wp2
          all_goals go_region
          all_goals go_wp2
          all_goals go_region
          all_goals go_wp2
          all_goals go_roundw
          all_goals first | (simp [intOf]; omega; done) | skip
          all_goals
            refine ⟨m + 2, by omega, by go_num, ?_, (by repeat' (first | exact Below.refl _ _ | assumption | refine Below.alloc ?_ (by first | omega | (simp; done) | (simp; omega)) _ | refine Below.setCell ?_ (by first | omega | (simp; done) | (simp; omega)) _ | refine Below.drew ?_ | refine below_drawn ?_ _)), by go_simp, by go_simp⟩
            repeat' (first | apply own_drew | refine World.ownsRow.alloc ?_ _)
            refine times_own HL.out HXY.out hown ?_
            rw [passNext_full HN.out HT.out (by omega) HQ'.out]
            simp only [Prod.mk.injEq]
            constructor <;> (repeat' split) <;> omega
    · go_wp2
      go_ret
      have : k = n := by omega
      subst this
      have h := hown
      rw [List.take_of_length_le (Nat.le_of_eq HL.out), Nat.sub_self, List.replicate_zero, List.append_nil] at h
      exact PairsRow.mk (by rw [passTimes_length]; exact HL.out) (by omega) h hbel

theorem implTimes_no (A : Option Addr) (n c : Nat) (xs : List (Int × Int)) (r p : Int) (w : World) (hl : xs.length = n) (hr : RdP w w.heap.size A xs) (hn : n ≤ 1048576) (hx : (chargesOk xs && furnOk r p) = false) :
    Calls Tryd.prog 38 #[.slice A n c, .agg #[.int .i64 r, .int .i64 p]] w (PairsRow 47 [] w) := by
  have hr' := hr.up ((Below.refl _ _).alloc (Nat.le_refl _) (.cells #[.int .i64 r, .int .i64 p] 24)) (B' := w.heap.size + 1) (by omega)
  cases h1 : chargesOk xs
  · go_enter Tryd.func38, Tryd.ntmps38
    go_wp2_with (fail)
    refine (implCharges_any _ _ _ xs _ hl (hr.up ((Below.refl _ _).alloc (Nat.le_refl _) _) (by simp)) (by omega)).mono ?_
    rintro e w1 ⟨rfl, hb1⟩
    have t1 := below_boxed hb1
    go_wp2
    go_ret
    exact PairsRow.nil t1
  · have h2 : furnOk r p = false := by rw [h1] at hx; simpa using hx
    go_enter Tryd.func38, Tryd.ntmps38
    go_wp2_with (fail)
    refine (implCharges_any _ _ _ xs _ hl (hr.up ((Below.refl _ _).alloc (Nat.le_refl _) _) (by simp)) (by omega)).mono ?_
    rintro e w1 ⟨rfl, hb1⟩
    have t1 := below_boxed hb1
    obtain ⟨hc1, hf1⟩ := bcell hb1
    have hz1' : w.heap.size < w1.heap.size := by have := hb1.size; simp at this; omega
    go_wp2_with (fail)
    refine (implFurn_any _ _ _).mono ?_
    rintro e w2 ⟨rfl, hb2⟩
    have t2 := below_next t1 hb2
    go_wp2
    go_ret
    exact PairsRow.nil t2

theorem implTimes_any (A : Option Addr) (n c : Nat) (xs : List (Int × Int)) (r p : Int) (w : World) (hl : xs.length = n) (hr : RdP w w.heap.size A xs) (hn : n ≤ 1048576) :
    Calls Tryd.prog 38 #[.slice A n c, .agg #[.int .i64 r, .int .i64 p]] w (PairsRow 47 (timesOf xs r p) w) := by
  cases h : chargesOk xs && furnOk r p
  · rw [timesOf_no h]
    exact implTimes_no A n c xs r p w hl hr hn h
  · obtain ⟨h1, h2⟩ := Bool.and_eq_true_iff.1 h
    obtain ⟨f1, _⟩ := furnOk_iff.1 h2
    obtain ⟨R, rfl⟩ : ∃ R : Nat, r = R := ⟨r.toNat, by omega⟩
    rw [timesOf_ok h]
    exact implTimes_ok A n c xs R p w hl hr hn h1 h2
end Go.Proofs.YtiddlpgpbafdmaaDoor
