/- 'SplitEnd': the walks of the program's and the reference's function. -/
import Derived.Test.YtiddlpgpbafdmaaDoorSplitPlain
import Derived.Test.YtiddlpgpbafdmaaDoorPassEnd
import Derived.Test.YtiddlpgpbafdmaaDoorOwnApart
import Derived.Deep.RegionHeld3
import Derived.Deep.DeepMust
namespace Go.Proofs.YtiddlpgpbafdmaaDoor
open Go.RowKit
set_option linter.unusedVariables false
theorem RdP.drew_ {w : World} {A : Option Addr} {xs : List (Int × Int)} (h : RdP w w.heap.size A xs) : RdP w.drew w.drew.heap.size A xs := h
set_option maxRecDepth 100000 in
set_option maxHeartbeats 4000000 in
theorem specSet_any (A : Option Addr) (n c : Nat) (xs : List (Int × Int)) (s bt : Int) (w : World) (hl : xs.length = n) (hr : RdP w w.heap.size A xs) (hn : n ≤ 8) (hs : 0 ≤ s) :
    Calls Tryd.prog 64 #[.slice A n c, .int .i64 s, .int .i64 bt] w (PairsRow 39 (selTo xs s bt n) w) := by
  obtain ⟨i0, hi, hz0, hz1, hz2⟩ := info_parts info_Charge
  have HL := Lib.hid hl
  clear hl
  have HO := Lib.hid (World.ownsRow_made (e := 39) (size := 2) (base := w.heap.size) w #[] 0 (Nat.le_refl _) (Nat.zero_le _) rfl)
  go_enter Tryd.func64, Tryd.ntmps64
  go_wp2
  go_loopw [7, 8] (fun v i wr => ∃ (k m : Nat) (A' : Option Addr) (c' : Nat), k ≤ n ∧ i = .int .i64 k ∧ v = .slice A' m c' ∧ Hid ((selTo xs s bt k).length = m) ∧ m ≤ k ∧ wr.ownsRow w.heap.size 39 2 (.slice A' m c') m (pairsV (selTo xs s bt k)) ∧ Below w.heap.size w wr) (fun _ i _ => n - (intOf i).toNat)
  case atStart => exact ⟨0, 0, _, _, Nat.zero_le _, rfl, rfl, Lib.hid rfl, Nat.le_refl _, (by simpa [selTo, pairsV] using HO.out), (by repeat' (first | exact Below.refl _ _ | assumption | refine Below.alloc ?_ (by first | omega | (simp; done) | (simp; omega)) _ | refine Below.setCell ?_ (by first | omega | (simp; done) | (simp; omega)) _ | refine Below.drew ?_ | refine below_drawn ?_ _))⟩
  case round =>
    obtain ⟨k, m, A', c', hk, rfl, rfl, HM, hmk, hown, hbel⟩ := hrel
    have hsz := hbel.size
    by_cases hlt : k < n
    · obtain ⟨⟨x, y⟩, hxy⟩ : ∃ q, xs[k]? = some q := ⟨_, List.getElem?_eq_getElem (by rw [HL.out]; omega)⟩
      obtain ⟨b, off, rfl, hbB, hc1, hc2⟩ := hr k x y hxy
      rw [← hbel.cell (by exact hbB)] at hc1 hc2
      have HXY := Lib.hid hxy
      clear hxy hr
      by_cases s1 : bitI s k = bt
      · have hd : ((s / 2 ^ k).tmod 2 == bt) = true := by rw [tmod_bit k hs]; simpa using s1
        have HS := Lib.hid (selTo_yes HXY.out s1)
        have HOWN := Lib.hid hown
        clear hown s1
        go_wp2_with (at_builtin; go_must (refine wpList_append_pair _ rfl (.tmp 22) (.tmp 27) 35 rfl w.heap.size 39 i0 Tryd.underlying35 hi hz0 hz1 hz2 (.slice A' m c') m (selTo xs s bt k) rfl (HOWN.out.alloc _) wr.heap.size (Newest.alloc_ rfl) rfl (by omega) (by simp; omega) ?_); intro A9 cc9 w9 hown9 hgr9)
        have tt := below_append (B := w.heap.size) (a := w) (by repeat' (first | exact Below.refl _ _ | assumption | refine Below.alloc ?_ (by first | omega | (simp; done) | (simp; omega)) _ | refine Below.setCell ?_ (by first | omega | (simp; done) | (simp; omega)) _ | refine Below.drew ?_ | refine below_drawn ?_ _)) hgr9 (HOWN.out.alloc _) (by simp; omega) (Nat.le_refl _)
        have HTT := Lib.hid tt
        have HO9 := Lib.hid hown9
        clear hown9 hgr9 tt
        go_roundw
        case rel => exact ⟨k + 1, m + 1, A9, cc9, by omega, by go_num, rfl, Lib.hid (by rw [HS.out]; simp [HM.out]), by omega, by rw [HS.out]; exact HO9.out, HTT.out⟩
        case measure => simp [intOf] <;> omega
      · have hd : ((s / 2 ^ k).tmod 2 == bt) = false := by rw [tmod_bit k hs]; simpa using s1
        have HS := Lib.hid (selTo_no HXY.out s1)
        clear s1
        go_wp2
        go_roundw
        case rel => exact ⟨k + 1, m, A', c', by omega, by go_num, rfl, Lib.hid (by rw [HS.out]; exact HM.out), by omega, by rw [HS.out]; exact hown, hbel⟩
        case measure => simp [intOf] <;> omega
    · go_wp2
      go_ret
      obtain rfl : k = n := by omega
      exact PairsRow.mk HM.out (Nat.le_refl _) hown hbel
set_option maxRecDepth 100000 in
set_option maxHeartbeats 8000000 in
theorem implSplit_any (A : Option Addr) (n c : Nat) (xs : List (Int × Int)) (r p s : Int) (w : World) (hl : xs.length = n) (hr : RdP w w.heap.size A xs) (hn : n ≤ 1048576) :
    Calls Tryd.prog 48 #[.slice A n c, .agg #[.int .i64 r, .int .i64 p], .int .i64 s] w fun e w' => e = .returned (.int .i64 (splitEnd xs r p s)) ∧ Below w.heap.size w w' := by
  obtain ⟨i0, hi, hz0, hz1, hz2⟩ := info_parts info_Charge
  have HL := Lib.hid hl
  clear hl
  cases h1 : chargesOk xs
  · go_enter Tryd.func48, Tryd.ntmps48
    go_wp2_with (fail)
    refine (implCharges_any _ _ _ xs _ HL.out (hr.up ((Below.refl _ _).alloc (Nat.le_refl _) _) (by simp)) (by omega)).mono ?_
    rintro e w1 ⟨rfl, hb1⟩
    have t1 := below_boxed hb1
    go_wp2
    go_ret
    exact ⟨ret_int (splitEnd_1 h1).symm, t1⟩
  have hn8 : n ≤ 8 := by have := chargesOk_len h1; rw [HL.out] at this; exact this
  cases h2 : furnOk r p
  · go_enter Tryd.func48, Tryd.ntmps48
    go_wp2_with (fail)
    refine (implCharges_any _ _ _ xs _ HL.out (hr.up ((Below.refl _ _).alloc (Nat.le_refl _) _) (by simp)) (by omega)).mono ?_
    rintro e w1 ⟨rfl, hb1⟩
    have t1 := below_boxed hb1
    obtain ⟨hc1, hf1⟩ := bcell hb1
    have hz1' : w.heap.size < w1.heap.size := by have := hb1.size; simp at this; omega
    go_wp2_with (fail)
    refine (implFurn_any _ _ _).mono ?_
    rintro e w2 ⟨rfl, hb2⟩
    have t2 := below_next t1 hb2
    go_wp2
    go_ret
    exact ⟨ret_int (splitEnd_2 h2).symm, t2⟩
  obtain ⟨hp1, hp2⟩ := pow2_bounds hn8
  cases h3 : inB s 0 (2 ^ n - 1)
  · go_enter Tryd.func48, Tryd.ntmps48
    go_wp2_with (fail)
    refine (implCharges_any _ _ _ xs _ HL.out (hr.up ((Below.refl _ _).alloc (Nat.le_refl _) _) (by simp)) (by omega)).mono ?_
    rintro e w1 ⟨rfl, hb1⟩
    have t1 := below_boxed hb1
    obtain ⟨hc1, hf1⟩ := bcell hb1
    have hz1' : w.heap.size < w1.heap.size := by have := hb1.size; simp at this; omega
    go_wp2_with (fail)
    refine (implFurn_any _ _ _).mono ?_
    rintro e w2 ⟨rfl, hb2⟩
    have t2 := below_next t1 hb2
    go_wp2_with (fail)
    refine (within_any s 0 (2 ^ n - 1) _).mono ?_
    rintro e w' ⟨rfl, rfl⟩
    go_wp2
    go_ret
    exact ⟨ret_int (splitEnd_3 HL.out h3).symm, t2⟩
  have s0 : 0 ≤ s := (inB_iff.1 h3).1
  have HLT := Lib.hid (splitEnd_lt HL.out h1 h2 h3)
  have HGE := Lib.hid (splitEnd_ge HL.out h1 h2 h3)
  go_enter Tryd.func48, Tryd.ntmps48
  go_wp2_with (fail)
  refine (implCharges_any _ _ _ xs _ HL.out (hr.up ((Below.refl _ _).alloc (Nat.le_refl _) _) (by simp)) (by omega)).mono ?_
  rintro e w1 ⟨rfl, hb1⟩
  have t1 := below_boxed hb1
  have hz1' : w.heap.size < w1.heap.size := by have := hb1.size; simp at this; omega
  have bx1 : w1.cell? ⟨w.heap.size, 0, none⟩ = some (.int .i64 r) := (by (rw [hb1.cell (by simp)]; go_simp))
  have by1 : w1.cell? ⟨w.heap.size, 1, none⟩ = some (.int .i64 p) := (by (rw [hb1.cell (by simp)]; go_simp))
  go_wp2_with (fail)
  refine (implFurn_any _ _ _).mono ?_
  rintro e w2 ⟨rfl, hb2⟩
  have t2 := below_next t1 hb2
  have hz2' : w.heap.size < w2.heap.size := by have := hb2.size; omega
  have bx2 : w2.cell? ⟨w.heap.size, 0, none⟩ = some (.int .i64 r) := (hb2.cell (by exact hz1')).trans bx1
  have by2 : w2.cell? ⟨w.heap.size, 1, none⟩ = some (.int .i64 p) := (hb2.cell (by exact hz1')).trans by1
  clear hb1 hb2 t1 hz1' bx1 by1
  go_wp2_with (fail)
  refine (within_any s 0 (2 ^ n - 1) _).mono ?_
  rintro e w' ⟨rfl, rfl⟩
  go_wp2
  clear h1 h2 h3 hp1 hp2
  go_loopw [7, 8, 30] (fun v u i wr => ∃ (k m1 m2 : Nat) (A1 : Option Addr) (c1 : Nat) (A2 : Option Addr) (c2 : Nat), k ≤ n ∧ i = .int .i64 k ∧ v = .slice A1 m1 c1 ∧ u = .slice A2 m2 c2 ∧ Hid ((selTo xs s 0 k).length = m1) ∧ Hid ((selTo xs s 1 k).length = m2) ∧ m1 ≤ k ∧ m2 ≤ k ∧ wr.ownsRow (w.heap.size + 1) 39 2 (.slice A1 m1 c1) m1 (pairsV (selTo xs s 0 k)) ∧ wr.ownsRow (w.heap.size + 1) 39 2 (.slice A2 m2 c2) m2 (pairsV (selTo xs s 1 k)) ∧ ApartV (.slice A1 m1 c1) (.slice A2 m2 c2) ∧ Below w.heap.size w wr ∧ w.heap.size < wr.heap.size ∧ wr.cell? ⟨w.heap.size, 0, none⟩ = some (.int .i64 r) ∧ wr.cell? ⟨w.heap.size, 1, none⟩ = some (.int .i64 p)) (fun _ _ i _ => n - (intOf i).toNat)
  case atStart => exact ⟨0, 0, 0, _, _, _, _, Nat.zero_le _, rfl, rfl, rfl, Lib.hid rfl, Lib.hid rfl, Nat.le_refl _, Nat.le_refl _, World.ownsRow_nil _ _ _ _, World.ownsRow_nil _ _ _ _, ApartV.nil _, t2, hz2', bx2, by2⟩
  case round =>
    obtain ⟨k, m1, m2, A1, c1, A2, c2, hk, rfl, rfl, rfl, HM1, HM2, hm1, hm2, hown1, hown2, hap, hbel, hz, bx, by_⟩ := hrel
    clear t2 hz2' bx2 by2
    have hsz := hbel.size
    by_cases hlt : k < n
    · obtain ⟨⟨x, y⟩, hxy⟩ : ∃ q, xs[k]? = some q := ⟨_, List.getElem?_eq_getElem (by rw [HL.out]; omega)⟩
      obtain ⟨b, off, rfl, hbB, hc1, hc2⟩ := hr k x y hxy
      rw [← hbel.cell (by exact hbB)] at hc1 hc2
      have hbw : b < wr.heap.size := by omega
      have HXY := Lib.hid hxy
      have HO1 := Lib.hid hown1
      have HO2 := Lib.hid hown2
      have HAP := Lib.hid hap
      have HBX := Lib.hid bx
      have HBY := Lib.hid by_
      clear hxy hr hown1 hown2 hap bx by_
      by_cases s1 : bitI s k = 0
      · have hd : (bits .and .i64 (s / 2 ^ k) 1 == 0) = true := by rw [and1_bit]; simpa using s1
        have HS1 := Lib.hid (selTo_yes HXY.out s1)
        have HS2 := Lib.hid (selTo_no (s := s) (b := 1) HXY.out (by omega))
        clear s1
        go_wp2_with (at_builtin; go_must (refine wpList_append_pair_at _ rfl (.tmp 40) (.tmp 42) 35 rfl (w.heap.size + 1) 39 i0 Tryd.underlying35 hi hz0 hz1 hz2 (.slice A1 m1 c1) m1 (selTo xs s 0 k) rfl ((HO1.out.alloc _).alloc _) (wr.heap.size + 1) (Newest.alloc_ (by simp)) rfl (by omega) (by simp; omega) ?_); intro A9 cc9 w9 hown9 hgr9 hat9)
        have HTT := Lib.hid (below_append (B := w.heap.size) (a := w) (show Below w.heap.size w _ from (by repeat' (first | exact Below.refl _ _ | assumption | refine Below.alloc ?_ (by first | omega | (simp; done) | (simp; omega)) _ | refine Below.setCell ?_ (by first | omega | (simp; done) | (simp; omega)) _ | refine Below.drew ?_ | refine below_drawn ?_ _))) hgr9 ((HO1.out.alloc _).alloc _) (by simp; omega) (by omega))
        have HO9 := Lib.hid hown9
        have HO2' := Lib.hid (own_apartV ((HO2.out.alloc _).alloc _) HAP.out hgr9)
        have HAP' := Lib.hid (HAP.out.grown ((HO2.out.alloc _).alloc _) hat9)
        have hz9 : w.heap.size < w9.heap.size := by have := hgr9.size; simp at this; omega
        have bx9 : w9.cell? ⟨w.heap.size, 0, none⟩ = some (.int .i64 r) := cell_append (p := ⟨w.heap.size, 0, none⟩) (by have := HBX.out; go_simp) hgr9 ((HO1.out.alloc _).alloc _) (by show w.heap.size < _; omega)
        have by9 : w9.cell? ⟨w.heap.size, 1, none⟩ = some (.int .i64 p) := cell_append (p := ⟨w.heap.size, 1, none⟩) (by have := HBY.out; go_simp) hgr9 ((HO1.out.alloc _).alloc _) (by show w.heap.size < _; omega)
        clear hown9 hgr9 hat9
        go_roundw
        case rel => exact ⟨k + 1, m1 + 1, m2, A9, cc9, A2, c2, by omega, by go_num, rfl, rfl, Lib.hid (by rw [HS1.out]; simp [HM1.out]), Lib.hid (by rw [HS2.out]; exact HM2.out), by omega, by omega, by rw [HS1.out]; exact HO9.out, by rw [HS2.out]; exact HO2'.out, HAP'.out, HTT.out, hz9, bx9, by9⟩
        case measure => simp [intOf] <;> omega
      · have s2 : bitI s k = 1 := by have := bitI_01 s k; omega
        have hd : (bits .and .i64 (s / 2 ^ k) 1 == 0) = false := by rw [and1_bit, s2]; rfl
        have HS1 := Lib.hid (selTo_no HXY.out s1)
        have HS2 := Lib.hid (selTo_yes HXY.out s2)
        clear s1 s2
        go_wp2_with (at_builtin; go_must (refine wpList_append_pair_at _ rfl (.tmp 44) (.tmp 46) 35 rfl (w.heap.size + 1) 39 i0 Tryd.underlying35 hi hz0 hz1 hz2 (.slice A2 m2 c2) m2 (selTo xs s 1 k) rfl ((HO2.out.alloc _).alloc _) (wr.heap.size + 1) (Newest.alloc_ (by simp)) rfl (by omega) (by simp; omega) ?_); intro A9 cc9 w9 hown9 hgr9 hat9)
        have HTT := Lib.hid (below_append (B := w.heap.size) (a := w) (show Below w.heap.size w _ from (by repeat' (first | exact Below.refl _ _ | assumption | refine Below.alloc ?_ (by first | omega | (simp; done) | (simp; omega)) _ | refine Below.setCell ?_ (by first | omega | (simp; done) | (simp; omega)) _ | refine Below.drew ?_ | refine below_drawn ?_ _))) hgr9 ((HO2.out.alloc _).alloc _) (by simp; omega) (by omega))
        have HO9 := Lib.hid hown9
        have HO2' := Lib.hid (own_apartV ((HO1.out.alloc _).alloc _) HAP.out.symm hgr9)
        have HAP' := Lib.hid (HAP.out.symm.grown ((HO1.out.alloc _).alloc _) hat9).symm
        have hz9 : w.heap.size < w9.heap.size := by have := hgr9.size; simp at this; omega
        have bx9 : w9.cell? ⟨w.heap.size, 0, none⟩ = some (.int .i64 r) := cell_append (p := ⟨w.heap.size, 0, none⟩) (by have := HBX.out; go_simp) hgr9 ((HO2.out.alloc _).alloc _) (by show w.heap.size < _; omega)
        have by9 : w9.cell? ⟨w.heap.size, 1, none⟩ = some (.int .i64 p) := cell_append (p := ⟨w.heap.size, 1, none⟩) (by have := HBY.out; go_simp) hgr9 ((HO2.out.alloc _).alloc _) (by show w.heap.size < _; omega)
        clear hown9 hgr9 hat9
        go_roundw
        case rel => exact ⟨k + 1, m1, m2 + 1, A1, c1, A9, cc9, by omega, by go_num, rfl, rfl, Lib.hid (by rw [HS1.out]; exact HM1.out), Lib.hid (by rw [HS2.out]; simp [HM2.out]), by omega, by omega, by rw [HS1.out]; exact HO2'.out, by rw [HS2.out]; exact HO9.out, HAP'.out, HTT.out, hz9, bx9, by9⟩
        case measure => simp [intOf] <;> omega
    · obtain rfl : k = n := by omega
      have R1 : RdP wr.drew wr.drew.heap.size A1 (selTo xs s 0 k) := RdP.drew_ (RdP.of_own hown1)
      have R2 : RdP wr.drew wr.drew.heap.size A2 (selTo xs s 1 k) := RdP.drew_ (RdP.of_own hown2)
      have tD : Below w.heap.size w wr.drew := hbel.drew
      have hzD : w.heap.size < wr.drew.heap.size := hz
      clear hown1 hown2 hap hbel hsz hr
      by_cases s1 : passEnd (selTo xs s 0 k) r p < passEnd (selTo xs s 1 k) r p
      · go_wp2_with (fail)
        go_region_held3 (fun w' => w'.cell? ⟨w.heap.size, 0, none⟩ = some (.int .i64 r) ∧ w'.cell? ⟨w.heap.size, 1, none⟩ = some (.int .i64 p)) (go_keep)
        (first
          | (go_at_call 35; go_must (refine (implEnd_any _ _ _ _ r p _ (by first | exact HM1.out | exact HM2.out) (by first | exact R1 | exact R2) (by omega)).mono ?_); rintro e w9 ⟨rfl, hb9⟩; have bx := (hb9.cell (by exact hzD)).trans bx; have by_ := (hb9.cell (by exact hzD)).trans by_; have R2 := R2.up hb9 hb9.size; have tD := below_next tD hb9; have hzD := Nat.lt_of_lt_of_le hzD hb9.size))
        go_wp2
        go_ret
        exact ⟨ret_int (HLT.out s1).symm, tD⟩
      · go_wp2_with (fail)
        go_region_held3 (fun w' => w'.cell? ⟨w.heap.size, 0, none⟩ = some (.int .i64 r) ∧ w'.cell? ⟨w.heap.size, 1, none⟩ = some (.int .i64 p)) (go_keep)
        (first
          | (go_at_call 35; go_must (refine (implEnd_any _ _ _ _ r p _ (by first | exact HM1.out | exact HM2.out) (by first | exact R1 | exact R2) (by omega)).mono ?_); rintro e w9 ⟨rfl, hb9⟩; have bx := (hb9.cell (by exact hzD)).trans bx; have by_ := (hb9.cell (by exact hzD)).trans by_; have R2 := R2.up hb9 hb9.size; have tD := below_next tD hb9; have hzD := Nat.lt_of_lt_of_le hzD hb9.size))
        go_wp2
        go_ret
        exact ⟨ret_int (HGE.out s1).symm, tD⟩
set_option maxRecDepth 100000 in
set_option maxHeartbeats 8000000 in
theorem specSplit_any (A : Option Addr) (n c : Nat) (xs : List (Int × Int)) (r p s : Int) (w : World) (hl : xs.length = n) (hr : RdP w w.heap.size A xs) (hn : n ≤ 1048576) :
    Calls Tryd.prog 49 #[.slice A n c, .agg #[.int .i64 r, .int .i64 p], .int .i64 s] w fun e w' => e = .returned (.int .i64 (splitEnd xs r p s)) ∧ Below w.heap.size w w' := by
  have HL := Lib.hid hl
  clear hl
  have t1 : Below w.heap.size w (w.alloc (.cells #[.int .i64 r, .int .i64 p] 24)) := (Below.refl _ _).alloc (Nat.le_refl _) _
  cases h1 : chargesOk xs
  · go_enter Tryd.func49, Tryd.ntmps49
    go_wp2_with (fail)
    refine (specCharges_any _ _ _ xs _ HL.out (hr.up ((Below.refl _ _).alloc (Nat.le_refl _) _) (by simp)) (by omega)).mono ?_
    rintro e w' ⟨rfl, rfl⟩
    go_wp2
    go_ret
    exact ⟨ret_int (splitEnd_1 h1).symm, t1⟩
  have hn8 : n ≤ 8 := by have := chargesOk_len h1; rw [HL.out] at this; exact this
  cases h2 : furnOk r p
  · go_enter Tryd.func49, Tryd.ntmps49
    go_wp2_with (fail)
    refine (specCharges_any _ _ _ xs _ HL.out (hr.up ((Below.refl _ _).alloc (Nat.le_refl _) _) (by simp)) (by omega)).mono ?_
    rintro e w' ⟨rfl, rfl⟩
    go_wp2_with (fail)
    refine (specFurn_any _ _ _).mono ?_
    rintro e w2 ⟨rfl, hb2⟩
    have t2 := below_boxed hb2
    go_wp2
    go_ret
    exact ⟨ret_int (splitEnd_2 h2).symm, t2⟩
  obtain ⟨hp1, hp2⟩ := pow2_bounds hn8
  cases h3 : inB s 0 (2 ^ n - 1)
  · go_enter Tryd.func49, Tryd.ntmps49
    go_wp2_with (fail)
    refine (specCharges_any _ _ _ xs _ HL.out (hr.up ((Below.refl _ _).alloc (Nat.le_refl _) _) (by simp)) (by omega)).mono ?_
    rintro e w' ⟨rfl, rfl⟩
    go_wp2_with (fail)
    refine (specFurn_any _ _ _).mono ?_
    rintro e w2 ⟨rfl, hb2⟩
    have t2 := below_boxed hb2
    go_wp2_with (fail)
    refine (in_any s 0 (2 ^ n - 1) _).mono ?_
    rintro e w' ⟨rfl, rfl⟩
    go_wp2
    go_ret
    exact ⟨ret_int (splitEnd_3 HL.out h3).symm, t2⟩
  have s0 : 0 ≤ s := (inB_iff.1 h3).1
  have HLT := Lib.hid (splitEnd_lt HL.out h1 h2 h3)
  have HGE := Lib.hid (splitEnd_ge HL.out h1 h2 h3)
  by_cases s1 : passEnd (selTo xs s 0 n) r p < passEnd (selTo xs s 1 n) r p
  all_goals
    go_enter Tryd.func49, Tryd.ntmps49
    go_wp2_with (fail)
    refine (specCharges_any _ _ _ xs _ HL.out (hr.up ((Below.refl _ _).alloc (Nat.le_refl _) _) (by simp)) (by omega)).mono ?_
    rintro e w' ⟨rfl, rfl⟩
    go_wp2_with (fail)
    refine (specFurn_any _ _ _).mono ?_
    rintro e w2 ⟨rfl, hb2⟩
    have t2 := below_boxed hb2
    have hz2' : w.heap.size < w2.heap.size := by have := hb2.size; simp at this; omega
    have bx2 : w2.cell? ⟨w.heap.size, 0, none⟩ = some (.int .i64 r) := (by (rw [hb2.cell (by simp)]; go_simp))
    have by2 : w2.cell? ⟨w.heap.size, 1, none⟩ = some (.int .i64 p) := (by (rw [hb2.cell (by simp)]; go_simp))
    go_wp2_with (fail)
    refine (in_any s 0 (2 ^ n - 1) _).mono ?_
    rintro e w' ⟨rfl, rfl⟩
    have tD : Below w.heap.size w w2.drew := t2.drew
    have hzD : w.heap.size < w2.drew.heap.size := hz2'
    have bx := bx2
    have by_ := by2
    have hrD : RdP w2.drew w2.drew.heap.size A xs := hr.up tD tD.size
    go_wp2_with (fail)
    go_region_held3 (fun w' => w'.cell? ⟨w.heap.size, 0, none⟩ = some (.int .i64 r) ∧ w'.cell? ⟨w.heap.size, 1, none⟩ = some (.int .i64 p)) (go_keep)
    (first
      | (go_at_call 64; go_must (refine (specSet_any _ _ _ xs s _ _ HL.out hrD (by omega) s0).mono ?_); intro e w9 hrow; obtain ⟨A9, c9, rfl, o9, hb9⟩ := hrow; have bx := (hb9.cell (by exact hzD)).trans bx; have by_ := (hb9.cell (by exact hzD)).trans by_; have hrD := hrD.up hb9 hb9.size; have tD := below_next tD hb9; have hzD := Nat.lt_of_lt_of_le hzD hb9.size)
      | (go_at_call 36; go_must (refine (specEnd_any _ _ _ _ r p _ rfl (RdP.of_own o9) (Nat.le_trans (selTo_len _ _ _ _) (by omega))).mono ?_); rintro e w9 ⟨rfl, hb9⟩; have bx := (hb9.cell (by exact hzD)).trans bx; have by_ := (hb9.cell (by exact hzD)).trans by_; have hrD := hrD.up hb9 hb9.size; have tD := below_next tD hb9; have hzD := Nat.lt_of_lt_of_le hzD hb9.size))
    go_wp2
    go_ret
  · exact ⟨ret_int (HLT.out s1).symm, tD⟩
  · exact ⟨ret_int (HGE.out s1).symm, tD⟩
end Go.Proofs.YtiddlpgpbafdmaaDoor
