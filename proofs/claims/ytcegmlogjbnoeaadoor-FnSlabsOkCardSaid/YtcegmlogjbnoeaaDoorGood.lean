/- 'GoodParts': the plain words and both walks. -/
import Derived.Test.YtcegmlogjbnoeaaDoorGoodPlain
import Derived.Test.YtcegmlogjbnoeaaDoorBadWalk
import Derived.Test.YtcegmlogjbnoeaaDoorAppend
import Derived.Test.YtcegmlogjbnoeaaDoorSz
namespace Go.Proofs.YtcegmlogjbnoeaaDoor
open Go.RowKit
set_option linter.unusedVariables false
set_option maxRecDepth 100000 in
set_option maxHeartbeats 4000000 in
theorem implGood_any (long : Int) (A : Option Addr) (n c : Nat) (ys : List (Int × Int)) (w : World) (hl : ys.length = n) (hr : RdP w w.heap.size A ys) (hn : n ≤ 1048576) :
    Calls Tryd.prog 38 #[.int .i64 long, .slice A n c] w (PairsRow 31 (goodParts long ys) w) := by
  obtain ⟨i0, hi, hz0, hz1, hz2⟩ := info_parts info_Stretch
  have HL := Lib.hid hl
  clear hl
  cases h1 : badOk long ys
  · rw [goodParts_no h1]
    go_enter Tryd.func38, Tryd.ntmps38
    go_wp2_with (fail)
    refine (implBad_any long _ _ _ ys _ HL.out hr (by omega)).mono ?_
    rintro e w1 ⟨rfl, hb1⟩
    have t1 := hb1
    go_wp2
    go_ret
    exact PairsRow.nil t1
  · have H1 := Lib.hid h1
    have hn4 : n ≤ 4 := by have := badOk_len h1; have := HL.out; omega
    go_enter Tryd.func38, Tryd.ntmps38
    go_wp2_with (fail)
    refine (implBad_any long _ _ _ ys _ HL.out hr (by omega)).mono ?_
    rintro e w1 ⟨rfl, hb1⟩
    have t1 := hb1
    go_wp2
    clear h1 hb1
    go_loopw [5, 6, 15] (fun v f i wr => ∃ (k m : Nat) (A' : Option Addr) (c' : Nat), k ≤ n ∧ m ≤ k ∧ i = .int .i64 k ∧ f = .int .i64 (fromTo ys k) ∧ v = .slice A' m c' ∧ Hid ((partsTo ys k).length = m) ∧ wr.ownsRow w.heap.size 31 2 (.slice A' m c') m (pairsV (partsTo ys k)) ∧ Below w.heap.size w wr) (fun _ _ i _ => n - (intOf i).toNat)
    case atStart => exact ⟨0, 0, _, _, Nat.zero_le _, Nat.le_refl _, rfl, rfl, rfl, Lib.hid rfl, World.ownsRow_nil _ _ _ _, t1⟩
    case round =>
      obtain ⟨k, m, A', c', hk, hm, rfl, rfl, rfl, HM, hown, hbel⟩ := hrel
      have hsz := hbel.size
      by_cases hlt : k < n
      · obtain ⟨⟨x, y⟩, hxy⟩ : ∃ q, ys[k]? = some q := ⟨_, List.getElem?_eq_getElem (by have := HL.out; omega)⟩
        obtain ⟨b, off, rfl, hbB, hc1, hc2⟩ := hr k x y hxy
        rw [← hbel.cell (by exact hbB)] at hc1 hc2
        have hbw : b < wr.heap.size := by omega
        have HXY := Lib.hid hxy
        have HFS := Lib.hid (fromTo_succ hxy)
        clear hxy hr
        generalize hgf : fromTo ys k = f at *
        have HGF := Lib.hid hgf
        clear hgf
        by_cases s1 : f < x
        · go_wp2_with (at_builtin; go_must (refine wpList_append_pair _ rfl (.tmp 23) (.tmp 28) 23 rfl w.heap.size 31 i0 Tryd.underlying23 hi hz0 hz1 hz2 (.slice A' m c') m (partsTo ys k) rfl ((hown.alloc _).alloc _) (wr.heap.size + 1) (Newest.alloc_ (by simp)) rfl (by omega) (by simp; omega) ?_); intro A1 cc1 w9 hown1 hgr1; have k1 : w9.cell? ⟨b, off + k * 2, none⟩ = some (.int .i64 x) := cell_append (p := ⟨b, off + k * 2, none⟩) (u := .int .i64 x) (by go_simp) hgr1 ((hown.alloc _).alloc _) (by show b < _; omega); have k2 : w9.cell? ⟨b, off + k * 2 + 1, none⟩ = some (.int .i64 y) := cell_append (p := ⟨b, off + k * 2 + 1, none⟩) (u := .int .i64 y) (by go_simp) hgr1 ((hown.alloc _).alloc _) (by show b < _; omega); have k3 : w9.cell? ⟨wr.heap.size, 1, none⟩ = some (.int .i64 y) := hgr1.cell (by go_simp) (fun e => by have := (hown.lt _ e.symm).2; simp at this))
          have HO1 := Lib.hid hown1
          have tt := below_append (B := w.heap.size) (a := w) (by repeat' (first | exact Below.refl _ _ | assumption | refine Below.alloc ?_ (by first | omega | (simp; done) | (simp; omega)) _ | refine Below.setCell ?_ (by first | omega | (simp; done) | (simp; omega)) _ | refine Below.drew ?_ | refine below_drawn ?_ _)) hgr1 ((hown.alloc _).alloc _) (by simp; omega) (Nat.le_refl _)
          have HTT := Lib.hid tt
          clear hown1 tt
          go_wp2
          go_roundw
          case rel => exact ⟨k + 1, m + 1, A1, cc1, by omega, by omega, by go_num, by rw [HFS.out], rfl, Lib.hid (by rw [partsTo_yes HXY.out (by rw [HGF.out]; omega)]; simp [HM.out]), by rw [partsTo_yes HXY.out (by rw [HGF.out]; omega), HGF.out]; exact HO1.out, HTT.out⟩
          case measure => simp [intOf]; omega
        · go_wp2
          go_roundw
          case rel => exact ⟨k + 1, m, A', c', by omega, by omega, by go_num, by rw [HFS.out], rfl, Lib.hid (by rw [partsTo_no HXY.out (by rw [HGF.out]; omega)]; exact HM.out), by rw [partsTo_no HXY.out (by rw [HGF.out]; omega)]; exact (hown.alloc _), (by repeat' (first | exact Below.refl _ _ | assumption | refine Below.alloc ?_ (by first | omega | (simp; done) | (simp; omega)) _ | refine Below.setCell ?_ (by first | omega | (simp; done) | (simp; omega)) _ | refine Below.drew ?_ | refine below_drawn ?_ _))⟩
          case measure => simp [intOf]; omega
      · have HKN : Hid (k = ys.length) := Lib.hid (by have := HL.out; omega)
        generalize hgf : fromTo ys k = f at *
        have HGF := Lib.hid hgf
        clear hgf
        by_cases s1 : f < long
        · go_wp2_with (at_builtin; go_must (refine wpList_append_pair _ rfl (.tmp 36) (.tmp 40) 23 rfl w.heap.size 31 i0 Tryd.underlying23 hi hz0 hz1 hz2 (.slice A' m c') m (partsTo ys k) rfl (hown.alloc _) wr.heap.size (Newest.alloc_ (by simp)) rfl (by omega) (by simp; omega) ?_); intro A1 cc1 w9 hown1 hgr1)
          go_ret
          refine PairsRow.mk (base := w.heap.size) ?_ (Nat.le_refl _) ?_ (below_append (by repeat' (first | exact Below.refl _ _ | assumption | refine Below.alloc ?_ (by first | omega | (simp; done) | (simp; omega)) _ | refine Below.setCell ?_ (by first | omega | (simp; done) | (simp; omega)) _ | refine Below.drew ?_ | refine below_drawn ?_ _)) hgr1 (hown.alloc _) (by simp; omega) (Nat.le_refl _))
          · rw [goodParts_more H1.out (by rw [← HKN.out, HGF.out]; omega), ← HKN.out]; simp [HM.out]
          · rw [goodParts_more H1.out (by rw [← HKN.out, HGF.out]; omega), ← HKN.out, HGF.out]; exact hown1
        · go_wp2
          go_ret
          refine PairsRow.mk (base := w.heap.size) ?_ (Nat.le_refl _) ?_ hbel
          · rw [goodParts_same H1.out (by rw [← HKN.out, HGF.out]; omega), ← HKN.out]; exact HM.out
          · rw [goodParts_same H1.out (by rw [← HKN.out, HGF.out]; omega), ← HKN.out]; exact hown

set_option maxRecDepth 100000 in
set_option maxHeartbeats 4000000 in
theorem specGood_any (long : Int) (A : Option Addr) (n c : Nat) (ys : List (Int × Int)) (w : World) (hl : ys.length = n) (hr : RdP w w.heap.size A ys) (hn : n ≤ 1048576) :
    Calls Tryd.prog 40 #[.int .i64 long, .slice A n c] w (PairsRow 31 (goodParts long ys) w) := by
  obtain ⟨i0, hi, hz0, hz1, hz2⟩ := info_parts info_Stretch
  have HL := Lib.hid hl
  clear hl
  cases h1 : badOk long ys
  · rw [goodParts_no h1]
    go_enter Tryd.func40, Tryd.ntmps40
    go_wp2_with (fail)
    refine (specBad_any long _ _ _ ys _ HL.out (hr.up ((Below.refl _ _).alloc (Nat.le_refl _) _) (by simp)) (by omega)).mono ?_
    rintro e w1 ⟨rfl, hb1⟩
    have t1 := below_boxed hb1
    go_wp2
    go_ret
    exact PairsRow.mk (L := []) (base := w.heap.size) rfl (Nat.le_refl _) (by simpa [pairsV] using own_below (World.ownsRow_made (e := 31) (size := 2) (base := w.heap.size) w #[] 0 (Nat.le_refl _) (Nat.zero_le _) rfl) hb1) t1
  · have H1 := Lib.hid h1
    have hn4 : n ≤ 4 := by have := badOk_len h1; have := HL.out; omega
    go_enter Tryd.func40, Tryd.ntmps40
    go_wp2_with (fail)
    refine (specBad_any long _ _ _ ys _ HL.out (hr.up ((Below.refl _ _).alloc (Nat.le_refl _) _) (by simp)) (by omega)).mono ?_
    rintro e w1 ⟨rfl, hb1⟩
    have t1 := below_boxed hb1
    have HO := Lib.hid (own_below (World.ownsRow_made (e := 31) (size := 2) (base := w.heap.size) w #[] 0 (Nat.le_refl _) (Nat.zero_le _) rfl) hb1)
    go_wp2
    clear h1 hb1
    go_loopw [5, 6, 7] (fun v f i wr => ∃ (k m : Nat) (A' : Option Addr) (c' : Nat), k ≤ n ∧ m ≤ k ∧ i = .int .i64 k ∧ f = .int .i64 (fromTo ys k) ∧ v = .slice A' m c' ∧ Hid ((partsTo ys k).length = m) ∧ wr.ownsRow w.heap.size 31 2 (.slice A' m c') m (pairsV (partsTo ys k)) ∧ Below w.heap.size w wr) (fun _ _ i _ => n - (intOf i).toNat)
    case atStart => exact ⟨0, 0, _, _, Nat.zero_le _, Nat.le_refl _, rfl, rfl, rfl, Lib.hid rfl, HO.out, t1⟩
    case round =>
      obtain ⟨k, m, A', c', hk, hm, rfl, rfl, rfl, HM, hown, hbel⟩ := hrel
      have hsz := hbel.size
      by_cases hlt : k < n
      · obtain ⟨⟨x, y⟩, hxy⟩ : ∃ q, ys[k]? = some q := ⟨_, List.getElem?_eq_getElem (by have := HL.out; omega)⟩
        obtain ⟨b, off, rfl, hbB, hc1, hc2⟩ := hr k x y hxy
        rw [← hbel.cell (by exact hbB)] at hc1 hc2
        have hbw : b < wr.heap.size := by omega
        have HXY := Lib.hid hxy
        have HFS := Lib.hid (fromTo_succ hxy)
        clear hxy hr
        generalize hgf : fromTo ys k = f at *
        have HGF := Lib.hid hgf
        clear hgf
        by_cases s1 : f < x
        · go_wp2_with (at_builtin; go_must (refine wpList_append_pair _ rfl (.tmp 27) (.tmp 35) 23 rfl w.heap.size 31 i0 Tryd.underlying23 hi hz0 hz1 hz2 (.slice A' m c') m (partsTo ys k) rfl (hown.alloc _) wr.heap.size (Newest.alloc_ (by simp)) rfl (by omega) (by simp; omega) ?_); intro A1 cc1 w9 hown1 hgr1; have k1 : w9.cell? ⟨b, off + k * 2, none⟩ = some (.int .i64 x) := cell_append (p := ⟨b, off + k * 2, none⟩) (u := .int .i64 x) (by go_simp) hgr1 (hown.alloc _) (by show b < _; omega); have k2 : w9.cell? ⟨b, off + k * 2 + 1, none⟩ = some (.int .i64 y) := cell_append (p := ⟨b, off + k * 2 + 1, none⟩) (u := .int .i64 y) (by go_simp) hgr1 (hown.alloc _) (by show b < _; omega))
          have HO1 := Lib.hid hown1
          have tt := below_append (B := w.heap.size) (a := w) (by repeat' (first | exact Below.refl _ _ | assumption | refine Below.alloc ?_ (by first | omega | (simp; done) | (simp; omega)) _ | refine Below.setCell ?_ (by first | omega | (simp; done) | (simp; omega)) _ | refine Below.drew ?_ | refine below_drawn ?_ _)) hgr1 (hown.alloc _) (by simp; omega) (Nat.le_refl _)
          have HTT := Lib.hid tt
          clear hown1 tt
          go_wp2
          go_roundw
          case rel => exact ⟨k + 1, m + 1, A1, cc1, by omega, by omega, by go_num, by rw [HFS.out], rfl, Lib.hid (by rw [partsTo_yes HXY.out (by rw [HGF.out]; omega)]; simp [HM.out]), by rw [partsTo_yes HXY.out (by rw [HGF.out]; omega), HGF.out]; exact HO1.out, HTT.out⟩
          case measure => simp [intOf]; omega
        · go_wp2
          go_roundw
          case rel => exact ⟨k + 1, m, A', c', by omega, by omega, by go_num, by rw [HFS.out], rfl, Lib.hid (by rw [partsTo_no HXY.out (by rw [HGF.out]; omega)]; exact HM.out), by rw [partsTo_no HXY.out (by rw [HGF.out]; omega)]; exact hown, (by repeat' (first | exact Below.refl _ _ | assumption | refine Below.alloc ?_ (by first | omega | (simp; done) | (simp; omega)) _ | refine Below.setCell ?_ (by first | omega | (simp; done) | (simp; omega)) _ | refine Below.drew ?_ | refine below_drawn ?_ _))⟩
          case measure => simp [intOf]; omega
      · have HKN : Hid (k = ys.length) := Lib.hid (by have := HL.out; omega)
        generalize hgf : fromTo ys k = f at *
        have HGF := Lib.hid hgf
        clear hgf
        by_cases s1 : f < long
        · go_wp2_with (at_builtin; go_must (refine wpList_append_pair _ rfl (.tmp 45) (.tmp 49) 23 rfl w.heap.size 31 i0 Tryd.underlying23 hi hz0 hz1 hz2 (.slice A' m c') m (partsTo ys k) rfl (hown.alloc _) wr.heap.size (Newest.alloc_ (by simp)) rfl (by omega) (by simp; omega) ?_); intro A1 cc1 w9 hown1 hgr1)
          go_ret
          refine PairsRow.mk (base := w.heap.size) ?_ (Nat.le_refl _) ?_ (below_append (by repeat' (first | exact Below.refl _ _ | assumption | refine Below.alloc ?_ (by first | omega | (simp; done) | (simp; omega)) _ | refine Below.setCell ?_ (by first | omega | (simp; done) | (simp; omega)) _ | refine Below.drew ?_ | refine below_drawn ?_ _)) hgr1 (hown.alloc _) (by simp; omega) (Nat.le_refl _))
          · rw [goodParts_more H1.out (by rw [← HKN.out, HGF.out]; omega), ← HKN.out]; simp [HM.out]
          · rw [goodParts_more H1.out (by rw [← HKN.out, HGF.out]; omega), ← HKN.out, HGF.out]; exact hown1
        · go_wp2
          go_ret
          refine PairsRow.mk (base := w.heap.size) ?_ (Nat.le_refl _) ?_ hbel
          · rw [goodParts_same H1.out (by rw [← HKN.out, HGF.out]; omega), ← HKN.out]; exact HM.out
          · rw [goodParts_same H1.out (by rw [← HKN.out, HGF.out]; omega), ← HKN.out]; exact hown
end Go.Proofs.YtcegmlogjbnoeaaDoor
