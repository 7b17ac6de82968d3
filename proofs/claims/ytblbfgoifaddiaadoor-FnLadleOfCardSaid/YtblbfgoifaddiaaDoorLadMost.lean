/- 'LadlesAt' and 'LadlesMost' of the program: the walks, at times that are right. -/
import Derived.Test.YtblbfgoifaddiaaDoorLadRow
namespace Go.Proofs.YtblbfgoifaddiaaDoor
open Go.RowKit
set_option linter.unusedVariables false
set_option linter.unusedSimpArgs false
theorem BX.made' {w : World} (o : Array Value) (e : TypeId) : BX (w.alloc (.cells o e)) w.heap.size o.toList :=
  ⟨by simp, fun j v hv => by
    rw [cell_of_row _ w.heap.size j o e (0, 0) (heap_alloc_new w _)]
    simpa using hv, fun j => by go_simp⟩
set_option maxRecDepth 100000 in
set_option maxHeartbeats 1000000 in
theorem ladlesAt_any (A1 : Option Addr) (n1 c1 : Nat) (xs : List (Int × Int × Int)) (f s : Int) (A2 : Option Addr) (n2 c2 : Nat) (ts : List Int) (m : Int) (w : World)
    (hl1 : xs.length = n1) (hr1 : RdT w w.heap.size A1 xs) (hn1 : n1 ≤ 1048576) (hl2 : ts.length = n2) (hr2 : RdI .i64 w w.heap.size A2 ts) (hn2 : n2 ≤ 1048576) (hw : castOk xs f s ts = true) :
    Calls Tryd.prog 36 #[.slice A1 n1 c1, .agg #[.int .i64 f, .int .i64 s], .slice A2 n2 c2, .int .i64 m] w fun e w' => e = .returned (.int .i64 (cntAt (tapF xs) (endF ts) n1 m : Nat)) ∧ Below w.heap.size w w' := by
  have HL1 := Lib.hid hl1
  have HL2 := Lib.hid hl2
  have R1 := Lib.hid hr1
  have R2 := Lib.hid hr2
  have HW := Lib.hid hw
  obtain ⟨g1, g2, g3, -, -⟩ := castOk_facts hw
  rw [hl1, hl2] at g3
  have g6 := (heatsOk_facts g1).1
  rw [hl1] at g6
  subst g3
  have tA : Below w.heap.size w (w.alloc (.cells #[.int .i64 f, .int .i64 s] 25)) := (Below.refl _ w).alloc (Nat.le_refl _) _
  go_enter Tryd.func36, Tryd.ntmps36
  go_wp2_with (fail)
  generalize w.alloc (.cells #[.int .i64 f, .int .i64 s] 25) = w1 at *
  refine (implCast_any _ _ _ xs f s _ _ _ ts _ HL1.out (hr1.up tA tA.size) (by omega) HL2.out (hr2.up tA tA.size) (by omega)).mono ?_
  rintro e w2 ⟨rfl, hb2⟩
  have t2 := below_next tA hb2
  clear tA hb2 hr1 hr2 hl1 hl2 g1 g2
  go_wp2_with (fail)
  go_loopw [9, 19] (fun u i wr => ∃ k : Nat, k ≤ n1 ∧ i = .int .i64 k ∧ u = .int .i64 (cntAt (tapF xs) (endF ts) k m : Nat) ∧ Below w.heap.size w wr) (fun _ i _ => n1 - (intOf i).toNat)
  case atStart => exact ⟨0, Nat.zero_le _, rfl, rfl, t2⟩
  case round =>
    clear t2
    obtain ⟨k, hk, rfl, rfl, hbel⟩ := hrel
    have hwsz := hbel.size
    have hcl := cntAt_le (tapF xs) (endF ts) k m
    by_cases hlt : k < n1
    · obtain ⟨⟨kk, t, r⟩, hx⟩ : ∃ q, xs[k]? = some q := ⟨_, List.getElem?_eq_getElem (by rw [HL1.out]; exact hlt)⟩
      obtain ⟨d, hd⟩ : ∃ q, ts[k + 1]? = some q := ⟨_, List.getElem?_eq_getElem (by rw [HL2.out]; omega)⟩
      obtain ⟨b1, off1, rfl, hbB1, hc1, hc2, hc3⟩ := R1.out k kk t r hx
      obtain ⟨b2, off2, rfl, hbB2, hd1⟩ := R2.out (k + 1) d hd
      rw [← hbel.cell (by exact hbB1)] at hc1 hc2 hc3
      rw [← hbel.cell (by exact hbB2)] at hd1
      have hw2 : b2 < wr.heap.size := by omega
      have CN := Lib.hid (cntAt_succ (tapF xs) (endF ts) k m)
      rw [tapF_get hx, endF_get hd] at CN
      have HBN := Lib.hid (hbel.alloc hwsz (.cells #[.int .i64 kk, .int .i64 t, .int .i64 r] 34))
      clear hx hd hbel
      generalize cntAt (tapF xs) (endF ts) k m = q at *
      by_cases a1 : t ≤ m
      · by_cases a2 : m < d
        · have CN2 : Hid (cntAt (tapF xs) (endF ts) (k + 1) m = q + 1) := Lib.hid (by rw [CN.out, if_pos ⟨a1, a2⟩])
          go_wp2
          go_roundw
          case rel => exact ⟨k + 1, by omega, by go_num, by rw [CN2.out]; go_num, HBN.out⟩
          case measure => simp [intOf] <;> omega
        · have CN2 : Hid (cntAt (tapF xs) (endF ts) (k + 1) m = q) := Lib.hid (by rw [CN.out, if_neg (fun h => a2 h.2)]; rfl)
          go_wp2
          go_roundw
          case rel => exact ⟨k + 1, by omega, by go_num, by rw [CN2.out], HBN.out⟩
          case measure => simp [intOf] <;> omega
      · have CN2 : Hid (cntAt (tapF xs) (endF ts) (k + 1) m = q) := Lib.hid (by rw [CN.out, if_neg (fun h => a1 h.1)]; rfl)
        go_wp2
        go_roundw
        case rel => exact ⟨k + 1, by omega, by go_num, by rw [CN2.out], HBN.out⟩
        case measure => simp [intOf] <;> omega
    · obtain rfl : k = n1 := by omega
      go_wp2
      go_ret
      exact ⟨rfl, hbel⟩
set_option maxRecDepth 100000 in
set_option maxHeartbeats 1000000 in
theorem ladlesMost_any (A1 : Option Addr) (n1 c1 : Nat) (xs : List (Int × Int × Int)) (f s : Int) (A2 : Option Addr) (n2 c2 : Nat) (ts : List Int) (w : World)
    (hl1 : xs.length = n1) (hr1 : RdT w w.heap.size A1 xs) (hn1 : n1 ≤ 1048576) (hl2 : ts.length = n2) (hr2 : RdI .i64 w w.heap.size A2 ts) (hn2 : n2 ≤ 1048576) (hw : castOk xs f s ts = true) :
    Calls Tryd.prog 13 #[.slice A1 n1 c1, .agg #[.int .i64 f, .int .i64 s], .slice A2 n2 c2] w fun e w' => e = .returned (.int .i64 (mostTo (tapF xs) (endF ts) n1 n1 : Nat)) ∧ Below w.heap.size w w' := by
  have HL1 := Lib.hid hl1
  have HL2 := Lib.hid hl2
  have R1 := Lib.hid hr1
  have R2 := Lib.hid hr2
  have HW := Lib.hid hw
  obtain ⟨g1, g2, g3, -, -⟩ := castOk_facts hw
  rw [hl1, hl2] at g3
  have g6 := (heatsOk_facts g1).1
  rw [hl1] at g6
  subst g3
  have tA : Below w.heap.size w (w.alloc (.cells #[.int .i64 f, .int .i64 s] 25)) := (Below.refl _ w).alloc (Nat.le_refl _) _
  have xA : BX (w.alloc (.cells #[.int .i64 f, .int .i64 s] 25)) w.heap.size [.int .i64 f, .int .i64 s] := BX.made' _ _
  go_enter Tryd.func13, Tryd.ntmps13
  go_wp2_with (fail)
  generalize w.alloc (.cells #[.int .i64 f, .int .i64 s] 25) = w1 at *
  refine (implCast_any _ _ _ xs f s _ _ _ ts _ HL1.out (hr1.up tA tA.size) (by omega) HL2.out (hr2.up tA tA.size) (by omega)).mono ?_
  rintro e w2 ⟨rfl, hb2⟩
  have t2 := below_next tA hb2
  have x2 := xA.below hb2 xA.lt
  clear tA xA hb2 hr1 hr2 hl1 hl2 g1 g2
  go_wp2_with (fail)
  go_loopw [7, 17] (fun u i wr => ∃ k : Nat, k ≤ n1 ∧ i = .int .i64 k ∧ u = .int .i64 (mostTo (tapF xs) (endF ts) n1 k : Nat) ∧ BX wr w.heap.size [.int .i64 f, .int .i64 s] ∧ Below w.heap.size w wr) (fun _ i _ => n1 - (intOf i).toNat)
  case atStart => exact ⟨0, Nat.zero_le _, rfl, rfl, x2, t2⟩
  case round =>
    clear t2 x2
    obtain ⟨k, hk, rfl, rfl, bx, hbel⟩ := hrel
    have hwsz := hbel.size
    by_cases hlt : k < n1
    · obtain ⟨⟨kk, t, r⟩, hx⟩ : ∃ q, xs[k]? = some q := ⟨_, List.getElem?_eq_getElem (by rw [HL1.out]; exact hlt)⟩
      obtain ⟨b1, off1, rfl, hbB1, hc1, hc2, hc3⟩ := R1.out k kk t r hx
      rw [← hbel.cell (by exact hbB1)] at hc1 hc2 hc3
      have c0 := bx.at_ 0 _ rfl
      have c1 := bx.at_ 1 _ rfl
      have hw0 := bx.lt
      have HT := Lib.hid (tapF_get hx)
      have BXN := bx.alloc (.cells #[.int .i64 kk, .int .i64 t, .int .i64 r] 34)
      have HBN := hbel.alloc hwsz (.cells #[.int .i64 kk, .int .i64 t, .int .i64 r] 34)
      clear hx hbel bx
      go_wp2_with (fail)
      generalize wr.alloc (.cells #[.int .i64 kk, .int .i64 t, .int .i64 r] 34) = w3 at *
      refine (ladlesAt_any _ _ _ xs f s _ _ _ ts t _ HL1.out (R1.out.up HBN HBN.size) (by omega) HL2.out (R2.out.up HBN HBN.size) (by omega) HW.out).mono ?_
      rintro e w4 ⟨rfl, hb4⟩
      have HB4 := Lib.hid (below_next HBN hb4)
      have BX4 := Lib.hid (BXN.below hb4 BXN.lt)
      have hmx : mostTo (tapF xs) (endF ts) n1 (k + 1) = max (mostTo (tapF xs) (endF ts) n1 k) (cntAt (tapF xs) (endF ts) n1 t) := by rw [mostTo, HT.out]
      have HMX := Lib.hid hmx
      clear hb4 BXN HBN hmx c0 c1 hc1 hc2 hc3
      generalize mostTo (tapF xs) (endF ts) n1 k = q1 at *
      generalize cntAt (tapF xs) (endF ts) n1 t = q2 at *
      by_cases hq : (q1 : Int) < (q2 : Int)
      · go_wp2
        go_roundw
        case rel => exact ⟨k + 1, by omega, by go_num, by rw [HMX.out, Nat.max_eq_right (by omega)], BX4.out, HB4.out⟩
        case measure => simp [intOf] <;> omega
      · go_wp2
        go_roundw
        case rel => exact ⟨k + 1, by omega, by go_num, by rw [HMX.out, Nat.max_eq_left (by omega)], BX4.out, HB4.out⟩
        case measure => simp [intOf] <;> omega
    · obtain rfl : k = n1 := by omega
      go_wp2
      go_ret
      exact ⟨rfl, hbel⟩
end Go.Proofs.YtblbfgoifaddiaaDoor
