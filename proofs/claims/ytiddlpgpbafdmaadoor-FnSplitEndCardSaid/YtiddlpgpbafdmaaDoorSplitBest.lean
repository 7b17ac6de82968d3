/- 'SplitBest': both walks. -/
import Derived.Test.YtiddlpgpbafdmaaDoorSplitWalk
namespace Go.Proofs.YtiddlpgpbafdmaaDoor
open Go.RowKit
set_option linter.unusedVariables false
theorem splitBest_fin {xs : List (Int × Int)} {r p : Int} {n k : Nat} (hn : xs.length = n) (h : chargesOk xs = true) (h2 : furnOk r p = true) (h3 : (k : Int) = 2 ^ n) : splitBest xs r p = (bestSet xs r p k : Nat) := by
  rw [splitBest_3 hn h h2]
  have : k = 2 ^ n := by
    have e : ((2 ^ n : Nat) : Int) = 2 ^ n := by simp
    omega
  rw [this]
/-- the best of the first k sets; -1 ahead of the first -/
def BestIs (xs : List (Int × Int)) (r p : Int) (k : Nat) (b : Int) : Prop := (k = 0 ∧ b = -1) ∨ (1 ≤ k ∧ b = (bestSet xs r p k : Nat))
set_option maxRecDepth 100000 in
set_option maxHeartbeats 8000000 in
theorem implSplitBest_any (A : Option Addr) (n c : Nat) (xs : List (Int × Int)) (r p : Int) (w : World) (hl : xs.length = n) (hr : RdP w w.heap.size A xs) (hn : n ≤ 1048576) :
    Calls Tryd.prog 50 #[.slice A n c, .agg #[.int .i64 r, .int .i64 p]] w fun e w' => e = .returned (.int .i64 (splitBest xs r p)) ∧ Below w.heap.size w w' := by
  have HL := Lib.hid hl
  clear hl
  cases h1 : chargesOk xs
  · go_enter Tryd.func50, Tryd.ntmps50
    go_wp2_with (fail)
    refine (implCharges_any _ _ _ xs _ HL.out (hr.up ((Below.refl _ _).alloc (Nat.le_refl _) _) (by simp)) (by omega)).mono ?_
    rintro e w1 ⟨rfl, hb1⟩
    have t1 := below_boxed hb1
    go_wp2
    go_ret
    exact ⟨ret_int (splitBest_1 h1).symm, t1⟩
  have hn8 : n ≤ 8 := by have := chargesOk_len h1; rw [HL.out] at this; exact this
  cases h2 : furnOk r p
  · go_enter Tryd.func50, Tryd.ntmps50
    go_wp2_with (fail)
    refine (implCharges_any _ _ _ xs _ HL.out (hr.up ((Below.refl _ _).alloc (Nat.le_refl _) _) (by simp)) (by omega)).mono ?_
    rintro e w1 ⟨rfl, hb1⟩
    have t1 := below_boxed hb1
    obtain ⟨hc1, hf1⟩ := bcell hb1
    have hz1' : w.heap.size < w1.heap.size := by have := hb1.size; simp at this; omega
    go_wp2_with (fail)
    refine (implFurn_any _ _ _).mono ?_
    rintro e w2 ⟨rfl, hb2⟩
    have t2 := below_next t1 hb2
    go_wp2
    go_ret
    exact ⟨ret_int (splitBest_2 h2).symm, t2⟩
  obtain ⟨hp1, hp2⟩ := pow2_bounds hn8
  have HFIN : Hid (∀ k : Nat, (k : Int) = 2 ^ n → splitBest xs r p = (bestSet xs r p k : Nat)) := Lib.hid (fun k h => splitBest_fin HL.out h1 h2 h)
  have hB1 := bestSet_one xs r p
  have HB1 := Lib.hid hB1
  clear hB1
  go_enter Tryd.func50, Tryd.ntmps50
  go_wp2_with (fail)
  refine (implCharges_any _ _ _ xs _ HL.out (hr.up ((Below.refl _ _).alloc (Nat.le_refl _) _) (by simp)) (by omega)).mono ?_
  rintro e w1 ⟨rfl, hb1⟩
  have t1 := below_boxed hb1
  have hz1' : w.heap.size < w1.heap.size := by have := hb1.size; simp at this; omega
  have bx1 : w1.cell? ⟨w.heap.size, 0, none⟩ = some (.int .i64 r) := (by (rw [hb1.cell (by simp)]; go_simp))
  have by1 : w1.cell? ⟨w.heap.size, 1, none⟩ = some (.int .i64 p) := (by (rw [hb1.cell (by simp)]; go_simp))
  go_wp2_with (fail)
  refine (implFurn_any _ _ _).mono ?_
  rintro e w2 ⟨rfl, hb2⟩
  have t2 := below_next t1 hb2
  have hz2' : w.heap.size < w2.heap.size := by have := hb2.size; omega
  have bx2 : w2.cell? ⟨w.heap.size, 0, none⟩ = some (.int .i64 r) := (hb2.cell (by exact hz1')).trans bx1
  have by2 : w2.cell? ⟨w.heap.size, 1, none⟩ = some (.int .i64 p) := (hb2.cell (by exact hz1')).trans by1
  clear hb1 hb2 t1 hz1' bx1 by1
  go_wp2_with (fail)
  refine (implSplit_any _ _ _ xs r p 0 _ HL.out (hr.up t2 t2.size) (by omega)).mono ?_
  rintro e w3 ⟨rfl, hb3⟩
  have t3 := below_next t2 hb3
  have hz3' : w.heap.size < w3.heap.size := by have := hb3.size; omega
  have bx3 : w3.cell? ⟨w.heap.size, 0, none⟩ = some (.int .i64 r) := (hb3.cell (by exact hz2')).trans bx2
  have by3 : w3.cell? ⟨w.heap.size, 1, none⟩ = some (.int .i64 p) := (hb3.cell (by exact hz2')).trans by2
  clear hb3 t2 hz2' bx2 by2
  go_wp2
  clear h1 h2
  go_loopw [5, 6, 7] (fun b e i wr => ∃ k : Nat, 1 ≤ k ∧ (k : Int) ≤ 2 ^ n ∧ i = .int .i64 k ∧ b = .int .i64 (bestSet xs r p k : Nat) ∧ e = .int .i64 (splitEnd xs r p (bestSet xs r p k : Nat)) ∧ Below w.heap.size w wr ∧ w.heap.size < wr.heap.size ∧ wr.cell? ⟨w.heap.size, 0, none⟩ = some (.int .i64 r) ∧ wr.cell? ⟨w.heap.size, 1, none⟩ = some (.int .i64 p)) (fun _ _ i _ => (2 ^ n - intOf i).toNat)
  case atStart => exact ⟨1, Nat.le_refl _, by omega, rfl, by rw [HB1.out]; rfl, by rw [HB1.out]; rfl, t3, hz3', bx3, by3⟩
  case round =>
    obtain ⟨k, hk1, hk, rfl, rfl, rfl, hbel, hz, bx, by_⟩ := hrel
    clear t3 hz3' bx3 by3
    have hsz := hbel.size
    by_cases hlt : (k : Int) < 2 ^ n
    · have hC : ∀ W : World, RdP W W.heap.size A xs → Calls Tryd.prog 48 #[.slice A n c, .agg #[.int .i64 r, .int .i64 p], .int .i64 (k : Int)] W fun e w' => e = .returned (.int .i64 (splitEnd xs r p k)) ∧ Below W.heap.size W w' := fun W h => implSplit_any _ _ _ xs r p k _ HL.out h (by omega)
      have HC := Lib.hid hC
      clear hC
      by_cases s1 : splitEnd xs r p k < splitEnd xs r p (bestSet xs r p k : Nat)
      · have HBS := Lib.hid (bestSet_yes s1)
        go_wp2_with (fail)
        refine (HC.out _ (hr.up hbel hsz)).mono ?_
        rintro e w9 ⟨rfl, hb9⟩
        have t9 := below_next hbel hb9
        have hz9 : w.heap.size < w9.heap.size := by have := hb9.size; omega
        have bx9 := (hb9.cell (p := ⟨w.heap.size, 0, none⟩) (by exact hz)).trans bx
        have by9 := (hb9.cell (p := ⟨w.heap.size, 1, none⟩) (by exact hz)).trans by_
        go_wp2
        go_roundw
        case rel => exact ⟨k + 1, by omega, by omega, by go_num, by rw [HBS.out], by rw [HBS.out], t9, hz9, bx9, by9⟩
        case measure => simp [intOf] <;> omega
      · have HBS := Lib.hid (bestSet_no s1)
        go_wp2_with (fail)
        refine (HC.out _ (hr.up hbel hsz)).mono ?_
        rintro e w9 ⟨rfl, hb9⟩
        have t9 := below_next hbel hb9
        have hz9 : w.heap.size < w9.heap.size := by have := hb9.size; omega
        have bx9 := (hb9.cell (p := ⟨w.heap.size, 0, none⟩) (by exact hz)).trans bx
        have by9 := (hb9.cell (p := ⟨w.heap.size, 1, none⟩) (by exact hz)).trans by_
        go_wp2
        go_roundw
        case rel => exact ⟨k + 1, by omega, by omega, by go_num, by rw [HBS.out], by rw [HBS.out], t9, hz9, bx9, by9⟩
        case measure => simp [intOf] <;> omega
    · have HK := Lib.hid (HFIN.out k (by omega))
      go_wp2
      go_ret
      exact ⟨ret_int HK.out.symm, hbel⟩
end Go.Proofs.YtiddlpgpbafdmaaDoor
