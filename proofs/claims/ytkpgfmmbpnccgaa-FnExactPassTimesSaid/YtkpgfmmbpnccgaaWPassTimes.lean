/- The walk of the law FnExactPassTimes: it calls the reference and the program on copies, compares, and finds the arguments unchanged. -/
import Derived.Test.YtkpgfmmbpnccgaaPassEnd
import Derived.Test.YtkpgfmmbpnccgaaSz
namespace Go.Proofs.Ytkpgfmmbpnccgaa
open Go.RowKit
set_option linter.unusedVariables false
set_option maxRecDepth 100000 in
set_option maxHeartbeats 4000000 in
theorem walkFnExactPassTimes (w : World) (A0 : Option Addr) (n0 c0 : Nat) (xs0 : List (Int × Int)) (hl0 : xs0.length = n0) (rd0 : RdP w w.heap.size A0 xs0) (bd0 : n0 ≤ maxLen) (_ : ∀ x ∈ xs0, (Lit.int .i64 x.1).wf = true ∧ (Lit.int .i64 x.2).wf = true) (a1 b1 : Int) (_ : (Lit.int .i64 a1).wf = true) (_ : (Lit.int .i64 b1).wf = true) :
    Calls Try.prog 11 #[.slice A0 n0 c0, .agg #[.int .i64 a1, .int .i64 b1]] w fun e w' => e = .returned (.bool true) ∧ Below w.heap.size w w' := by
  have HL0 := Lib.hid hl0
  clear hl0
  unfold maxLen at bd0
  by_cases hs0 : 1048576 < (n0 : Int)
  · have hz0 := szOf_lt hs0
    go_enter Try.func11, Try.ntmps11
    go_wp2_with ((go_at_call 25; refine (szChargeS_any _ _ _ _ _ (by omega) (by omega) (by unfold maxLen; omega)).mono ?_; rintro e w' ⟨rfl, rfl⟩))
    go_ret
    exact ⟨rfl, (by repeat' (first | exact Below.refl _ _ | assumption | refine Below.alloc ?_ (by first | omega | (simp; done) | (simp; omega)) _ | refine Below.setCell ?_ (by first | omega | (simp; done) | (simp; omega)) _ | refine Below.drew ?_ | refine below_drawn ?_ _))⟩
  have hz0 := szOf_ge (left := 1048576) (n := n0) (by omega)
  have hy0 := szOf_le (left := 1048576) (n := n0) (by omega)
  have hn0 : n0 ≤ 1048576 := by omega
  have cS := fun A0' m0' d0' W e0' r0' s0' => specTimes_any A0' m0' d0' xs0 a1 b1 W e0' r0' s0'
  have cI := fun A0' m0' d0' W e0' r0' s0' => implTimes_any A0' m0' d0' xs0 a1 b1 W e0' r0' s0'
  have hLb : (timesOf xs0 a1 b1).length ≤ 1000 := timesOf_len _ _ _
  generalize timesOf xs0 a1 b1 = L at cS cI hLb
  obtain ⟨nL, hnL⟩ : ∃ nL, L.length = nL := ⟨_, rfl⟩
  rw [hnL] at hLb
  have HN := Lib.hid hnL
  have CS := Lib.hid cS
  have CI := Lib.hid cI
  clear hnL cS cI
  go_enter Try.func11, Try.ntmps11
  go_wp2_with ((go_at_call 25; refine (szChargeS_any _ _ _ _ _ (by omega) (by omega) (by unfold maxLen; omega)).mono ?_; rintro e w' ⟨rfl, rfl⟩))
  go_wp2_with (fail)
  go_region_held3 (fun w' => w'.cell? ⟨w.heap.size, 0, none⟩ = some (.int .i64 a1) ∧ w'.cell? ⟨w.heap.size, 1, none⟩ = some (.int .i64 b1)) (go_keep)
    (first
      | (go_at_call 27; go_must (refine (toChargeS_any _ _ _ xs0 _ HL0.out (rd0.up ((Below.refl _ _).alloc (Nat.le_refl _) _).drew (by simp)) (by omega)).mono ?_); rintro e w1 ⟨rfl, o1, hb1⟩; simp only [heap_drew, World.size_alloc] at o1; have t1 := below_boxed_drew hb1; have hs1' : w.heap.size + 1 ≤ w1.heap.size := (by (have := hb1.size; (try simp at this); omega)); have hz1' : w.heap.size < w1.heap.size := (by omega); have bx1 : w1.cell? ⟨w.heap.size, 0, none⟩ = some (.int .i64 a1) := (by (rw [hb1.cell (by simp)]; go_simp)); have by1 : w1.cell? ⟨w.heap.size, 1, none⟩ = some (.int .i64 b1) := (by (rw [hb1.cell (by simp)]; go_simp)))
      | (go_at_call 19; go_must (refine (toFurnace_any _ _ _).mono ?_); rintro e w2 ⟨rfl, hb2⟩; have t2 := below_next t1 hb2; have hs2' : w1.heap.size ≤ w2.heap.size := (by (have := hb2.size; (try simp at this); omega)); have hz2' : w.heap.size < w2.heap.size := (by omega); have bx2 : w2.cell? ⟨w.heap.size, 0, none⟩ = some (.int .i64 a1) := (hb2.cell (by exact hz1')).trans bx1; have by2 : w2.cell? ⟨w.heap.size, 1, none⟩ = some (.int .i64 b1) := (hb2.cell (by exact hz1')).trans by1; have o1 := own_below o1 hb2)
      | (go_at_call 39; go_must (refine (CS.out _ _ _ _ HL0.out (RdP.of_own o1) (by omega)).mono ?_); intro e w3 hrow3; obtain ⟨AA2, cc2, rfl, g2, hb3⟩ := hrow3.at_ HN.out; have lg2 := g2.lt; have t3 := below_next t2 hb3; have hs3' : w2.heap.size ≤ w3.heap.size := (by (have := hb3.size; (try simp at this); omega)); have hz3' : w.heap.size < w3.heap.size := (by omega); have bx3 : w3.cell? ⟨w.heap.size, 0, none⟩ = some (.int .i64 a1) := (hb3.cell (by exact hz2')).trans bx2; have by3 : w3.cell? ⟨w.heap.size, 1, none⟩ = some (.int .i64 b1) := (hb3.cell (by exact hz2')).trans by2; have o1 := own_below o1 hb3))
  go_wp2_with (fail)
  refine (toChargeS_any _ _ _ xs0 _ HL0.out (rd0.up t3 t3.size) (by omega)).mono ?_
  rintro e w4 ⟨rfl, o3, hb4⟩
  have t4 := below_next t3 hb4
  have hs4' : w3.heap.size ≤ w4.heap.size := (by (have := hb4.size; (try simp at this); omega))
  have hz4' : w.heap.size < w4.heap.size := (by omega)
  have bx4 : w4.cell? ⟨w.heap.size, 0, none⟩ = some (.int .i64 a1) := (hb4.cell (by exact hz3')).trans bx3
  have by4 : w4.cell? ⟨w.heap.size, 1, none⟩ = some (.int .i64 b1) := (hb4.cell (by exact hz3')).trans by3
  have g2 := own_below g2 hb4
  have lo3 := o3.lt
  go_wp2_with (fail)
  refine (toFurnace_any _ _ _).mono ?_
  rintro e w5 ⟨rfl, hb5⟩
  have t5 := below_next t4 hb5
  have hs5' : w4.heap.size ≤ w5.heap.size := (by (have := hb5.size; (try simp at this); omega))
  have hz5' : w.heap.size < w5.heap.size := (by omega)
  have bx5 : w5.cell? ⟨w.heap.size, 0, none⟩ = some (.int .i64 a1) := (hb5.cell (by exact hz4')).trans bx4
  have by5 : w5.cell? ⟨w.heap.size, 1, none⟩ = some (.int .i64 b1) := (hb5.cell (by exact hz4')).trans by4
  have g2 := own_below g2 hb5
  have o3 := own_below o3 hb5
  go_wp2_with (fail)
  refine (CI.out _ _ _ _ HL0.out (RdP.of_own o3) (by omega)).mono ?_
  intro e w6 hrow6
  obtain ⟨AA4, cc4, rfl, g4, hb6⟩ := hrow6.at_ HN.out
  have lg4 := g4.lt
  have t6 := below_next t5 hb6
  have hs6' : w5.heap.size ≤ w6.heap.size := (by (have := hb6.size; (try simp at this); omega))
  have hz6' : w.heap.size < w6.heap.size := (by omega)
  have bx6 : w6.cell? ⟨w.heap.size, 0, none⟩ = some (.int .i64 a1) := (hb6.cell (by exact hz5')).trans bx5
  have by6 : w6.cell? ⟨w.heap.size, 1, none⟩ = some (.int .i64 b1) := (hb6.cell (by exact hz5')).trans by5
  have g2 := own_below g2 hb6
  have o3 := own_below o3 hb6
  go_wp2_with (fail)
  refine (eqPassS_same _ _ _ _ _ L _ HN.out (RdP.of_own g4) (RdP.of_own g2) (by omega)).mono ?_
  rintro e w7 ⟨rfl, hb7⟩
  have t7 := below_next t6 hb7
  have hs7' : w6.heap.size ≤ w7.heap.size := (by (have := hb7.size; (try simp at this); omega))
  have hz7' : w.heap.size < w7.heap.size := (by omega)
  have bx7 : w7.cell? ⟨w.heap.size, 0, none⟩ = some (.int .i64 a1) := (hb7.cell (by exact hz6')).trans bx6
  have by7 : w7.cell? ⟨w.heap.size, 1, none⟩ = some (.int .i64 b1) := (hb7.cell (by exact hz6')).trans by6
  have g2 := own_below g2 hb7
  have o3 := own_below o3 hb7
  have g4 := own_below g4 hb7
  go_wp2_with (fail)
  refine (toChargeS_any _ _ _ xs0 _ HL0.out (rd0.up t7 t7.size) (by omega)).mono ?_
  rintro e w8 ⟨rfl, o5, hb8⟩
  have t8 := below_next t7 hb8
  have hs8' : w7.heap.size ≤ w8.heap.size := (by (have := hb8.size; (try simp at this); omega))
  have hz8' : w.heap.size < w8.heap.size := (by omega)
  have bx8 : w8.cell? ⟨w.heap.size, 0, none⟩ = some (.int .i64 a1) := (hb8.cell (by exact hz7')).trans bx7
  have by8 : w8.cell? ⟨w.heap.size, 1, none⟩ = some (.int .i64 b1) := (hb8.cell (by exact hz7')).trans by7
  have g2 := own_below g2 hb8
  have o3 := own_below o3 hb8
  have g4 := own_below g4 hb8
  go_wp2_with (fail)
  refine (eqChargeS_same _ _ _ _ _ xs0 _ HL0.out (RdP.of_own o3) (RdP.of_own o5) (by omega)).mono ?_
  rintro e w9 ⟨rfl, hb9⟩
  have t9 := below_next t8 hb9
  have hs9' : w8.heap.size ≤ w9.heap.size := (by (have := hb9.size; (try simp at this); omega))
  have hz9' : w.heap.size < w9.heap.size := (by omega)
  have bx9 : w9.cell? ⟨w.heap.size, 0, none⟩ = some (.int .i64 a1) := (hb9.cell (by exact hz8')).trans bx8
  have by9 : w9.cell? ⟨w.heap.size, 1, none⟩ = some (.int .i64 b1) := (hb9.cell (by exact hz8')).trans by8
  have g2 := own_below g2 hb9
  have o3 := own_below o3 hb9
  have g4 := own_below g4 hb9
  go_wp2_with (fail)
  refine (markChargeS_any _ _ _ (1) xs0 _ _ o3 (by omega) (by omega) (by omega)).mono ?_
  rintro e w10 ⟨rfl, o3, hg10⟩
  have t10 := t9.grown hg10 t9.size (fun k hk => by have := lo3 k hk; omega)
  have hs10' : w9.heap.size ≤ w10.heap.size := hg10.size
  have hz10' : w.heap.size < w10.heap.size := (by omega)
  have bx10 : w10.cell? ⟨w.heap.size, 0, none⟩ = some (.int .i64 a1) := hg10.cell bx9 (fun e => by (have := lo3 _ e.symm; (simp only at this); omega))
  have by10 : w10.cell? ⟨w.heap.size, 1, none⟩ = some (.int .i64 b1) := hg10.cell by9 (fun e => by (have := lo3 _ e.symm; (simp only at this); omega))
  have g2 := own_apart g2 hg10 lg2 lo3 (by omega)
  have g4 := own_apart g4 hg10 lg4 lo3 (by omega)
  go_wp2_with (fail)
  refine (eqPassS_same _ _ _ _ _ L _ HN.out (RdP.of_own g4) (RdP.of_own g2) (by omega)).mono ?_
  rintro e w11 ⟨rfl, hb11⟩
  have t11 := below_next t10 hb11
  have hs11' : w10.heap.size ≤ w11.heap.size := (by (have := hb11.size; (try simp at this); omega))
  have hz11' : w.heap.size < w11.heap.size := (by omega)
  have bx11 : w11.cell? ⟨w.heap.size, 0, none⟩ = some (.int .i64 a1) := (hb11.cell (by exact hz10')).trans bx10
  have by11 : w11.cell? ⟨w.heap.size, 1, none⟩ = some (.int .i64 b1) := (hb11.cell (by exact hz10')).trans by10
  have g2 := own_below g2 hb11
  have g4 := own_below g4 hb11
  go_wp2_with (fail)
  refine (markPassS_any _ _ _ 1 L _ _ g4 (by omega) (by omega) (by omega)).mono ?_
  rintro e w12 ⟨rfl, g4, hg12⟩
  have t12 := t11.grown hg12 t11.size (fun k hk => by have := lg4 k hk; omega)
  have hs12' : w11.heap.size ≤ w12.heap.size := hg12.size
  have hz12' : w.heap.size < w12.heap.size := (by omega)
  have bx12 : w12.cell? ⟨w.heap.size, 0, none⟩ = some (.int .i64 a1) := hg12.cell bx11 (fun e => by (have := lg4 _ e.symm; (simp only at this); omega))
  have by12 : w12.cell? ⟨w.heap.size, 1, none⟩ = some (.int .i64 b1) := hg12.cell by11 (fun e => by (have := lg4 _ e.symm; (simp only at this); omega))
  have g2 := own_apart g2 hg12 lg2 lg4 (by omega)
  go_wp2_with (fail)
  refine (heldPassS_any _ _ _ 1 _ _ (RdP.of_own g4) (by omega) (by omega) (by omega)).mono ?_
  rintro e w' ⟨rfl, rfl⟩
  go_wp2_with (fail)
  go_region_held3 (fun w' => w'.cell? ⟨w.heap.size, 0, none⟩ = some (.int .i64 a1) ∧ w'.cell? ⟨w.heap.size, 1, none⟩ = some (.int .i64 b1)) (go_keep)
    (first
      | (go_at_call 27; go_must (refine (toChargeS_any _ _ _ xs0 _ HL0.out (rd0.up (Below.drew t12) (by simpa using t12.size)) (by omega)).mono ?_); rintro e w13 ⟨rfl, o6, hb13⟩; simp only [heap_drew] at o6; have hb13 := below_of_drew hb13; have t13 := below_next t12 hb13; have hs13' : w12.heap.size ≤ w13.heap.size := (by (have := hb13.size; (try simp at this); omega)); have hz13' : w.heap.size < w13.heap.size := (by omega); have bx13 : w13.cell? ⟨w.heap.size, 0, none⟩ = some (.int .i64 a1) := (hb13.cell (by exact hz12')).trans bx12; have by13 : w13.cell? ⟨w.heap.size, 1, none⟩ = some (.int .i64 b1) := (hb13.cell (by exact hz12')).trans by12; have g2 := own_below g2 hb13; have g4 := own_below g4 hb13)
      | (go_at_call 19; go_must (refine (toFurnace_any _ _ _).mono ?_); rintro e w14 ⟨rfl, hb14⟩; have t14 := below_next t13 hb14; have hs14' : w13.heap.size ≤ w14.heap.size := (by (have := hb14.size; (try simp at this); omega)); have hz14' : w.heap.size < w14.heap.size := (by omega); have bx14 : w14.cell? ⟨w.heap.size, 0, none⟩ = some (.int .i64 a1) := (hb14.cell (by exact hz13')).trans bx13; have by14 : w14.cell? ⟨w.heap.size, 1, none⟩ = some (.int .i64 b1) := (hb14.cell (by exact hz13')).trans by13; have g2 := own_below g2 hb14; have g4 := own_below g4 hb14; have o6 := own_below o6 hb14)
      | (go_at_call 40; go_must (refine (CI.out _ _ _ _ HL0.out (RdP.of_own o6) (by omega)).mono ?_); intro e w15 hrow15; obtain ⟨AA7, cc7, rfl, g7, hb15⟩ := hrow15.at_ HN.out; have lg7 := g7.lt; have t15 := below_next t14 hb15; have hs15' : w14.heap.size ≤ w15.heap.size := (by (have := hb15.size; (try simp at this); omega)); have hz15' : w.heap.size < w15.heap.size := (by omega); have bx15 : w15.cell? ⟨w.heap.size, 0, none⟩ = some (.int .i64 a1) := (hb15.cell (by exact hz14')).trans bx14; have by15 : w15.cell? ⟨w.heap.size, 1, none⟩ = some (.int .i64 b1) := (hb15.cell (by exact hz14')).trans by14; have g2 := own_below g2 hb15; have g4 := own_below g4 hb15; have o6 := own_below o6 hb15))
  go_wp2_with (fail)
  refine (eqPassS_same _ _ _ _ _ L _ HN.out (RdP.of_own g7) (RdP.of_own g2) (by omega)).mono ?_
  rintro e w16 ⟨rfl, hb16⟩
  have t16 := below_next t15 hb16
  have hs16' : w15.heap.size ≤ w16.heap.size := (by (have := hb16.size; (try simp at this); omega))
  have hz16' : w.heap.size < w16.heap.size := (by omega)
  have bx16 : w16.cell? ⟨w.heap.size, 0, none⟩ = some (.int .i64 a1) := (hb16.cell (by exact hz15')).trans bx15
  have by16 : w16.cell? ⟨w.heap.size, 1, none⟩ = some (.int .i64 b1) := (hb16.cell (by exact hz15')).trans by15
  have g2 := own_below g2 hb16
  have g4 := own_below g4 hb16
  have g7 := own_below g7 hb16
  go_wp2_with (fail)
  refine (heldPassS_any _ _ _ 1 _ _ (RdP.of_own g4) (by omega) (by omega) (by omega)).mono ?_
  rintro e w' ⟨rfl, rfl⟩
  go_wp2
  go_ret
  exact ⟨rfl, t16⟩
end Go.Proofs.Ytkpgfmmbpnccgaa
