/- The walk of the law FnExactSplitBest: it calls the reference and the program on copies, compares, and finds the arguments unchanged. -/
import Derived.Test.YtkpgfmmbpnccgaaSplitBest
import Derived.Test.YtkpgfmmbpnccgaaSz
namespace Go.Proofs.Ytkpgfmmbpnccgaa
open Go.RowKit
set_option linter.unusedVariables false
set_option maxRecDepth 100000 in
set_option maxHeartbeats 4000000 in
theorem walkFnExactSplitBest (w : World) (A0 : Option Addr) (n0 c0 : Nat) (xs0 : List (Int × Int)) (hl0 : xs0.length = n0) (rd0 : RdP w w.heap.size A0 xs0) (bd0 : n0 ≤ maxLen) (_ : ∀ x ∈ xs0, (Lit.int .i64 x.1).wf = true ∧ (Lit.int .i64 x.2).wf = true) (a1 b1 : Int) (_ : (Lit.int .i64 a1).wf = true) (_ : (Lit.int .i64 b1).wf = true) :
    Calls Try.prog 15 #[.slice A0 n0 c0, .agg #[.int .i64 a1, .int .i64 b1]] w fun e w' => e = .returned (.bool true) ∧ Below w.heap.size w w' := by
  have HL0 := Lib.hid hl0
  clear hl0
  unfold maxLen at bd0
  by_cases hs0 : 1048576 < (n0 : Int)
  · have hz0 := szOf_lt hs0
    go_enter Try.func15, Try.ntmps15
    go_wp2_with ((go_at_call 25; refine (szChargeS_any _ _ _ _ _ (by omega) (by omega) (by unfold maxLen; omega)).mono ?_; rintro e w' ⟨rfl, rfl⟩))
    go_ret
    exact ⟨rfl, (by repeat' (first | exact Below.refl _ _ | assumption | refine Below.alloc ?_ (by first | omega | (simp; done) | (simp; omega)) _ | refine Below.setCell ?_ (by first | omega | (simp; done) | (simp; omega)) _ | refine Below.drew ?_ | refine below_drawn ?_ _))⟩
  have hz0 := szOf_ge (left := 1048576) (n := n0) (by omega)
  have hy0 := szOf_le (left := 1048576) (n := n0) (by omega)
  have hn0 : n0 ≤ 1048576 := by omega
  go_enter Try.func15, Try.ntmps15
  go_wp2_with ((go_at_call 25; refine (szChargeS_any _ _ _ _ _ (by omega) (by omega) (by unfold maxLen; omega)).mono ?_; rintro e w' ⟨rfl, rfl⟩))
  go_wp2_with (fail)
  go_region_held3 (fun w' => w'.cell? ⟨w.heap.size, 0, none⟩ = some (.int .i64 a1) ∧ w'.cell? ⟨w.heap.size, 1, none⟩ = some (.int .i64 b1)) (go_keep)
    (first
      | (go_at_call 27; go_must (refine (toChargeS_any _ _ _ xs0 _ HL0.out (rd0.up ((Below.refl _ _).alloc (Nat.le_refl _) _).drew (by simp)) (by omega)).mono ?_); rintro e w1 ⟨rfl, o1, hb1⟩; simp only [heap_drew, World.size_alloc] at o1; have t1 := below_boxed_drew hb1; have hs1' : w.heap.size + 1 ≤ w1.heap.size := (by (have := hb1.size; (try simp at this); omega)); have hz1' : w.heap.size < w1.heap.size := (by omega); have bx1 : w1.cell? ⟨w.heap.size, 0, none⟩ = some (.int .i64 a1) := (by (rw [hb1.cell (by simp)]; go_simp)); have by1 : w1.cell? ⟨w.heap.size, 1, none⟩ = some (.int .i64 b1) := (by (rw [hb1.cell (by simp)]; go_simp)))
      | (go_at_call 19; go_must (refine (toFurnace_any _ _ _).mono ?_); rintro e w2 ⟨rfl, hb2⟩; have t2 := below_next t1 hb2; have hs2' : w1.heap.size ≤ w2.heap.size := (by (have := hb2.size; (try simp at this); omega)); have hz2' : w.heap.size < w2.heap.size := (by omega); have bx2 : w2.cell? ⟨w.heap.size, 0, none⟩ = some (.int .i64 a1) := (hb2.cell (by exact hz1')).trans bx1; have by2 : w2.cell? ⟨w.heap.size, 1, none⟩ = some (.int .i64 b1) := (hb2.cell (by exact hz1')).trans by1; have o1 := own_below o1 hb2)
      | (go_at_call 50; go_must (refine (specSplitBest_any _ _ _ xs0 a1 b1 _ HL0.out (RdP.of_own o1) (by omega)).mono ?_); rintro e w3 ⟨rfl, hb3⟩; have t3 := below_next t2 hb3; have hs3' : w2.heap.size ≤ w3.heap.size := (by (have := hb3.size; (try simp at this); omega)); have hz3' : w.heap.size < w3.heap.size := (by omega); have bx3 : w3.cell? ⟨w.heap.size, 0, none⟩ = some (.int .i64 a1) := (hb3.cell (by exact hz2')).trans bx2; have by3 : w3.cell? ⟨w.heap.size, 1, none⟩ = some (.int .i64 b1) := (hb3.cell (by exact hz2')).trans by2; have o1 := own_below o1 hb3))
  go_wp2_with (fail)
  refine (toChargeS_any _ _ _ xs0 _ HL0.out (rd0.up t3 t3.size) (by omega)).mono ?_
  rintro e w4 ⟨rfl, o2, hb4⟩
  have t4 := below_next t3 hb4
  have hs4' : w3.heap.size ≤ w4.heap.size := (by (have := hb4.size; (try simp at this); omega))
  have hz4' : w.heap.size < w4.heap.size := (by omega)
  have bx4 : w4.cell? ⟨w.heap.size, 0, none⟩ = some (.int .i64 a1) := (hb4.cell (by exact hz3')).trans bx3
  have by4 : w4.cell? ⟨w.heap.size, 1, none⟩ = some (.int .i64 b1) := (hb4.cell (by exact hz3')).trans by3
  go_wp2_with (fail)
  refine (toFurnace_any _ _ _).mono ?_
  rintro e w5 ⟨rfl, hb5⟩
  have t5 := below_next t4 hb5
  have hs5' : w4.heap.size ≤ w5.heap.size := (by (have := hb5.size; (try simp at this); omega))
  have hz5' : w.heap.size < w5.heap.size := (by omega)
  have bx5 : w5.cell? ⟨w.heap.size, 0, none⟩ = some (.int .i64 a1) := (hb5.cell (by exact hz4')).trans bx4
  have by5 : w5.cell? ⟨w.heap.size, 1, none⟩ = some (.int .i64 b1) := (hb5.cell (by exact hz4')).trans by4
  have o2 := own_below o2 hb5
  go_wp2_with (fail)
  refine (implSplitBest_any _ _ _ xs0 a1 b1 _ HL0.out (RdP.of_own o2) (by omega)).mono ?_
  rintro e w6 ⟨rfl, hb6⟩
  have t6 := below_next t5 hb6
  have hs6' : w5.heap.size ≤ w6.heap.size := (by (have := hb6.size; (try simp at this); omega))
  have hz6' : w.heap.size < w6.heap.size := (by omega)
  have bx6 : w6.cell? ⟨w.heap.size, 0, none⟩ = some (.int .i64 a1) := (hb6.cell (by exact hz5')).trans bx5
  have by6 : w6.cell? ⟨w.heap.size, 1, none⟩ = some (.int .i64 b1) := (hb6.cell (by exact hz5')).trans by5
  have o2 := own_below o2 hb6
  go_wp2_with (fail)
  refine (toChargeS_any _ _ _ xs0 _ HL0.out (rd0.up t6 t6.size) (by omega)).mono ?_
  rintro e w7 ⟨rfl, o3, hb7⟩
  have t7 := below_next t6 hb7
  have hs7' : w6.heap.size ≤ w7.heap.size := (by (have := hb7.size; (try simp at this); omega))
  have hz7' : w.heap.size < w7.heap.size := (by omega)
  have bx7 : w7.cell? ⟨w.heap.size, 0, none⟩ = some (.int .i64 a1) := (hb7.cell (by exact hz6')).trans bx6
  have by7 : w7.cell? ⟨w.heap.size, 1, none⟩ = some (.int .i64 b1) := (hb7.cell (by exact hz6')).trans by6
  have o2 := own_below o2 hb7
  go_wp2_with (fail)
  refine (eqChargeS_same _ _ _ _ _ xs0 _ HL0.out (RdP.of_own o2) (RdP.of_own o3) (by omega)).mono ?_
  rintro e w8 ⟨rfl, hb8⟩
  have t8 := below_next t7 hb8
  have hs8' : w7.heap.size ≤ w8.heap.size := (by (have := hb8.size; (try simp at this); omega))
  have hz8' : w.heap.size < w8.heap.size := (by omega)
  have bx8 : w8.cell? ⟨w.heap.size, 0, none⟩ = some (.int .i64 a1) := (hb8.cell (by exact hz7')).trans bx7
  have by8 : w8.cell? ⟨w.heap.size, 1, none⟩ = some (.int .i64 b1) := (hb8.cell (by exact hz7')).trans by7
  have o2 := own_below o2 hb8
  go_wp2
  go_ret
  exact ⟨rfl, t8⟩
end Go.Proofs.Ytkpgfmmbpnccgaa
