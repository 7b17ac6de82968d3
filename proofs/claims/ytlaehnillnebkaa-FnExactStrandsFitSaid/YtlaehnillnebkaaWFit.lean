/- The walk of the law FnExactStrandsFit: it calls the reference and the program on copies, compares, and finds the arguments unchanged. -/
import Derived.Test.YtlaehnillnebkaaFitImpl
import Derived.Test.YtlaehnillnebkaaFitSpec
import Derived.Test.YtlaehnillnebkaaCopy
namespace Go.Proofs.Ytlaehnillnebkaa
open Go.RowKit
set_option linter.unusedVariables false
set_option maxRecDepth 100000 in
set_option maxHeartbeats 4000000 in
theorem walkFnExactStrandsFit (w : World) (A1 : Option Addr) (n1 c1 : Nat) (xs1 : List Int) (hl1 : xs1.length = n1) (rd1 : RdI .i64 w w.heap.size A1 xs1) (bd1 : n1 ≤ maxLen) (_ : ∀ x ∈ xs1, (Lit.int .i64 x).wf = true) (a0 : Int) (_ : (Lit.int .i64 a0).wf = true) :
    Calls Try.prog 3 #[.slice A1 n1 c1, .int .i64 a0] w fun e w' => e = .returned (.bool true) ∧ Below w.heap.size w w' := by
  have HL1 := Lib.hid hl1
  clear hl1
  unfold maxLen at bd1
  by_cases hs1 : (1048576 : Int) < (n1 : Int)
  · go_enter Try.func3, Try.ntmps3
    go_wp2
    go_ret
    exact ⟨rfl, (by repeat' (first | exact Below.refl _ _ | assumption | refine Below.alloc ?_ (by first | omega | (simp; done) | (simp; omega)) _ | refine Below.setCell ?_ (by first | omega | (simp; done) | (simp; omega)) _ | refine Below.drew ?_ | refine below_drawn ?_ _))⟩
  have hn1 : n1 ≤ 1048576 := by omega
  obtain ⟨L, hfit⟩ := fit_exists xs1 a0
  have cS := fun A1' m1' d1' W e1' r1' s1' => specFit_any A1' m1' d1' xs1 a0 W e1' r1' s1' L hfit
  have cI := fun A1' m1' d1' W e1' r1' s1' => implFit_any A1' m1' d1' xs1 a0 W e1' r1' s1' L hfit
  have hLb : L.length ≤ 1000 := Nat.le_trans hfit.le (by omega)
  clear hfit
  obtain ⟨nL, hnL⟩ : ∃ nL, L.length = nL := ⟨_, rfl⟩
  rw [hnL] at hLb
  have HN := Lib.hid hnL
  have CS := Lib.hid cS
  have CI := Lib.hid cI
  clear hnL cS cI
  go_enter Try.func3, Try.ntmps3
  go_wp2_with (fail)
  refine (toIntS_any _ _ _ xs1 _ HL1.out rd1 (by omega)).mono ?_
  rintro e w1 ⟨rfl, o1, hb1⟩
  have t1 := hb1
  have hs1' : w.heap.size ≤ w1.heap.size := (by (have := hb1.size; (try simp at this); omega))
  go_wp2_with (fail)
  refine (CS.out _ _ _ _ HL1.out (RdI.of_own o1) (by omega)).mono ?_
  intro e w2 hrow2
  obtain ⟨AA2, cc2, rfl, g2, hb2⟩ := hrow2.at_ HN.out
  have lg2 := g2.lt
  have t2 := below_next t1 hb2
  have hs2' : w1.heap.size ≤ w2.heap.size := (by (have := hb2.size; (try simp at this); omega))
  have o1 := own_below o1 hb2
  go_wp2_with (fail)
  refine (toIntS_any _ _ _ xs1 _ HL1.out (rd1.up t2 t2.size) (by omega)).mono ?_
  rintro e w3 ⟨rfl, o3, hb3⟩
  have t3 := below_next t2 hb3
  have hs3' : w2.heap.size ≤ w3.heap.size := (by (have := hb3.size; (try simp at this); omega))
  have g2 := own_below g2 hb3
  have lo3 := o3.lt
  go_wp2_with (fail)
  refine (CI.out _ _ _ _ HL1.out (RdI.of_own o3) (by omega)).mono ?_
  intro e w4 hrow4
  obtain ⟨AA4, cc4, rfl, g4, hb4⟩ := hrow4.at_ HN.out
  have lg4 := g4.lt
  have t4 := below_next t3 hb4
  have hs4' : w3.heap.size ≤ w4.heap.size := (by (have := hb4.size; (try simp at this); omega))
  have g2 := own_below g2 hb4
  have o3 := own_below o3 hb4
  go_wp2_with (fail)
  refine (eqIntS_same _ _ _ _ _ L _ HN.out (RdI.of_own g4) (RdI.of_own g2) (by omega)).mono ?_
  rintro e w5 ⟨rfl, hb5⟩
  have t5 := below_next t4 hb5
  have hs5' : w4.heap.size ≤ w5.heap.size := (by (have := hb5.size; (try simp at this); omega))
  have g2 := own_below g2 hb5
  have o3 := own_below o3 hb5
  have g4 := own_below g4 hb5
  go_wp2_with (fail)
  refine (toIntS_any _ _ _ xs1 _ HL1.out (rd1.up t5 t5.size) (by omega)).mono ?_
  rintro e w6 ⟨rfl, o5, hb6⟩
  have t6 := below_next t5 hb6
  have hs6' : w5.heap.size ≤ w6.heap.size := (by (have := hb6.size; (try simp at this); omega))
  have g2 := own_below g2 hb6
  have o3 := own_below o3 hb6
  have g4 := own_below g4 hb6
  go_wp2_with (fail)
  refine (eqIntS_same _ _ _ _ _ xs1 _ HL1.out (RdI.of_own o3) (RdI.of_own o5) (by omega)).mono ?_
  rintro e w7 ⟨rfl, hb7⟩
  have t7 := below_next t6 hb7
  have hs7' : w6.heap.size ≤ w7.heap.size := (by (have := hb7.size; (try simp at this); omega))
  have g2 := own_below g2 hb7
  have o3 := own_below o3 hb7
  have g4 := own_below g4 hb7
  go_wp2_with (fail)
  refine (markIntS_any _ _ _ (1) xs1 _ _ o3 (by omega) (by omega) (by omega)).mono ?_
  rintro e w8 ⟨rfl, o3, hg8⟩
  have t8 := t7.grown hg8 t7.size (fun k hk => by have := lo3 k hk; omega)
  have hs8' : w7.heap.size ≤ w8.heap.size := hg8.size
  have g2 := own_apart g2 hg8 lg2 lo3 (by omega)
  have g4 := own_apart g4 hg8 lg4 lo3 (by omega)
  go_wp2_with (fail)
  refine (eqIntS_same _ _ _ _ _ L _ HN.out (RdI.of_own g4) (RdI.of_own g2) (by omega)).mono ?_
  rintro e w9 ⟨rfl, hb9⟩
  have t9 := below_next t8 hb9
  have hs9' : w8.heap.size ≤ w9.heap.size := (by (have := hb9.size; (try simp at this); omega))
  have g2 := own_below g2 hb9
  have g4 := own_below g4 hb9
  go_wp2_with (fail)
  refine (markIntS_any _ _ _ 1 L _ _ g4 (by omega) (by omega) (by omega)).mono ?_
  rintro e w10 ⟨rfl, g4, hg10⟩
  have t10 := t9.grown hg10 t9.size (fun k hk => by have := lg4 k hk; omega)
  have hs10' : w9.heap.size ≤ w10.heap.size := hg10.size
  have g2 := own_apart g2 hg10 lg2 lg4 (by omega)
  go_wp2_with (fail)
  refine (heldIntS_any _ _ _ 1 _ _ (RdI.of_own g4) (by omega) (by omega) (by omega)).mono ?_
  rintro e w' ⟨rfl, rfl⟩
  go_wp2_with (fail)
  refine (toIntS_any _ _ _ xs1 _ HL1.out (rd1.up t10 t10.size) (by omega)).mono ?_
  rintro e w11 ⟨rfl, o6, hb11⟩
  have t11 := below_next t10 hb11
  have hs11' : w10.heap.size ≤ w11.heap.size := (by (have := hb11.size; (try simp at this); omega))
  have g2 := own_below g2 hb11
  have g4 := own_below g4 hb11
  go_wp2_with (fail)
  refine (CI.out _ _ _ _ HL1.out (RdI.of_own o6) (by omega)).mono ?_
  intro e w12 hrow12
  obtain ⟨AA7, cc7, rfl, g7, hb12⟩ := hrow12.at_ HN.out
  have lg7 := g7.lt
  have t12 := below_next t11 hb12
  have hs12' : w11.heap.size ≤ w12.heap.size := (by (have := hb12.size; (try simp at this); omega))
  have g2 := own_below g2 hb12
  have g4 := own_below g4 hb12
  have o6 := own_below o6 hb12
  go_wp2_with (fail)
  refine (eqIntS_same _ _ _ _ _ L _ HN.out (RdI.of_own g7) (RdI.of_own g2) (by omega)).mono ?_
  rintro e w13 ⟨rfl, hb13⟩
  have t13 := below_next t12 hb13
  have hs13' : w12.heap.size ≤ w13.heap.size := (by (have := hb13.size; (try simp at this); omega))
  have g2 := own_below g2 hb13
  have g4 := own_below g4 hb13
  have g7 := own_below g7 hb13
  go_wp2_with (fail)
  refine (heldIntS_any _ _ _ 1 _ _ (RdI.of_own g4) (by omega) (by omega) (by omega)).mono ?_
  rintro e w' ⟨rfl, rfl⟩
  go_wp2
  go_ret
  exact ⟨rfl, t13⟩
end Go.Proofs.Ytlaehnillnebkaa
