/- The walk of the law FnExactSlabsLeast: it calls the reference and the program on copies, compares, and finds the arguments unchanged. -/
import Derived.Test.YtmomcelhigcceaaSlabLeast
import Derived.Test.YtmomcelhigcceaaSz
namespace Go.Proofs.Ytmomcelhigcceaa
open Go.RowKit
set_option linter.unusedVariables false
set_option maxRecDepth 100000 in
set_option maxHeartbeats 4000000 in
theorem walkFnExactSlabsLeast (w : World) (a0 : Int) (_ : (Lit.int .i64 a0).wf = true) (A1 : Option Addr) (n1 c1 : Nat) (xs1 : List (Int × Int)) (hl1 : xs1.length = n1) (rd1 : RdP w w.heap.size A1 xs1) (bd1 : n1 ≤ maxLen) (_ : ∀ x ∈ xs1, (Lit.int .i64 x.1).wf = true ∧ (Lit.int .i64 x.2).wf = true) (A2 : Option Addr) (n2 c2 : Nat) (xs2 : List Int) (hl2 : xs2.length = n2) (rd2 : RdI .i64 w w.heap.size A2 xs2) (bd2 : n2 ≤ maxLen) (_ : ∀ x ∈ xs2, (Lit.int .i64 x).wf = true) :
    Calls Try.prog 16 #[.int .i64 a0, .slice A1 n1 c1, .slice A2 n2 c2] w fun e w' => e = .returned (.bool true) ∧ Below w.heap.size w w' := by
  have HL1 := Lib.hid hl1
  clear hl1
  unfold maxLen at bd1
  have HL2 := Lib.hid hl2
  clear hl2
  unfold maxLen at bd2
  by_cases hs2 : (1048576 : Int) < (n2 : Int)
  · go_enter Try.func16, Try.ntmps16
    go_wp2
    go_ret
    exact ⟨rfl, (by repeat' (first | exact Below.refl _ _ | assumption | refine Below.alloc ?_ (by first | omega | (simp; done) | (simp; omega)) _ | refine Below.setCell ?_ (by first | omega | (simp; done) | (simp; omega)) _ | refine Below.drew ?_ | refine below_drawn ?_ _))⟩
  have hn2 : n2 ≤ 1048576 := by omega
  by_cases hs1 : 1048576 < (n1 : Int)
  · have hz1 := szOf_lt hs1
    go_enter Try.func16, Try.ntmps16
    go_wp2_with ((go_at_call 23; refine (szStretchS_any _ _ _ _ _ (by omega) (by omega) (by unfold maxLen; omega)).mono ?_; rintro e w' ⟨rfl, rfl⟩))
    go_ret
    exact ⟨rfl, (by repeat' (first | exact Below.refl _ _ | assumption | refine Below.alloc ?_ (by first | omega | (simp; done) | (simp; omega)) _ | refine Below.setCell ?_ (by first | omega | (simp; done) | (simp; omega)) _ | refine Below.drew ?_ | refine below_drawn ?_ _))⟩
  have hz1 := szOf_ge (left := 1048576) (n := n1) (by omega)
  have hy1 := szOf_le (left := 1048576) (n := n1) (by omega)
  have hn1 : n1 ≤ 1048576 := by omega
  go_enter Try.func16, Try.ntmps16
  go_wp2_with ((go_at_call 23; refine (szStretchS_any _ _ _ _ _ (by omega) (by omega) (by unfold maxLen; omega)).mono ?_; rintro e w' ⟨rfl, rfl⟩))
  go_wp2_with (fail)
  refine (toStretchS_any _ _ _ xs1 _ HL1.out rd1 (by omega)).mono ?_
  rintro e w1 ⟨rfl, o1, hb1⟩
  have t1 := hb1
  have hs1' : w.heap.size ≤ w1.heap.size := (by (have := hb1.size; (try simp at this); omega))
  go_wp2_with (fail)
  refine (toIntS_any _ _ _ xs2 _ HL2.out (rd2.up t1 t1.size) (by omega)).mono ?_
  rintro e w2 ⟨rfl, o2, hb2⟩
  have t2 := below_next t1 hb2
  have hs2' : w1.heap.size ≤ w2.heap.size := (by (have := hb2.size; (try simp at this); omega))
  have o1 := own_below o1 hb2
  go_wp2_with (fail)
  refine (specSLeast_any a0 _ _ _ xs1 _ _ _ xs2 _ HL1.out (RdP.of_own o1) (by omega) HL2.out (RdI.of_own o2) (by omega)).mono ?_
  rintro e w3 ⟨rfl, hb3⟩
  have t3 := below_next t2 hb3
  have hs3' : w2.heap.size ≤ w3.heap.size := (by (have := hb3.size; (try simp at this); omega))
  have o1 := own_below o1 hb3
  have o2 := own_below o2 hb3
  go_wp2_with (fail)
  refine (toStretchS_any _ _ _ xs1 _ HL1.out (rd1.up t3 t3.size) (by omega)).mono ?_
  rintro e w4 ⟨rfl, o3, hb4⟩
  have t4 := below_next t3 hb4
  have hs4' : w3.heap.size ≤ w4.heap.size := (by (have := hb4.size; (try simp at this); omega))
  go_wp2_with (fail)
  refine (toIntS_any _ _ _ xs2 _ HL2.out (rd2.up t4 t4.size) (by omega)).mono ?_
  rintro e w5 ⟨rfl, o4, hb5⟩
  have t5 := below_next t4 hb5
  have hs5' : w4.heap.size ≤ w5.heap.size := (by (have := hb5.size; (try simp at this); omega))
  have o3 := own_below o3 hb5
  go_wp2_with (fail)
  refine (implSLeast_any a0 _ _ _ xs1 _ _ _ xs2 _ HL1.out (RdP.of_own o3) (by omega) HL2.out (RdI.of_own o4) (by omega)).mono ?_
  rintro e w6 ⟨rfl, hb6⟩
  have t6 := below_next t5 hb6
  have hs6' : w5.heap.size ≤ w6.heap.size := (by (have := hb6.size; (try simp at this); omega))
  have o3 := own_below o3 hb6
  have o4 := own_below o4 hb6
  go_wp2_with (fail)
  refine (toStretchS_any _ _ _ xs1 _ HL1.out (rd1.up t6 t6.size) (by omega)).mono ?_
  rintro e w7 ⟨rfl, o5, hb7⟩
  have t7 := below_next t6 hb7
  have hs7' : w6.heap.size ≤ w7.heap.size := (by (have := hb7.size; (try simp at this); omega))
  have o3 := own_below o3 hb7
  have o4 := own_below o4 hb7
  go_wp2_with (fail)
  refine (eqStretchS_same _ _ _ _ _ xs1 _ HL1.out (RdP.of_own o3) (RdP.of_own o5) (by omega)).mono ?_
  rintro e w8 ⟨rfl, hb8⟩
  have t8 := below_next t7 hb8
  have hs8' : w7.heap.size ≤ w8.heap.size := (by (have := hb8.size; (try simp at this); omega))
  have o3 := own_below o3 hb8
  have o4 := own_below o4 hb8
  go_wp2_with (fail)
  refine (toIntS_any _ _ _ xs2 _ HL2.out (rd2.up t8 t8.size) (by omega)).mono ?_
  rintro e w9 ⟨rfl, o6, hb9⟩
  have t9 := below_next t8 hb9
  have hs9' : w8.heap.size ≤ w9.heap.size := (by (have := hb9.size; (try simp at this); omega))
  have o3 := own_below o3 hb9
  have o4 := own_below o4 hb9
  go_wp2_with (fail)
  refine (eqIntS_same _ _ _ _ _ xs2 _ HL2.out (RdI.of_own o4) (RdI.of_own o6) (by omega)).mono ?_
  rintro e w10 ⟨rfl, hb10⟩
  have t10 := below_next t9 hb10
  have hs10' : w9.heap.size ≤ w10.heap.size := (by (have := hb10.size; (try simp at this); omega))
  have o3 := own_below o3 hb10
  have o4 := own_below o4 hb10
  go_wp2
  go_ret
  exact ⟨rfl, t10⟩
end Go.Proofs.Ytmomcelhigcceaa
