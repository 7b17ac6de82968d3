/- The walk of the law FnExactStrandsLeast: it calls the reference and the program on copies, compares, and finds the arguments unchanged. -/
import Derived.Test.YtmomcelhigcceaaDoorLeastSpec
import Derived.Test.YtmomcelhigcceaaDoorLeastImpl
namespace Go.Proofs.YtmomcelhigcceaaDoor
open Go.RowKit
set_option linter.unusedVariables false
set_option maxRecDepth 100000 in
set_option maxHeartbeats 4000000 in
theorem walkFnExactStrandsLeast (w : World) (A0 : Option Addr) (n0 c0 : Nat) (xs0 : List Int) (hl0 : xs0.length = n0) (rd0 : RdI .i64 w w.heap.size A0 xs0) (bd0 : n0 ≤ maxLen) (_ : ∀ x ∈ xs0, (Lit.int .i64 x).wf = true) (a1 : Int) (_ : (Lit.int .i64 a1).wf = true) (hT : TabAt 1 Lib.deBruijn64tab w) (hg1 : 1 < w.heap.size) :
    Calls Tryd.prog 3 #[.slice A0 n0 c0, .int .i64 a1] w fun e w' => e = .returned (.bool true) ∧ Below w.heap.size w w' := by
  obtain ⟨v, hv⟩ := sleast_exists xs0 a1
  have HL0 := Lib.hid hl0
  clear hl0
  unfold maxLen at bd0
  by_cases hs0 : (1048576 : Int) < (n0 : Int)
  · go_enter Tryd.func3, Tryd.ntmps3
    go_wp2
    go_ret
    exact ⟨rfl, (by repeat' (first | exact Below.refl _ _ | assumption | refine Below.alloc ?_ (by first | omega | (simp; done) | (simp; omega)) _ | refine Below.setCell ?_ (by first | omega | (simp; done) | (simp; omega)) _ | refine Below.drew ?_ | refine below_drawn ?_ _))⟩
  have hn0 : n0 ≤ 1048576 := by omega
  go_enter Tryd.func3, Tryd.ntmps3
  go_wp2_with (fail)
  refine (toIntS_any _ _ _ xs0 _ HL0.out rd0 (by omega)).mono ?_
  rintro e w1 ⟨rfl, o1, hb1⟩
  have t1 := hb1
  have hs1' : w.heap.size ≤ w1.heap.size := (by (have := hb1.size; (try simp at this); omega))
  go_wp2_with (fail)
  refine (specLeast_any _ _ _ xs0 a1 _ HL0.out (RdI.of_own o1) (by omega) hv).mono ?_
  rintro e w2 ⟨rfl, hb2⟩
  have t2 := below_next t1 hb2
  have hs2' : w1.heap.size ≤ w2.heap.size := (by (have := hb2.size; (try simp at this); omega))
  have o1 := own_below o1 hb2
  go_wp2_with (fail)
  refine (toIntS_any _ _ _ xs0 _ HL0.out (rd0.up t2 t2.size) (by omega)).mono ?_
  rintro e w3 ⟨rfl, o2, hb3⟩
  have t3 := below_next t2 hb3
  have hs3' : w2.heap.size ≤ w3.heap.size := (by (have := hb3.size; (try simp at this); omega))
  go_wp2_with (fail)
  refine (implLeast_any _ _ _ xs0 a1 _ HL0.out (RdI.of_own o2) (by omega) hv (tab_up hT hg1 t3) (by have := t3.size; omega)).mono ?_
  rintro e w4 ⟨rfl, hb4⟩
  have t4 := below_next t3 hb4
  have hs4' : w3.heap.size ≤ w4.heap.size := (by (have := hb4.size; (try simp at this); omega))
  have o2 := own_below o2 hb4
  go_wp2_with (fail)
  refine (toIntS_any _ _ _ xs0 _ HL0.out (rd0.up t4 t4.size) (by omega)).mono ?_
  rintro e w5 ⟨rfl, o3, hb5⟩
  have t5 := below_next t4 hb5
  have hs5' : w4.heap.size ≤ w5.heap.size := (by (have := hb5.size; (try simp at this); omega))
  have o2 := own_below o2 hb5
  go_wp2_with (fail)
  refine (eqIntS_same _ _ _ _ _ xs0 _ HL0.out (RdI.of_own o2) (RdI.of_own o3) (by omega)).mono ?_
  rintro e w6 ⟨rfl, hb6⟩
  have t6 := below_next t5 hb6
  have hs6' : w5.heap.size ≤ w6.heap.size := (by (have := hb6.size; (try simp at this); omega))
  have o2 := own_below o2 hb6
  go_wp2
  go_ret
  exact ⟨rfl, t6⟩
end Go.Proofs.YtmomcelhigcceaaDoor
