/- The walk of the law FnExactSlabsBest: it calls the reference and the program on copies, compares, and finds the arguments unchanged. -/
import Derived.Test.YtmomcelhigcceaaSlabBest
import Derived.Test.YtmomcelhigcceaaSz
namespace Go.Proofs.Ytmomcelhigcceaa
open Go.RowKit
set_option linter.unusedVariables false
set_option maxRecDepth 100000 in
set_option maxHeartbeats 4000000 in
theorem walkFnExactSlabsBest (w : World) (a0 : Int) (_ : (Lit.int .i64 a0).wf = true) (A1 : Option Addr) (n1 c1 : Nat) (xs1 : List (Int × Int)) (hl1 : xs1.length = n1) (rd1 : RdP w w.heap.size A1 xs1) (bd1 : n1 ≤ maxLen) (_ : ∀ x ∈ xs1, (Lit.int .i64 x.1).wf = true ∧ (Lit.int .i64 x.2).wf = true) (A2 : Option Addr) (n2 c2 : Nat) (xs2 : List Int) (hl2 : xs2.length = n2) (rd2 : RdI .i64 w w.heap.size A2 xs2) (bd2 : n2 ≤ maxLen) (_ : ∀ x ∈ xs2, (Lit.int .i64 x).wf = true) :
    Calls Try.prog 15 #[.int .i64 a0, .slice A1 n1 c1, .slice A2 n2 c2] w fun e w' => e = .returned (.bool true) ∧ Below w.heap.size w w' := by
  have HL1 := Lib.hid hl1
  clear hl1
  unfold maxLen at bd1
  have HL2 := Lib.hid hl2
  clear hl2
  unfold maxLen at bd2
  by_cases hs2 : (1048576 : Int) < (n2 : Int)
  · go_enter Try.func15, Try.ntmps15
    go_wp2
    go_ret
    exact ⟨rfl, (by repeat' (first | exact Below.refl _ _ | assumption | refine Below.alloc ?_ (by first | omega | (simp; done) | (simp; omega)) _ | refine Below.setCell ?_ (by first | omega | (simp; done) | (simp; omega)) _ | refine Below.drew ?_ | refine below_drawn ?_ _))⟩
  have hn2 : n2 ≤ 1048576 := by omega
  by_cases hs1 : 1048576 < (n1 : Int)
  · have hz1 := szOf_lt hs1
    go_enter Try.func15, Try.ntmps15
    go_wp2_with ((go_at_call 23; refine (szStretchS_any _ _ _ _ _ (by omega) (by omega) (by unfold maxLen; omega)).mono ?_; rintro e w' ⟨rfl, rfl⟩))
    go_ret
    exact ⟨rfl, (by repeat' (first | exact Below.refl _ _ | assumption | refine Below.alloc ?_ (by first | omega | (simp; done) | (simp; omega)) _ | refine Below.setCell ?_ (by first | omega | (simp; done) | (simp; omega)) _ | refine Below.drew ?_ | refine below_drawn ?_ _))⟩
  have hz1 := szOf_ge (left := 1048576) (n := n1) (by omega)
  have hy1 := szOf_le (left := 1048576) (n := n1) (by omega)
  have hn1 : n1 ≤ 1048576 := by omega
  have cS := fun A1' m1' d1' A2' m2' d2' W e1' r1' s1' e2' r2' s2' => specSBest_any a0 A1' m1' d1' xs1 A2' m2' d2' xs2 W e1' r1' s1' e2' r2' s2'
  have cI := fun A1' m1' d1' A2' m2' d2' W e1' r1' s1' e2' r2' s2' => implSBest_any a0 A1' m1' d1' xs1 A2' m2' d2' xs2 W e1' r1' s1' e2' r2' s2'
  have hLb : (slabsBest a0 xs1 xs2).length ≤ 1000 := slabsBest_len _ _ _
  generalize slabsBest a0 xs1 xs2 = L at cS cI hLb
  obtain ⟨nL, hnL⟩ : ∃ nL, L.length = nL := ⟨_, rfl⟩
  rw [hnL] at hLb
  have HN := Lib.hid hnL
  have CS := Lib.hid cS
  have CI := Lib.hid cI
  clear hnL cS cI
  go_enter Try.func15, Try.ntmps15
  go_wp2_with ((go_at_call 23; refine (szStretchS_any _ _ _ _ _ (by omega) (by omega) (by unfold maxLen; omega)).mono ?_; rintro e w' ⟨rfl, rfl⟩))
  go_wp2_with (fail)
  refine (toStretchS_any _ _ _ xs1 _ HL1.out rd1 (by omega)).mono ?_
  rintro e w1 ⟨rfl, o1, hb1⟩
  have t1 := hb1
  have hs1' : w.heap.size ≤ w1.heap.size := (by (have := hb1.size; (try simp at this); omega))
  go_wp2_with (fail)
  refine (toIntS_any _ _ _ xs2 _ HL2.out (rd2.up t1 t1.size) (by omega)).mono ?_
  rintro e w2 ⟨rfl, o2, hb2⟩
  have t2 := below_next t1 hb2
  have hs2' : w1.heap.size ≤ w2.heap.size := (by (have := hb2.size; (try simp at this); omega))
  have o1 := own_below o1 hb2
  go_wp2_with (fail)
  refine (CS.out _ _ _ _ _ _ _ HL1.out (RdP.of_own o1) (by omega) HL2.out (RdI.of_own o2) (by omega)).mono ?_
  intro e w3 hrow3
  obtain ⟨AA3, cc3, rfl, g3, hb3⟩ := hrow3.at_ HN.out
  have lg3 := g3.lt
  have t3 := below_next t2 hb3
  have hs3' : w2.heap.size ≤ w3.heap.size := (by (have := hb3.size; (try simp at this); omega))
  have o1 := own_below o1 hb3
  have o2 := own_below o2 hb3
  go_wp2_with (fail)
  refine (toStretchS_any _ _ _ xs1 _ HL1.out (rd1.up t3 t3.size) (by omega)).mono ?_
  rintro e w4 ⟨rfl, o4, hb4⟩
  have lo4 := o4.lt
  have t4 := below_next t3 hb4
  have hs4' : w3.heap.size ≤ w4.heap.size := (by (have := hb4.size; (try simp at this); omega))
  have g3 := own_below g3 hb4
  go_wp2_with (fail)
  refine (toIntS_any _ _ _ xs2 _ HL2.out (rd2.up t4 t4.size) (by omega)).mono ?_
  rintro e w5 ⟨rfl, o5, hb5⟩
  have lo5 := o5.lt
  have t5 := below_next t4 hb5
  have hs5' : w4.heap.size ≤ w5.heap.size := (by (have := hb5.size; (try simp at this); omega))
  have g3 := own_below g3 hb5
  have o4 := own_below o4 hb5
  go_wp2_with (fail)
  refine (CI.out _ _ _ _ _ _ _ HL1.out (RdP.of_own o4) (by omega) HL2.out (RdI.of_own o5) (by omega)).mono ?_
  intro e w6 hrow6
  obtain ⟨AA6, cc6, rfl, g6, hb6⟩ := hrow6.at_ HN.out
  have lg6 := g6.lt
  have t6 := below_next t5 hb6
  have hs6' : w5.heap.size ≤ w6.heap.size := (by (have := hb6.size; (try simp at this); omega))
  have g3 := own_below g3 hb6
  have o4 := own_below o4 hb6
  have o5 := own_below o5 hb6
  go_wp2_with (fail)
  refine (eqSlabS_same _ _ _ _ _ L _ HN.out (RdP.of_own g6) (RdP.of_own g3) (by omega)).mono ?_
  rintro e w7 ⟨rfl, hb7⟩
  have t7 := below_next t6 hb7
  have hs7' : w6.heap.size ≤ w7.heap.size := (by (have := hb7.size; (try simp at this); omega))
  have g3 := own_below g3 hb7
  have o4 := own_below o4 hb7
  have o5 := own_below o5 hb7
  have g6 := own_below g6 hb7
  go_wp2_with (fail)
  refine (toStretchS_any _ _ _ xs1 _ HL1.out (rd1.up t7 t7.size) (by omega)).mono ?_
  rintro e w8 ⟨rfl, o7, hb8⟩
  have t8 := below_next t7 hb8
  have hs8' : w7.heap.size ≤ w8.heap.size := (by (have := hb8.size; (try simp at this); omega))
  have g3 := own_below g3 hb8
  have o4 := own_below o4 hb8
  have o5 := own_below o5 hb8
  have g6 := own_below g6 hb8
  go_wp2_with (fail)
  refine (eqStretchS_same _ _ _ _ _ xs1 _ HL1.out (RdP.of_own o4) (RdP.of_own o7) (by omega)).mono ?_
  rintro e w9 ⟨rfl, hb9⟩
  have t9 := below_next t8 hb9
  have hs9' : w8.heap.size ≤ w9.heap.size := (by (have := hb9.size; (try simp at this); omega))
  have g3 := own_below g3 hb9
  have o4 := own_below o4 hb9
  have o5 := own_below o5 hb9
  have g6 := own_below g6 hb9
  go_wp2_with (fail)
  refine (toIntS_any _ _ _ xs2 _ HL2.out (rd2.up t9 t9.size) (by omega)).mono ?_
  rintro e w10 ⟨rfl, o8, hb10⟩
  have t10 := below_next t9 hb10
  have hs10' : w9.heap.size ≤ w10.heap.size := (by (have := hb10.size; (try simp at this); omega))
  have g3 := own_below g3 hb10
  have o4 := own_below o4 hb10
  have o5 := own_below o5 hb10
  have g6 := own_below g6 hb10
  go_wp2_with (fail)
  refine (eqIntS_same _ _ _ _ _ xs2 _ HL2.out (RdI.of_own o5) (RdI.of_own o8) (by omega)).mono ?_
  rintro e w11 ⟨rfl, hb11⟩
  have t11 := below_next t10 hb11
  have hs11' : w10.heap.size ≤ w11.heap.size := (by (have := hb11.size; (try simp at this); omega))
  have g3 := own_below g3 hb11
  have o4 := own_below o4 hb11
  have o5 := own_below o5 hb11
  have g6 := own_below g6 hb11
  go_wp2_with (fail)
  refine (markStretchS_any _ _ _ (1) xs1 _ _ o4 (by omega) (by omega) (by omega)).mono ?_
  rintro e w12 ⟨rfl, o4, hg12⟩
  have t12 := t11.grown hg12 t11.size (fun k hk => by have := lo4 k hk; omega)
  have hs12' : w11.heap.size ≤ w12.heap.size := hg12.size
  have g3 := own_apart g3 hg12 lg3 lo4 (by omega)
  have o5 := own_apart o5 hg12 lo5 lo4 (by omega)
  have g6 := own_apart g6 hg12 lg6 lo4 (by omega)
  go_wp2_with (fail)
  refine (markIntS_any _ _ _ (1 + 2 * (n1 : Int)) xs2 _ _ o5 (by omega) (by omega) (by omega)).mono ?_
  rintro e w13 ⟨rfl, o5, hg13⟩
  have t13 := t12.grown hg13 t12.size (fun k hk => by have := lo5 k hk; omega)
  have hs13' : w12.heap.size ≤ w13.heap.size := hg13.size
  have g3 := own_apart g3 hg13 lg3 lo5 (by omega)
  have g6 := own_apart g6 hg13 lg6 lo5 (by omega)
  go_wp2_with (fail)
  refine (eqSlabS_same _ _ _ _ _ L _ HN.out (RdP.of_own g6) (RdP.of_own g3) (by omega)).mono ?_
  rintro e w14 ⟨rfl, hb14⟩
  have t14 := below_next t13 hb14
  have hs14' : w13.heap.size ≤ w14.heap.size := (by (have := hb14.size; (try simp at this); omega))
  have g3 := own_below g3 hb14
  have g6 := own_below g6 hb14
  go_wp2_with (fail)
  refine (markSlabS_any _ _ _ 1 L _ _ g6 (by omega) (by omega) (by omega)).mono ?_
  rintro e w15 ⟨rfl, g6, hg15⟩
  have t15 := t14.grown hg15 t14.size (fun k hk => by have := lg6 k hk; omega)
  have hs15' : w14.heap.size ≤ w15.heap.size := hg15.size
  have g3 := own_apart g3 hg15 lg3 lg6 (by omega)
  go_wp2_with (fail)
  refine (heldSlabS_any _ _ _ 1 _ _ (RdP.of_own g6) (by omega) (by omega) (by omega)).mono ?_
  rintro e w' ⟨rfl, rfl⟩
  go_wp2_with (fail)
  refine (toStretchS_any _ _ _ xs1 _ HL1.out (rd1.up t15 t15.size) (by omega)).mono ?_
  rintro e w16 ⟨rfl, o9, hb16⟩
  have t16 := below_next t15 hb16
  have hs16' : w15.heap.size ≤ w16.heap.size := (by (have := hb16.size; (try simp at this); omega))
  have g3 := own_below g3 hb16
  have g6 := own_below g6 hb16
  go_wp2_with (fail)
  refine (toIntS_any _ _ _ xs2 _ HL2.out (rd2.up t16 t16.size) (by omega)).mono ?_
  rintro e w17 ⟨rfl, o10, hb17⟩
  have t17 := below_next t16 hb17
  have hs17' : w16.heap.size ≤ w17.heap.size := (by (have := hb17.size; (try simp at this); omega))
  have g3 := own_below g3 hb17
  have g6 := own_below g6 hb17
  have o9 := own_below o9 hb17
  go_wp2_with (fail)
  refine (CI.out _ _ _ _ _ _ _ HL1.out (RdP.of_own o9) (by omega) HL2.out (RdI.of_own o10) (by omega)).mono ?_
  intro e w18 hrow18
  obtain ⟨AA11, cc11, rfl, g11, hb18⟩ := hrow18.at_ HN.out
  have lg11 := g11.lt
  have t18 := below_next t17 hb18
  have hs18' : w17.heap.size ≤ w18.heap.size := (by (have := hb18.size; (try simp at this); omega))
  have g3 := own_below g3 hb18
  have g6 := own_below g6 hb18
  have o9 := own_below o9 hb18
  have o10 := own_below o10 hb18
  go_wp2_with (fail)
  refine (eqSlabS_same _ _ _ _ _ L _ HN.out (RdP.of_own g11) (RdP.of_own g3) (by omega)).mono ?_
  rintro e w19 ⟨rfl, hb19⟩
  have t19 := below_next t18 hb19
  have hs19' : w18.heap.size ≤ w19.heap.size := (by (have := hb19.size; (try simp at this); omega))
  have g3 := own_below g3 hb19
  have g6 := own_below g6 hb19
  have g11 := own_below g11 hb19
  go_wp2_with (fail)
  refine (heldSlabS_any _ _ _ 1 _ _ (RdP.of_own g6) (by omega) (by omega) (by omega)).mono ?_
  rintro e w' ⟨rfl, rfl⟩
  go_wp2
  go_ret
  exact ⟨rfl, t19⟩
end Go.Proofs.Ytmomcelhigcceaa
