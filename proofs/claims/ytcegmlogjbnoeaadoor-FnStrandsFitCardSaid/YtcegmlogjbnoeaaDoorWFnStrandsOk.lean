/- The walk of the law FnStrandsOk. -/
import Derived.Test.YtcegmlogjbnoeaaDoorDrawSt
import Derived.Test.YtcegmlogjbnoeaaDoorAlive
import Derived.Test.YtcegmlogjbnoeaaDoorManyWalk
import Derived.Test.YtcegmlogjbnoeaaDoorWFnStrandsLeast
namespace Go.Proofs.YtcegmlogjbnoeaaDoor
open Go.RowKit
set_option linter.unusedVariables false
theorem many_wrap {long v : Int} {m : Nat} (h0 : 0 ≤ v) (h1 : v ≤ m) (h2 : m ≤ 9) (l0 : 0 ≤ long) (l1 : long ≤ 61) : IntKind.i64.wrap (long * v) = long * v := by
  have a : 0 ≤ long * v := Int.mul_nonneg l0 h0
  have b : long * v ≤ 61 * 9 := Int.mul_le_mul l1 (by omega) h0 (by decide)
  exact IntWalk.i64_in _ (by omega)
set_option maxRecDepth 100000 in
set_option maxHeartbeats 1000000 in
theorem walkFnStrandsOk (w : World) (A : Option Addr) (n c : Nat) (xs : List Int) (hl : xs.length = n) (rd : RdI .u8 w w.heap.size A xs) (hc : n ≤ c) (hx : ∀ x ∈ xs, 0 ≤ x ∧ x ≤ 255) :
    Calls Tryd.prog 13 #[.slice A n c] w fun e w' => e = .returned (.bool true) ∧ Below w.heap.size w w' := by
  by_cases hs0 : 1048576 < (n : Int)
  · go_enter Tryd.func13, Tryd.ntmps13
    go_wp2
    go_ret
    exact ⟨rfl, Below.refl _ _⟩
  have hn : n ≤ 1048576 := by omega
  go_enter Tryd.func13, Tryd.ntmps13
  go_wp2_with (fail)
  refine (drawStrandsOk_st hl hc rd hn hx).mono ?_
  rintro e w1 ⟨A4, m, c4, L, long, A5, m5, c5, M, rfl, hL, hn9, l0, l1, hM, hn8, o1, o2, hb⟩
  clear rd hx hl hc
  have gl : IO1 w w1 3 (.slice A4 m c4) m L := ⟨hb, o1⟩
  have gi : IO1 w w1 3 (.slice A5 m5 c5) m5 M := ⟨hb, o2⟩
  have hcap := own_cap o2
  have HL := Lib.hid hL
  have HM := Lib.hid hM
  clear o1 o2 hb hL hM
  cases hok : strandsOk L long M
  · go_wp2_with (first
      | (go_at_call 53; refine (implStrands_any _ _ _ L long _ _ _ M _ HL.out gl.rd (by omega) HM.out gi.rd (by omega)).mono ?_; rintro e w2 ⟨rfl, hb2⟩; have gl := gl.next hb2; have gi := gi.next hb2)
      | (go_at_call 54; refine (specStrands_any _ _ _ L long _ _ _ M _ HL.out gl.rd (by omega) HM.out gi.rd (by omega)).mono ?_; rintro e w9 ⟨rfl, rfl⟩)
      | (go_at_call 21; refine (alive_any _).mono ?_; rintro e w2 ⟨rfl, hb2⟩; have gi := gi.next hb2))
    go_ret
    exact ⟨rfl, gi.be⟩
  · have hsum := many_sum hok
    obtain ⟨hw, hlen, -⟩ := strandsOk_facts hok
    have hb := manyTo_bounds M M.length
    have hmk := strandsMany_ok hok
    have q0 : 0 ≤ strandsMany L long M := by rw [hmk]; exact hb.1
    have q1 : strandsMany L long M ≤ m5 := by rw [hmk, ← HM.out]; exact hb.2
    have W1 := many_wrap q0 q1 (by omega) l0 l1
    have HW := Lib.hid hw
    have cM := fun A1 n1 c1 A2 n2 c2 W h1 h2 h3 h4 h5 h6 => implMany_any A1 n1 c1 L long A2 n2 c2 M W h1 h2 h3 h4 h5 h6
    clear hw hlen hb hmk
    generalize strandsMany L long M = q at *
    have CM := Lib.hid cM
    clear cM
    go_wp2_with (first
      | (go_at_call 53; refine (implStrands_any _ _ _ L long _ _ _ M _ HL.out gl.rd (by omega) HM.out gi.rd (by omega)).mono ?_; rintro e w2 ⟨rfl, hb2⟩; have gl := gl.next hb2; have gi := gi.next hb2)
      | (go_at_call 54; refine (specStrands_any _ _ _ L long _ _ _ M _ HL.out gl.rd (by omega) HM.out gi.rd (by omega)).mono ?_; rintro e w9 ⟨rfl, rfl⟩)
      | (go_at_call 47; refine (sumOf_any _ _ _ L long _ HL.out gl.rd HW.out).mono ?_; rintro e w9 ⟨rfl, rfl⟩)
      | (go_at_call 55; refine (CM.out _ _ _ _ _ _ _ HL.out gl.rd (by omega) HM.out gi.rd ⟨by omega, by omega⟩).mono ?_; rintro e w2 ⟨rfl, hb2⟩; have gl := gl.next hb2; have gi := gi.next hb2))
    go_ret
    exact ⟨ret_bool (by simp <;> omega), gi.be⟩
end Go.Proofs.YtcegmlogjbnoeaaDoor
