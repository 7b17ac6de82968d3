/- The walk of the law FnStrandsMany. -/
import Derived.Test.YtcegmlogjbnoeaaDoorWFnStrandsOk
namespace Go.Proofs.YtcegmlogjbnoeaaDoor
open Go.RowKit
set_option linter.unusedVariables false
set_option maxRecDepth 100000 in
set_option maxHeartbeats 1000000 in
theorem walkFnStrandsMany (w : World) (A : Option Addr) (n c : Nat) (xs : List Int) (hl : xs.length = n) (rd : RdI .u8 w w.heap.size A xs) (hc : n ≤ c) (hx : ∀ x ∈ xs, 0 ≤ x ∧ x ≤ 255) (hT : TabAt 1 Lib.deBruijn64tab w) (hg1 : 1 < w.heap.size) :
    Calls Tryd.prog 14 #[.slice A n c] w fun e w' => e = .returned (.bool true) ∧ Below w.heap.size w w' := by
  by_cases hs0 : 1048576 < (n : Int)
  · go_enter Tryd.func14, Tryd.ntmps14
    go_wp2
    go_ret
    exact ⟨rfl, Below.refl _ _⟩
  have hn : n ≤ 1048576 := by omega
  go_enter Tryd.func14, Tryd.ntmps14
  go_wp2_with (fail)
  refine (drawStrandsMany_st hl hc rd hn hx).mono ?_
  rintro e w1 ⟨A4, m, c4, L, long, A5, m5, c5, M, rfl, hL, hn9, l0, l1, hM, hn8, o1, o2, hb⟩
  clear rd hx hl hc
  have gl : IO1 w w1 3 (.slice A4 m c4) m L := ⟨hb, o1⟩
  have gi : IO1 w w1 3 (.slice A5 m5 c5) m5 M := ⟨hb, o2⟩
  have hcap := own_cap o2
  have HL := Lib.hid hL
  have HM := Lib.hid hM
  clear o1 o2 hb hL hM
  cases hok : strandsOk L long M
  · have hm1 := strandsMany_no hok
    clear hok
    go_wp2_with (first
      | (go_at_call 55; refine (implMany_any _ _ _ L long _ _ _ M _ HL.out gl.rd (by omega) HM.out gi.rd ⟨by omega, by omega⟩).mono ?_; rintro e w2 ⟨rfl, hb2⟩; have gl := gl.next hb2; have gi := gi.next hb2)
      | (go_at_call 57; refine (specMany_any _ _ _ L long _ _ _ M _ HL.out gl.rd (by omega) HM.out gi.rd ⟨by omega, by omega⟩).mono ?_; rintro e w2 ⟨rfl, hb2⟩; have gl := gl.next hb2; have gi := gi.next hb2)
      | (go_at_call 21; refine (alive_any _).mono ?_; rintro e w2 ⟨rfl, hb2⟩; have gi := gi.next hb2))
    go_ret
    exact ⟨rfl, gi.be⟩
  · obtain ⟨v, hv⟩ := sleast_exists L long
    obtain ⟨v0, v1, v2⟩ := many_least hok hv
    have HV := Lib.hid hv
    have q2 : strandsMany L long M ≤ m := by rw [← HL.out]; exact v2
    have cM := fun A1 n1 c1 A2 n2 c2 W h1 h2 h3 h4 h5 h6 => implMany_any A1 n1 c1 L long A2 n2 c2 M W h1 h2 h3 h4 h5 h6
    have cS := fun A1 n1 c1 A2 n2 c2 W h1 h2 h3 h4 h5 h6 => specMany_any A1 n1 c1 L long A2 n2 c2 M W h1 h2 h3 h4 h5 h6
    clear v2 hv hok
    generalize strandsMany L long M = q at *
    have CM := Lib.hid cM
    have CS := Lib.hid cS
    have q0 : 0 ≤ q := by omega
    clear cM cS
    go_wp2_with (first
      | (go_at_call 55; refine (CM.out _ _ _ _ _ _ _ HL.out gl.rd (by omega) HM.out gi.rd ⟨by omega, by omega⟩).mono ?_; rintro e w2 ⟨rfl, hb2⟩; have gl := gl.next hb2; have gi := gi.next hb2)
      | (go_at_call 57; refine (CS.out _ _ _ _ _ _ _ HL.out gl.rd (by omega) HM.out gi.rd ⟨by omega, by omega⟩).mono ?_; rintro e w2 ⟨rfl, hb2⟩; have gl := gl.next hb2; have gi := gi.next hb2)
      | (go_at_call 45; refine (implLeast_any _ _ _ L long _ HL.out gl.rd (by omega) HV.out (tab_up hT hg1 gl.be) (by (have := gl.be.size); omega)).mono ?_; rintro e w2 ⟨rfl, hb2⟩; have gl := gl.next hb2; have gi := gi.next hb2))
    go_ret
    exact ⟨ret_bool (by simp <;> omega), gi.be⟩
end Go.Proofs.YtcegmlogjbnoeaaDoor
