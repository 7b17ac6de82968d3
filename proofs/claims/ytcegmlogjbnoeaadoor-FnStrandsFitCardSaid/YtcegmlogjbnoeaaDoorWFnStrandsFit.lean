/- The walk of the law FnStrandsFit. -/
import Derived.Test.YtcegmlogjbnoeaaDoorFitImpl
import Derived.Test.YtcegmlogjbnoeaaDoorFitSpec
import Derived.Test.YtcegmlogjbnoeaaDoorSame
import Derived.Test.YtcegmlogjbnoeaaDoorWFnStrandsMany
namespace Go.Proofs.YtcegmlogjbnoeaaDoor
open Go.RowKit
set_option linter.unusedVariables false
set_option maxRecDepth 100000 in
set_option maxHeartbeats 1000000 in
theorem walkFnStrandsFit (w : World) (A : Option Addr) (n c : Nat) (xs : List Int) (hl : xs.length = n) (rd : RdI .u8 w w.heap.size A xs) (hc : n ≤ c) (hx : ∀ x ∈ xs, 0 ≤ x ∧ x ≤ 255) (hT : TabAt 1 Lib.deBruijn64tab w) (hg1 : 1 < w.heap.size) :
    Calls Tryd.prog 17 #[.slice A n c] w fun e w' => e = .returned (.bool true) ∧ Below w.heap.size w w' := by
  by_cases hs0 : 1048576 < (n : Int)
  · go_enter Tryd.func17, Tryd.ntmps17
    go_wp2
    go_ret
    exact ⟨rfl, Below.refl _ _⟩
  have hn : n ≤ 1048576 := by omega
  go_enter Tryd.func17, Tryd.ntmps17
  go_wp2_with (fail)
  refine (drawStrandsFit_st hl hc rd hn hx).mono ?_
  rintro e w1 ⟨A4, m, c4, L, long, rfl, hL, hn9, l0, l1, o1, hb⟩
  clear rd hx hl hc
  have gl : IO1 w w1 3 (.slice A4 m c4) m L := ⟨hb, o1⟩
  have HL := Lib.hid hL
  clear o1 hb hL
  obtain ⟨zs, hzs⟩ := fit_exists L long
  obtain ⟨p, hp⟩ : ∃ p, zs.length = p := ⟨_, rfl⟩
  have hp8 : p ≤ 8 := by rw [← hp]; exact hzs.le
  have HZS := Lib.hid hzs
  have HP := Lib.hid hp
  go_wp2_with (fail)
  refine (implFit_any _ _ _ L long _ HL.out gl.rd (by omega) zs hzs).mono ?_
  intro e w2 hrow
  obtain ⟨A5, c5, rfl, own5, hb2⟩ := hrow.at_ hp
  have gi : IO1 w w2 3 (.slice A5 p c5) p zs := ⟨gl.be.trans (hb2.mono gl.be.size), own_lower own5 gl.be.size⟩
  have hcap := own_cap own5
  have gl := gl.next hb2
  clear own5 hb2 hrow
  go_wp2_with (fail)
  refine (specFit_any _ _ _ L long _ HL.out gl.rd (by omega) zs hzs).mono ?_
  intro e w3 hrow
  obtain ⟨A6, c6, rfl, own6, hb3⟩ := hrow.at_ hp
  have gi := gi.next hb3
  have gl := gl.next hb3
  have rd6 := RdI.of_own own6
  clear own6 hb3 hrow
  go_wp2_with (fail)
  refine (sameInts_same _ _ _ _ _ zs _ hp gi.rd rd6 (by omega)).mono ?_
  rintro e w4 ⟨rfl, hb4⟩
  have gi := gi.next hb4
  have gl := gl.next hb4
  clear rd6 hb4
  cases hw : wantsOk L long
  · obtain rfl : p = 0 := by rw [← hp, hzs.no hw]; rfl
    clear hzs hp
    go_wp2_with (first
      | (go_at_call 34; refine (specWants_any _ _ _ L long _ HL.out gl.rd (by omega)).mono ?_; rintro e w9 ⟨rfl, rfl⟩)
      | (go_at_call 21; refine (alive_any _).mono ?_; rintro e w2 ⟨rfl, hb2⟩; have gi := gi.next hb2))
    go_ret
    exact ⟨rfl, gi.be⟩
  · have hok := hzs.ok hw
    obtain ⟨v, hv⟩ := sleast_exists L long
    obtain ⟨v0, v1, v2⟩ := many_least hok hv
    have hbest := fit_best hzs hw hv
    have q2 : strandsMany L long zs ≤ m := by rw [← HL.out]; exact v2
    have HV := Lib.hid hv
    have cM := fun A1 n1 c1 A2 n2 c2 W h1 h2 h3 h4 h5 h6 => implMany_any A1 n1 c1 L long A2 n2 c2 zs W h1 h2 h3 h4 h5 h6
    clear v2 hv hzs hp
    generalize strandsMany L long zs = q at *
    have CM := Lib.hid cM
    have q0 : 0 ≤ q := by omega
    have W1 : IntKind.i64.wrap (9 * q) = 9 * q := IntWalk.i64_in _ (by omega)
    have W2 : IntKind.i64.wrap (11 * v) = 11 * v := IntWalk.i64_in _ (by omega)
    have W3 : IntKind.i64.wrap (11 * v + 6) = 11 * v + 6 := IntWalk.i64_in _ (by omega)
    clear cM
    go_wp2_with (first
      | (go_at_call 34; refine (specWants_any _ _ _ L long _ HL.out gl.rd (by omega)).mono ?_; rintro e w9 ⟨rfl, rfl⟩)
      | (go_at_call 53; refine (implStrands_any _ _ _ L long _ _ _ zs _ HL.out gl.rd (by omega) HP.out gi.rd (by omega)).mono ?_; rintro e w2 ⟨rfl, hb2⟩; have gl := gl.next hb2; have gi := gi.next hb2)
      | (go_at_call 55; refine (CM.out _ _ _ _ _ _ _ HL.out gl.rd (by omega) HP.out gi.rd ⟨by omega, by omega⟩).mono ?_; rintro e w2 ⟨rfl, hb2⟩; have gl := gl.next hb2; have gi := gi.next hb2)
      | (go_at_call 45; refine (implLeast_any _ _ _ L long _ HL.out gl.rd (by omega) HV.out (tab_up hT hg1 gl.be) (by (have := gl.be.size); omega)).mono ?_; rintro e w2 ⟨rfl, hb2⟩; have gl := gl.next hb2; have gi := gi.next hb2))
    go_ret
    exact ⟨ret_bool (by simp <;> omega), gi.be⟩
end Go.Proofs.YtcegmlogjbnoeaaDoor
