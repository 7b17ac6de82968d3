/- The walk of the law FnSlabsWaste (written by genlaws.py). -/
import Derived.Test.YtcegmlogjbnoeaaDoorDrawS
import Derived.Test.YtcegmlogjbnoeaaDoorWFnGoodParts
import Derived.Test.YtcegmlogjbnoeaaDoorSlabLeast
import Derived.Test.YtcegmlogjbnoeaaDoorSlabWaste
namespace Go.Proofs.YtcegmlogjbnoeaaDoor
open Go.RowKit
set_option linter.unusedVariables false
theorem drawSlabsWaste_st {w : World} {A : Option Addr} {n c : Nat} {xs : List Int} (hl : xs.length = n) (hc : n ≤ c) (rd : RdI .u8 w w.heap.size A xs) (hn : n ≤ 1048576) (hx : ∀ x ∈ xs, 0 ≤ x ∧ x ≤ 255) :
    Calls Tryd.prog 18 #[.slice A n c] w fun e w' => DrawnS w e w' ∧ Below w.heap.size w w' := by
  go_enter Tryd.func18, Tryd.ntmps18
  go_wp2_with (fail)
  refine (open_st hl hc rd hn hx).mono ?_
  rintro e w1 ⟨rfl, st1, hz1⟩
  go_wp2_with (fail)
  refine (slabs_st st1 (by omega)).mono ?_
  rintro e w2 ⟨⟨v, A4, m, c4, L, A5, m5, c5, ls, A6, m6, c6, Z, rfl, v0, v1, hL, hn9, hls, hn5, hZ, hn6, o1, o2, o3⟩, K', st2⟩
  go_wp2
  refine bodyPost_ret (results_tmp4 rfl _ _ _) rfl ?_
  exact ⟨⟨v, A4, m, c4, L, A5, m5, c5, ls, A6, m6, c6, Z, rfl, v0, v1, hL, hn9, hls, hn5, hZ, hn6, own_lower o1 (by omega), own_lower o2 (by omega), own_lower o3 (by omega)⟩, st2.below (Nat.le_refl _) (Nat.le_refl _)⟩
set_option maxRecDepth 100000 in
set_option maxHeartbeats 1000000 in
theorem walkFnSlabsWaste (w : World) (A : Option Addr) (n c : Nat) (xs : List Int) (hl : xs.length = n) (rd : RdI .u8 w w.heap.size A xs) (hc : n ≤ c) (hx : ∀ x ∈ xs, 0 ≤ x ∧ x ≤ 255) :
    Calls Tryd.prog 3 #[.slice A n c] w fun e w' => e = .returned (.bool true) ∧ Below w.heap.size w w' := by
  by_cases hs0 : 1048576 < (n : Int)
  · go_enter Tryd.func3, Tryd.ntmps3
    go_wp2
    go_ret
    exact ⟨rfl, Below.refl _ _⟩
  have hn : n ≤ 1048576 := by omega
  go_enter Tryd.func3, Tryd.ntmps3
  go_wp2_with (fail)
  refine (drawSlabsWaste_st hl hc rd hn hx).mono ?_
  rintro e w1 ⟨⟨v, A4, m, c4, L, A5, m5, c5, ls, A6, m6, c6, Z, rfl, v0, v1, hL, hn9, hls, hn5, hZ, hn6, o1, o2, o3⟩, hb⟩
  clear rd hx hl hc
  have gp : GP w w1 A4 L := ⟨hb, RdP.of_own o1⟩
  have gl : GI w w1 A5 ls := ⟨hb, RdI.of_own o2⟩
  have gz : GP w w1 A6 Z := ⟨hb, RdP.of_own o3⟩
  have HL := Lib.hid hL
  have HS := Lib.hid hls
  have HZ := Lib.hid hZ
  clear o1 o2 o3 hb hL hls hZ
  by_cases hneg : slabsWaste v L ls Z < 0
  · have hm1 := slabsWaste_neg hneg
    clear hneg
    go_wp2_with (first
      | (go_at_call 19; refine (implWasteOf_any _ _ _ _ L _ _ _ ls _ _ _ Z _ HL.out gp.rd (by omega) HS.out gl.rd (by omega) HZ.out gz.rd (by omega)).mono ?_; rintro e w2 ⟨rfl, hb2⟩; have gp := gp.next hb2; have gl := gl.next hb2; have gz := gz.next hb2)
      | (go_at_call 20; refine (specWasteOf_any _ _ _ _ L _ _ _ ls _ _ _ Z _ HL.out gp.rd (by omega) HS.out gl.rd (by omega) HZ.out gz.rd (by omega)).mono ?_; rintro e w2 ⟨rfl, hb2⟩; have gp := gp.next hb2; have gl := gl.next hb2; have gz := gz.next hb2)
      | (go_at_call 21; refine (alive_any _).mono ?_; rintro e w2 ⟨rfl, hb2⟩; have gp := gp.next hb2))
    go_ret
    exact ⟨rfl, gp.be⟩
  · have h0 : 0 ≤ slabsWaste v L ls Z := by omega
    obtain ⟨hs1, hs2⟩ := slabsLeast_le h0
    have hok : badOk v L = true := by
      cases hc : slabsOk v L ls Z
      · rw [slabsWaste_no hc] at h0; omega
      · exact (slabsOk_facts hc).1
    have hlong := badOk_long hok
    have hm4 := badOk_len hok
    rw [HL.out] at hm4
    have HV := Lib.hid hok
    have HB : Hid (∀ (k : Nat) (x y : Int), L[k]? = some (x, y) → 0 ≤ x ∧ x < y ∧ y ≤ 60) := Lib.hid (fun k x y hk => by have := badOk_facts HV.out hk; omega)
    have SB := sumBad_bounds HB.out
    have HSB := Lib.hid SB
    clear SB hok h0
    go_wp2_with (first
      | (go_at_call 19; refine (implWasteOf_any _ _ _ _ L _ _ _ ls _ _ _ Z _ HL.out gp.rd (by omega) HS.out gl.rd (by omega) HZ.out gz.rd (by omega)).mono ?_; rintro e w2 ⟨rfl, hb2⟩; have gp := gp.next hb2; have gl := gl.next hb2; have gz := gz.next hb2)
      | (go_at_call 20; refine (specWasteOf_any _ _ _ _ L _ _ _ ls _ _ _ Z _ HL.out gp.rd (by omega) HS.out gl.rd (by omega) HZ.out gz.rd (by omega)).mono ?_; rintro e w2 ⟨rfl, hb2⟩; have gp := gp.next hb2; have gl := gl.next hb2; have gz := gz.next hb2))
    have GPH := Lib.hid gp
    have GLH := Lib.hid gl
    clear gp gl gz hb2
    go_loopw [8, 9] (fun t i wr => ∃ k : Nat, k ≤ m ∧ i = .int .i64 k ∧ t = .int .i64 (sumBad (L.take k)) ∧ GP w wr A4 L ∧ GI w wr A5 ls) (fun _ i _ => m - (intOf i).toNat)
    case atStart => exact ⟨0, Nat.zero_le _, rfl, by simp [sumBad], GPH.out, GLH.out⟩
    case round =>
      obtain ⟨k, hk, rfl, rfl, gp, gl⟩ := hrel
      obtain ⟨s0, s1⟩ := HSB.out k (by rw [HL.out]; exact hk)
      have GP1 := Lib.hid gp
      have GL1 := Lib.hid gl
      by_cases hlt : k < m
      · obtain ⟨⟨x, y⟩, hxy⟩ : ∃ q, L[k]? = some q := ⟨_, List.getElem?_eq_getElem (by rw [HL.out]; omega)⟩
        obtain ⟨b, off, rfl, hbB, hc1, hc2⟩ := gp.rd k x y hxy
        obtain ⟨x0, x1, y1⟩ := HB.out k x y hxy
        have HT := Lib.hid (sumBad_take hxy)
        clear gp gl hxy
        have W1 : IntKind.i64.wrap (sumBad (L.take k) + y) = sumBad (L.take k) + y := IntWalk.i64_in _ (by omega)
        have W2 : IntKind.i64.wrap (sumBad (L.take k) + y - x) = sumBad (L.take k) + y - x := IntWalk.i64_in _ (by omega)
        go_wp2_with (fail)
        go_quiet (fail)
        clear W1 W2
        go_wp2
        go_roundw
        case rel => exact ⟨k + 1, by omega, by go_num, by rw [HT.out], GP1.out.next (below_drawn (Below.refl _ _) _), GL1.out.next (below_drawn (Below.refl _ _) _)⟩
        case measure => simp [intOf] <;> omega
      · have hkm : k = m := by omega
        have HK : sumBad (L.take k) = sumBad L := by rw [hkm, List.take_of_length_le (by rw [HL.out]; exact Nat.le_refl _)]
        clear gp gl hkm
        go_wp2_with (first
          | (go_at_call 22; refine (implSLeast_any _ _ _ _ L _ _ _ ls _ HL.out GP1.out.rd (by omega) HS.out GL1.out.rd (by omega)).mono ?_; rintro e w2 ⟨rfl, hb2⟩; have gp := GP1.out.next hb2))
        go_ret
        exact ⟨rfl, gp.be⟩
end Go.Proofs.YtcegmlogjbnoeaaDoor
