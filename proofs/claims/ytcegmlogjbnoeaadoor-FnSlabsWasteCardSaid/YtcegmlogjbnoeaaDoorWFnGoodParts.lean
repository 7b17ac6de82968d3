/- The walk of the law FnGoodParts (written by genlaws.py). -/
import Derived.Test.YtcegmlogjbnoeaaDoorDrawBW
import Derived.Test.YtcegmlogjbnoeaaDoorRows2
import Derived.Test.YtcegmlogjbnoeaaDoorAlive
import Derived.Test.YtcegmlogjbnoeaaDoorGood
import Derived.Test.YtcegmlogjbnoeaaDoorSlabFn2
import Derived.Test.YtcegmlogjbnoeaaDoorSame
import Derived.Test.YtcegmlogjbnoeaaDoorBadWalk
namespace Go.Proofs.YtcegmlogjbnoeaaDoor
open Go.RowKit
set_option linter.unusedVariables false
theorem sumBad_append (a b : List (Int × Int)) : sumBad (a ++ b) = sumBad a + sumBad b := by
  induction a with
  | nil => simp [sumBad]
  | cons q r ih => simp only [List.cons_append, sumBad, ih]; omega
theorem sumBad_take {L : List (Int × Int)} {k : Nat} {x y : Int} (h : L[k]? = some (x, y)) : sumBad (L.take (k + 1)) = sumBad (L.take k) + y - x := by
  rw [List.take_add_one, h, sumBad_append]
  simp only [Option.toList_some, sumBad]; omega
theorem sumBad_bounds {L : List (Int × Int)} (h : ∀ (k : Nat) (x y : Int), L[k]? = some (x, y) → 0 ≤ x ∧ x < y ∧ y ≤ 60) : ∀ k, k ≤ L.length → 0 ≤ sumBad (L.take k) ∧ sumBad (L.take k) ≤ 60 * k := by
  intro k
  induction k with
  | zero => intro _; simp [sumBad]
  | succ k ih =>
    intro hk
    have := ih (by omega)
    obtain ⟨⟨x, y⟩, hxy⟩ : ∃ q, L[k]? = some q := ⟨_, List.getElem?_eq_getElem (by omega)⟩
    have h2 := h k x y hxy
    rw [sumBad_take hxy]
    omega
set_option maxRecDepth 100000 in
set_option maxHeartbeats 1000000 in
theorem walkFnGoodParts (w : World) (A : Option Addr) (n c : Nat) (xs : List Int) (hl : xs.length = n) (rd : RdI .u8 w w.heap.size A xs) (hc : n ≤ c) (hx : ∀ x ∈ xs, 0 ≤ x ∧ x ≤ 255) :
    Calls Tryd.prog 9 #[.slice A n c] w fun e w' => e = .returned (.bool true) ∧ Below w.heap.size w w' := by
  by_cases hs0 : 1048576 < (n : Int)
  · go_enter Tryd.func9, Tryd.ntmps9
    go_wp2
    go_ret
    exact ⟨rfl, Below.refl _ _⟩
  have hn : n ≤ 1048576 := by omega
  go_enter Tryd.func9, Tryd.ntmps9
  go_wp2_with (fail)
  refine (drawGoodParts_st hl hc rd hn hx).mono ?_
  rintro e w1 ⟨A4, m, c4, L, v, rfl, hL, hn9, v0, v1, hown, hb⟩
  clear rd hx hl hc
  have gp : GP w w1 A4 L := ⟨hb, RdP.of_own hown⟩
  have HL := Lib.hid hL
  clear hown hb hL
  have cI := fun A n c W h1 h2 h3 => implGood_any v A n c L W h1 h2 h3
  have cS := fun A n c W h1 h2 h3 => specGood_any v A n c L W h1 h2 h3
  have hlen := goodParts_len v L
  have hno : badOk v L = false → goodParts v L = [] := fun h => goodParts_no h
  have hyes : badOk v L = true → sumBad L + sumBad (goodParts v L) = v ∧ ∀ (k : Nat) (x y : Int), (goodParts v L)[k]? = some (x, y) → x < y ∧ ∀ (m : Nat) (u v' : Int), k = m + 1 → (goodParts v L)[m]? = some (u, v') → v' < x := fun h => goodParts_law h
  have hget : badOk v L = true → ∀ (k : Nat) (x y : Int), (goodParts v L)[k]? = some (x, y) → 0 ≤ x ∧ x < y ∧ y ≤ 60 := fun h k x y hk => by have := goodParts_get h hk; have := badOk_long h; omega
  generalize goodParts v L = M at cI cS hlen hno hyes hget
  obtain ⟨nM, hnM⟩ : ∃ k, M.length = k := ⟨_, rfl⟩
  rw [hnM] at hlen
  have HM := Lib.hid hnM
  have CI := Lib.hid cI
  have CS := Lib.hid cS
  clear cI cS hnM
  cases hv1 : badOk v L
  · have hM := hno hv1
    have hz : nM = 0 := by rw [← HM.out, hM]; rfl
    subst hz
    clear hno hyes hget hM
    go_wp2_with (first
      | (go_at_call 38; refine (CI.out _ _ _ _ HL.out gp.rd (by omega)).mono ?_; intro e w2 hrow; obtain ⟨A6, c6, rfl, own6, hb2⟩ := pairs_at' hrow HM.out; have gp := gp.next hb2; have gm : GP w w2 A6 M := ⟨gp.be, RdP.of_own own6⟩)
      | (go_at_call 40; refine (CS.out _ _ _ _ HL.out gp.rd (by omega)).mono ?_; intro e w2 hrow; obtain ⟨A7, c7, rfl, own7, hb2⟩ := pairs_at' hrow HM.out; have gp := gp.next hb2; have gm := gm.next hb2; have gs : GP w w2 A7 M := ⟨gp.be, RdP.of_own own7⟩)
      | (go_at_call 39; refine (sameStretches_same _ _ _ _ _ M _ HM.out gm.rd gs.rd (by omega)).mono ?_; rintro e w2 ⟨rfl, hb2⟩; have gp := gp.next hb2; have gm := gm.next hb2)
      | (go_at_call 31; refine (specBad_any _ _ _ _ L _ HL.out gp.rd (by omega)).mono ?_; rintro e w2 ⟨rfl, hb2⟩; have gp := gp.next hb2; have gm := gm.next hb2)
      | (go_at_call 21; refine (alive_any _).mono ?_; rintro e w2 ⟨rfl, hb2⟩; have gp := gp.next hb2))
    go_ret
    exact ⟨rfl, gp.be⟩
  · obtain ⟨hsum, hlaw⟩ := hyes hv1
    have HG := Lib.hid (hget hv1)
    have HSUM := Lib.hid hsum
    have HLAW := Lib.hid hlaw
    have hlong := badOk_long hv1
    have hm4 := badOk_len hv1
    rw [HL.out] at hm4
    have HV := Lib.hid hv1
    have HB : Hid (∀ (k : Nat) (x y : Int), L[k]? = some (x, y) → 0 ≤ x ∧ x < y ∧ y ≤ 60) := Lib.hid (fun k x y hk => by have := badOk_facts HV.out hk; omega)
    have SB := sumBad_bounds HB.out
    have SG := sumBad_bounds HG.out
    have HSB := Lib.hid SB
    have HSG := Lib.hid SG
    clear hno hyes hget hsum hlaw SB SG
    go_wp2_with (first
      | (go_at_call 38; refine (CI.out _ _ _ _ HL.out gp.rd (by omega)).mono ?_; intro e w2 hrow; obtain ⟨A6, c6, rfl, own6, hb2⟩ := pairs_at' hrow HM.out; have gp := gp.next hb2; have gm : GP w w2 A6 M := ⟨gp.be, RdP.of_own own6⟩)
      | (go_at_call 40; refine (CS.out _ _ _ _ HL.out gp.rd (by omega)).mono ?_; intro e w2 hrow; obtain ⟨A7, c7, rfl, own7, hb2⟩ := pairs_at' hrow HM.out; have gp := gp.next hb2; have gm := gm.next hb2; have gs : GP w w2 A7 M := ⟨gp.be, RdP.of_own own7⟩)
      | (go_at_call 39; refine (sameStretches_same _ _ _ _ _ M _ HM.out gm.rd gs.rd (by omega)).mono ?_; rintro e w2 ⟨rfl, hb2⟩; have gp := gp.next hb2; have gm := gm.next hb2)
      | (go_at_call 31; refine (specBad_any _ _ _ _ L _ HL.out gp.rd (by omega)).mono ?_; rintro e w2 ⟨rfl, hb2⟩; have gp := gp.next hb2; have gm := gm.next hb2))
    have GPH := Lib.hid gp
    have GMH := Lib.hid gm
    clear gp gm gs hb2
    go_loopw [6, 7] (fun t i wr => ∃ k : Nat, k ≤ m ∧ i = .int .i64 k ∧ t = .int .i64 (sumBad (L.take k)) ∧ GP w wr A4 L ∧ GP w wr A6 M) (fun _ i _ => m - (intOf i).toNat)
    case atStart => exact ⟨0, Nat.zero_le _, rfl, by simp [sumBad], GPH.out, GMH.out⟩
    case round =>
      obtain ⟨k, hk, rfl, rfl, gp, gm⟩ := hrel
      obtain ⟨s0, s1⟩ := HSB.out k (by rw [HL.out]; exact hk)
      have GP1 := Lib.hid gp
      have GM1 := Lib.hid gm
      by_cases hlt : k < m
      · obtain ⟨⟨x, y⟩, hxy⟩ : ∃ q, L[k]? = some q := ⟨_, List.getElem?_eq_getElem (by rw [HL.out]; omega)⟩
        obtain ⟨b, off, rfl, hbB, hc1, hc2⟩ := gp.rd k x y hxy
        obtain ⟨x0, x1, y1⟩ := HB.out k x y hxy
        have HT := Lib.hid (sumBad_take hxy)
        clear gp gm hxy
        have W1 : IntKind.i64.wrap (sumBad (L.take k) + y) = sumBad (L.take k) + y := IntWalk.i64_in _ (by omega)
        have W2 : IntKind.i64.wrap (sumBad (L.take k) + y - x) = sumBad (L.take k) + y - x := IntWalk.i64_in _ (by omega)
        go_wp2_with (fail)
        go_quiet (fail)
        clear W1 W2
        go_wp2
        go_roundw
        case rel => exact ⟨k + 1, by omega, by go_num, by rw [HT.out], GP1.out.next (below_drawn (Below.refl _ _) _), GM1.out.next (below_drawn (Below.refl _ _) _)⟩
        case measure => simp [intOf] <;> omega
      · have hkm : k = m := by omega
        have HK : Hid (sumBad (L.take k) = sumBad L) := Lib.hid (by rw [hkm, List.take_of_length_le (by rw [HL.out]; exact Nat.le_refl _)])
        clear gp gm hkm
        go_wp2_with (fail)
        go_loopw [6, 8] (fun t i wr => ∃ j : Nat, j ≤ nM ∧ i = .int .i64 j ∧ t = .int .i64 (sumBad L + sumBad (M.take j)) ∧ GP w wr A6 M) (fun _ i _ => nM - (intOf i).toNat)
        case atStart => exact ⟨0, Nat.zero_le _, rfl, by rw [HK.out]; simp [sumBad], GM1.out⟩
        case round =>
          obtain ⟨j, hj, rfl, rfl, gm⟩ := hrel
          obtain ⟨t0, t1⟩ := HSG.out j (by rw [HM.out]; exact hj)
          have GM2 := Lib.hid gm
          rw [HK.out] at s0 s1
          by_cases hlt2 : j < nM
          · obtain ⟨⟨x, y⟩, hxy⟩ : ∃ q, M[j]? = some q := ⟨_, List.getElem?_eq_getElem (by rw [HM.out]; omega)⟩
            obtain ⟨b, off, rfl, hbB, hc1, hc2⟩ := gm.rd j x y hxy
            obtain ⟨x0, x1, y1⟩ := HG.out j x y hxy
            have HT := Lib.hid (sumBad_take hxy)
            have hdec : decide (y ≤ x) = false := by simp; omega
            have W1 : IntKind.i64.wrap (sumBad L + sumBad (M.take j) + y) = sumBad L + sumBad (M.take j) + y := IntWalk.i64_in _ (by omega)
            have W2 : IntKind.i64.wrap (sumBad L + sumBad (M.take j) + y - x) = sumBad L + sumBad (M.take j) + y - x := IntWalk.i64_in _ (by omega)
            by_cases hj0 : j = 0
            · have hdec0 : decide ((0 : Int) < (j : Int)) = false := decide_eq_false (by omega)
              have hdec9 : decide (0 < j) = false := decide_eq_false (by omega)
              clear gm hxy hj0
              go_wp2_with (fail)
              go_quiet (fail)
              go_wp2_with (fail)
              go_quiet (fail)
              clear W1 W2
              go_wp2
              go_roundw
              case rel => exact ⟨j + 1, by omega, by go_num, by rw [HT.out]; first | (congr 1; omega) | (simp [sumBad] <;> omega), GM2.out.next (below_drawn (Below.refl _ _) _)⟩
              case measure => simp [intOf] <;> omega
            · obtain ⟨i, rfl⟩ : ∃ i, j = i + 1 := ⟨j - 1, by omega⟩
              obtain ⟨⟨u, z⟩, huz⟩ : ∃ q, M[i]? = some q := ⟨_, List.getElem?_eq_getElem (by rw [HM.out]; omega)⟩
              obtain ⟨b', off', e', hbB', hd1, hd2⟩ := gm.rd i u z huz
              injection e' with e'
              injection e' with e1 e2
              subst e1 e2
              have hzx := (HLAW.out (i + 1) x y hxy).2 i u z rfl huz
              have hdec2 : decide (x ≤ z) = false := by simp; omega
              have hdec3 : decide ((0 : Int) < (i : Int) + 1) = true := decide_eq_true (by omega)
              have B1 : (0 : Int) < (i : Int) + 1 := by omega
              have W3 : IntKind.i64.wrap (i : Int) = i := IntWalk.i64_in _ (by omega)
              have B2 : (i : Int) < nM := by omega
              have B3 : (i : Int) + 1 < nM := by omega
              clear gm hxy huz
              go_wp2_with (fail)
              go_quiet (fail)
              go_wp2_with (fail)
              go_quiet (fail)
              clear W1 W2 W3
              go_wp2
              go_roundw
              case rel => exact ⟨i + 1 + 1, by omega, by go_num, by rw [HT.out]; first | (congr 1; omega) | (simp [sumBad] <;> omega), GM2.out.next (below_drawn (Below.refl _ _) _)⟩
              case measure => simp [intOf] <;> omega
          · have hjm : j = nM := by omega
            have HJ : Hid (sumBad (M.take j) = sumBad M) := Lib.hid (by rw [hjm, List.take_of_length_le (by rw [HM.out]; exact Nat.le_refl _)])
            have hfin : sumBad L + sumBad (M.take j) = v := by rw [HJ.out]; exact HSUM.out
            clear gm hjm
            go_wp2
            go_ret
            exact ⟨rfl, GM2.out.be⟩
end Go.Proofs.YtcegmlogjbnoeaaDoor
