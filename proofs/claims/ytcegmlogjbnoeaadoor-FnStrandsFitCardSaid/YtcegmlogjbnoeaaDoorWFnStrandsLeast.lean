/- The walk of the law FnStrandsLeast (written by genlaws.py). -/
import Derived.Test.YtcegmlogjbnoeaaDoorDrawBW
import Derived.Test.YtcegmlogjbnoeaaDoorRows2
import Derived.Test.YtcegmlogjbnoeaaDoorAppW
import Derived.Test.YtcegmlogjbnoeaaDoorAlive
import Derived.Test.YtcegmlogjbnoeaaDoorLeastImpl
import Derived.Test.YtcegmlogjbnoeaaDoorLeastSpec
import Derived.Test.YtcegmlogjbnoeaaDoorStrFn
namespace Go.Proofs.YtcegmlogjbnoeaaDoor
open Go.RowKit
set_option linter.unusedVariables false
set_option maxHeartbeats 1000000 in
theorem sumOf_any (A : Option Addr) (n c : Nat) (ws : List Int) (long : Int) (w : World) (hl : ws.length = n) (hr : RdI .i64 w w.heap.size A ws) (hw : wantsOk ws long = true) :
    Calls Tryd.prog 47 #[.slice A n c] w fun e w' => e = .returned (.int .i64 (sumI ws)) ∧ w = w' := by
  have HL := Lib.hid hl
  have HW := Lib.hid hw
  have hbd : ∀ k, k ≤ ws.length → 0 ≤ sm k (wF ws) ∧ sm k (wF ws) ≤ 60 * k := fun k => by
    induction k with
    | zero => intro _; simp [sm]
    | succ k ih =>
      intro hk
      have := ih (by omega)
      obtain ⟨x, hx⟩ : ∃ x, ws[k]? = some x := ⟨_, List.getElem?_eq_getElem (by omega)⟩
      have h1 := wantsOk_get hw hx
      have h2 := wantsOk_len hw
      rw [sumI_snoc hx]; omega
  have HB := Lib.hid hbd
  have h8 := (wantsOk_len hw).1
  rw [hl] at h8
  clear hl hw hbd
  go_enter Tryd.func47, Tryd.ntmps47
  go_wp2
  go_loop [3, 4] (fun t i => ∃ k : Nat, k ≤ n ∧ i = .int .i64 k ∧ t = .int .i64 (sm k (wF ws))) (fun _ i => n - (intOf i).toNat)
  case atStart => exact ⟨0, Nat.zero_le _, rfl, rfl⟩
  case round =>
    obtain ⟨k, hk, rfl, rfl⟩ := hrel
    obtain ⟨b0, b1⟩ := HB.out k (by rw [HL.out]; exact hk)
    by_cases hlt : k < n
    · obtain ⟨x, hx⟩ : ∃ x, ws[k]? = some x := ⟨_, List.getElem?_eq_getElem (by rw [HL.out]; omega)⟩
      obtain ⟨b, off, rfl, hbB, hc1⟩ := hr k x hx
      have h1 := wantsOk_get HW.out hx
      have h2 := (wantsOk_len HW.out).2
      have HX := Lib.hid (sumI_snoc hx)
      have W1 : IntKind.i64.wrap (sm k (wF ws) + x) = sm k (wF ws) + x := IntWalk.i64_in _ (by omega)
      clear hx hr
      go_wp2
      go_round
      case rel => exact ⟨k + 1, by omega, by go_num, by rw [HX.out]⟩
      case measure => simp [intOf] <;> omega
    · have hkn : k = n := by omega
      have HK : Hid (sm k (wF ws) = sumI ws) := Lib.hid (by rw [hkn]; unfold sumI; rw [HL.out])
      clear hkn
      go_wp2
      go_ret
      exact ⟨ret_int HK.out, rfl⟩
theorem sleast_le {ws : List Int} {long v : Int} (h : SLeast ws long v) (hv : 0 ≤ v) : v ≤ 8 := by
  obtain ⟨hw, m, rfl, hm⟩ := sleast_valid h hv
  have := hm.le (wants_fits hw)
  have := (wantsOk_len hw).1
  omega
theorem mul_small {v long : Int} (h0 : 0 ≤ v) (h1 : v ≤ 8) (l0 : 0 ≤ long) (l1 : long ≤ 61) : IntKind.i64.wrap (v * long) = v * long := by
  have a : 0 ≤ v * long := Int.mul_nonneg h0 l0
  have b : v * long ≤ 8 * 61 := Int.mul_le_mul h1 l1 l0 (by decide)
  exact IntWalk.i64_in _ (by omega)
set_option maxRecDepth 100000 in
set_option maxHeartbeats 1000000 in
theorem walkFnStrandsLeast (w : World) (A : Option Addr) (n c : Nat) (xs : List Int) (hl : xs.length = n) (rd : RdI .u8 w w.heap.size A xs) (hc : n ≤ c) (hx : ∀ x ∈ xs, 0 ≤ x ∧ x ≤ 255) (hT : TabAt 1 Lib.deBruijn64tab w) (hg1 : 1 < w.heap.size) :
    Calls Tryd.prog 11 #[.slice A n c] w fun e w' => e = .returned (.bool true) ∧ Below w.heap.size w w' := by
  by_cases hs0 : 1048576 < (n : Int)
  · go_enter Tryd.func11, Tryd.ntmps11
    go_wp2
    go_ret
    exact ⟨rfl, Below.refl _ _⟩
  have hn : n ≤ 1048576 := by omega
  go_enter Tryd.func11, Tryd.ntmps11
  go_wp2_with (fail)
  refine (drawStrandsLeast_st hl hc rd hn hx).mono ?_
  rintro e w1 ⟨A4, m, c4, L, long, rfl, hL, hn9, l0, l1, hown, hb⟩
  clear rd hx hl hc
  obtain ⟨i0, hi, hz0, hz1, hz2⟩ := info_parts info_int
  have gi : IO1 w w1 3 (.slice A4 m c4) m L := ⟨hb, hown⟩
  have HL := Lib.hid hL
  have hsz := hb.size
  obtain ⟨v, hv⟩ := sleast_exists L long
  have HV := Lib.hid hv
  by_cases hneg : v < 0
  · have hm1 := sleast_neg hv hneg
    subst hm1
    clear hneg hown hb hL hv
    go_wp2_with (first
      | (go_at_call 45; refine (implLeast_any _ _ _ L long _ HL.out gi.rd (by omega) HV.out (tab_up hT hg1 gi.be) (by (have := gi.be.size); omega)).mono ?_; rintro e w2 ⟨rfl, hb2⟩; have gi := gi.next hb2; have hsz := gi.be.size)
      | (go_at_call 46; refine (specLeast_any _ _ _ L long _ HL.out gi.rd (by omega) HV.out).mono ?_; rintro e w2 ⟨rfl, hb2⟩; have gi := gi.next hb2; have hsz := gi.be.size)
      | (go_at_call 21; refine (alive_any _).mono ?_; rintro e w2 ⟨rfl, hb2⟩; have gi := gi.next hb2))
    go_ret
    exact ⟨rfl, gi.be⟩
  have hv0 : 0 ≤ v := by omega
  have hv8 := sleast_le hv hv0
  have hsum := sleast_sum hv hv0
  have WM := mul_small hv0 hv8 l0 l1
  have hok := (sleast_valid hv hv0).1
  have HOK := Lib.hid hok
  have W1 : IntKind.i64.wrap (v - 1) = v - 1 := IntWalk.i64_in _ (by omega)
  by_cases hm0 : m = 0
  · have hL0 : L = [] := List.eq_nil_of_length_eq_zero (by rw [hL, hm0])
    have hv1 : v = 0 := by rw [hL0] at hv; exact sleast_nil hv hv0
    have B0 : ((m : Int) == 0) = true := by simp [hm0]
    subst hv1
    clear hm0 hown hb hL hv hL0 hsum hok WM W1
    go_wp2_with (first
      | (go_at_call 45; refine (implLeast_any _ _ _ L long _ HL.out gi.rd (by omega) HV.out (tab_up hT hg1 gi.be) (by (have := gi.be.size); omega)).mono ?_; rintro e w2 ⟨rfl, hb2⟩; have gi := gi.next hb2; have hsz := gi.be.size)
      | (go_at_call 46; refine (specLeast_any _ _ _ L long _ HL.out gi.rd (by omega) HV.out).mono ?_; rintro e w2 ⟨rfl, hb2⟩; have gi := gi.next hb2; have hsz := gi.be.size))
    go_ret
    exact ⟨rfl, gi.be⟩
  · obtain ⟨j, rfl⟩ : ∃ j, m = j + 1 := ⟨m - 1, by omega⟩
    obtain ⟨g, cc, hform, -, -⟩ := own_form hown (by omega)
    injection hform with hA _ hC
    subst hA
    have hcap := own_cap hown
    obtain ⟨u, hu⟩ := sleast_exists (L.drop 1) long
    obtain ⟨z, hz⟩ := sleast_exists (L.take j) long
    have huv : u = v ∨ u = v - 1 := by
      cases L with
      | nil => simp at hL
      | cons x t => exact sleast_tail hv hv0 hu
    have hzv := sleast_init hL hv hv0 hz
    have HU := Lib.hid hu
    have HZ := Lib.hid hz
    have HT : Hid ((L.drop 1).length = j) := Lib.hid (by rw [List.length_drop, HL.out]; rfl)
    have HK : Hid ((L.take j).length = j) := Lib.hid (by rw [List.length_take, HL.out]; exact Nat.min_eq_left (by omega))
    have B0 : ((j : Int) + 1 == 0) = false := by simp; omega
    have B1 : (1 : Int) ≤ (j : Int) + 1 := by omega
    have B3 : (j : Int) ≤ c4 := by omega
    have W2 : IntKind.i64.wrap (j : Int) = j := IntWalk.i64_in _ (by omega)
    clear hown hb hL hv hok hu hz hm0 hC
    by_cases hc4 : c4 = 1
    · subst hc4
      obtain rfl : j = 0 := by omega
      have rt0 : ∀ wk : World, RdI .i64 wk wk.heap.size (some ⟨g, 0, none⟩) (L.drop 1) := fun wk k x hk => by
        have := (List.getElem?_eq_some_iff.1 hk).1
        rw [HT.out] at this; omega
      have RT := Lib.hid rt0
      clear rt0
      rcases huv with huv | huv
      · have D1 : (u == v) = true := by simp [huv]
        clear huv
        go_wp2_with (first
          | (go_at_call_of 45 (Value.slice (some ⟨g, 0, none⟩) 0 0); refine (implLeast_any (some ⟨g, 0, none⟩) 0 0 (L.drop 1) long _ HT.out (RT.out _) (by omega) HU.out (tab_up hT hg1 gi.be) (by (have := gi.be.size); omega)).mono ?_; rintro e w2 ⟨rfl, hb2⟩; have gi := gi.next hb2; have hsz := gi.be.size)
          | (go_at_call_of 45 A6; refine (implLeast_any A6 0 c6 (L.take 0) long _ HK.out (RdI.of_own hown6) (by omega) HZ.out (tab_up hT hg1 be6) (by (have := be6.size); omega)).mono ?_; rintro e w3 ⟨rfl, hb3⟩; have be3 := below_next be6 hb3)
          | (go_at_call_of 45 (Value.slice (some ⟨g, 0, none⟩) 1 1); refine (implLeast_any _ _ _ L long _ HL.out gi.rd (by omega) HV.out (tab_up hT hg1 gi.be) (by (have := gi.be.size); omega)).mono ?_; rintro e w2 ⟨rfl, hb2⟩; have gi := gi.next hb2; have hsz := gi.be.size)
          | (go_at_call 46; refine (specLeast_any _ _ _ L long _ HL.out gi.rd (by omega) HV.out).mono ?_; rintro e w2 ⟨rfl, hb2⟩; have gi := gi.next hb2; have hsz := gi.be.size)
          | (go_at_call 47; refine (sumOf_any _ _ _ L long _ HL.out gi.rd HOK.out).mono ?_; rintro e w9 ⟨rfl, rfl⟩)
          | (at_builtin; (refine wpList_append_own_w _ (by rfl) (.tmp 57) (.tmp 62) 24 rfl w.heap.size 3 i0 _ 1 8 Tryd.underlying24 hi hz0 hz1 hz2 rfl (by decide) (.slice (some ⟨w2.heap.size, 0, none⟩) 0 0) 0 [] rfl (own_made0 hsz _ _) ⟨g, 0, none⟩ 0 1 (intsV .i64 (L.take 0)) rfl (by rw [intsV_length, HK.out, Nat.mul_one]) (take_cells1 (gi.own.alloc _) _) intsV_one (by unfold maxLen; omega) (by omega) (by simp; omega) ?_); intro v6 w6 hown6 hgr6 hv6; simp only [Nat.zero_add, List.nil_append] at hown6; have be6 := Below.grown (gi.be.alloc hsz (.cells #[] 3)) hgr6 (by simp; omega) (fun k hk => by (have := own_ge (own_made0 hsz 3 1) hk); omega); obtain ⟨A6, c6, rfl⟩ := own_form0 hown6))
        go_ret
        exact ⟨rfl, be3⟩
      · have D1 : (u == v) = false := by simp; omega
        have D2 : (u == v - 1) = true := by simp [huv]
        clear huv
        go_wp2_with (first
          | (go_at_call_of 45 (Value.slice (some ⟨g, 0, none⟩) 0 0); refine (implLeast_any (some ⟨g, 0, none⟩) 0 0 (L.drop 1) long _ HT.out (RT.out _) (by omega) HU.out (tab_up hT hg1 gi.be) (by (have := gi.be.size); omega)).mono ?_; rintro e w2 ⟨rfl, hb2⟩; have gi := gi.next hb2; have hsz := gi.be.size)
          | (go_at_call_of 45 A6; refine (implLeast_any A6 0 c6 (L.take 0) long _ HK.out (RdI.of_own hown6) (by omega) HZ.out (tab_up hT hg1 be6) (by (have := be6.size); omega)).mono ?_; rintro e w3 ⟨rfl, hb3⟩; have be3 := below_next be6 hb3)
          | (go_at_call_of 45 (Value.slice (some ⟨g, 0, none⟩) 1 1); refine (implLeast_any _ _ _ L long _ HL.out gi.rd (by omega) HV.out (tab_up hT hg1 gi.be) (by (have := gi.be.size); omega)).mono ?_; rintro e w2 ⟨rfl, hb2⟩; have gi := gi.next hb2; have hsz := gi.be.size)
          | (go_at_call 46; refine (specLeast_any _ _ _ L long _ HL.out gi.rd (by omega) HV.out).mono ?_; rintro e w2 ⟨rfl, hb2⟩; have gi := gi.next hb2; have hsz := gi.be.size)
          | (go_at_call 47; refine (sumOf_any _ _ _ L long _ HL.out gi.rd HOK.out).mono ?_; rintro e w9 ⟨rfl, rfl⟩)
          | (at_builtin; (refine wpList_append_own_w _ (by rfl) (.tmp 57) (.tmp 62) 24 rfl w.heap.size 3 i0 _ 1 8 Tryd.underlying24 hi hz0 hz1 hz2 rfl (by decide) (.slice (some ⟨w2.heap.size, 0, none⟩) 0 0) 0 [] rfl (own_made0 hsz _ _) ⟨g, 0, none⟩ 0 1 (intsV .i64 (L.take 0)) rfl (by rw [intsV_length, HK.out, Nat.mul_one]) (take_cells1 (gi.own.alloc _) _) intsV_one (by unfold maxLen; omega) (by omega) (by simp; omega) ?_); intro v6 w6 hown6 hgr6 hv6; simp only [Nat.zero_add, List.nil_append] at hown6; have be6 := Below.grown (gi.be.alloc hsz (.cells #[] 3)) hgr6 (by simp; omega) (fun k hk => by (have := own_ge (own_made0 hsz 3 1) hk); omega); obtain ⟨A6, c6, rfl⟩ := own_form0 hown6))
        go_ret
        exact ⟨rfl, be3⟩
    · have hc5 : 1 < c4 := by omega
      have B2 : (1 : Int) < c4 := by omega
      rcases huv with huv | huv
      · have D1 : (u == v) = true := by simp [huv]
        clear huv
        go_wp2_with (first
          | (go_at_call_of 45 (some (⟨g, 1, none⟩ : Addr)); refine (implLeast_any (some ⟨g, 1, none⟩) j (c4 - 1) (L.drop 1) long _ HT.out (own_tail1 gi.own) (by omega) HU.out (tab_up hT hg1 gi.be) (by (have := gi.be.size); omega)).mono ?_; rintro e w2 ⟨rfl, hb2⟩; have gi := gi.next hb2; have hsz := gi.be.size)
          | (go_at_call_of 45 A6; refine (implLeast_any A6 j c6 (L.take j) long _ HK.out (RdI.of_own hown6) (by omega) HZ.out (tab_up hT hg1 be6) (by (have := be6.size); omega)).mono ?_; rintro e w3 ⟨rfl, hb3⟩; have be3 := below_next be6 hb3)
          | (go_at_call_of 45 c4; refine (implLeast_any _ _ _ L long _ HL.out gi.rd (by omega) HV.out (tab_up hT hg1 gi.be) (by (have := gi.be.size); omega)).mono ?_; rintro e w2 ⟨rfl, hb2⟩; have gi := gi.next hb2; have hsz := gi.be.size)
          | (go_at_call 46; refine (specLeast_any _ _ _ L long _ HL.out gi.rd (by omega) HV.out).mono ?_; rintro e w2 ⟨rfl, hb2⟩; have gi := gi.next hb2; have hsz := gi.be.size)
          | (go_at_call 47; refine (sumOf_any _ _ _ L long _ HL.out gi.rd HOK.out).mono ?_; rintro e w9 ⟨rfl, rfl⟩)
          | (at_builtin; (refine wpList_append_own_w _ (by rfl) (.tmp 57) (.tmp 62) 24 rfl w.heap.size 3 i0 _ 1 8 Tryd.underlying24 hi hz0 hz1 hz2 rfl (by decide) (.slice (some ⟨w2.heap.size, 0, none⟩) 0 0) 0 [] rfl (own_made0 hsz _ _) ⟨g, 0, none⟩ j c4 (intsV .i64 (L.take j)) rfl (by rw [intsV_length, HK.out, Nat.mul_one]) (take_cells1 (gi.own.alloc _) _) intsV_one (by unfold maxLen; omega) (by omega) (by simp; omega) ?_); intro v6 w6 hown6 hgr6 hv6; simp only [Nat.zero_add, List.nil_append] at hown6; have be6 := Below.grown (gi.be.alloc hsz (.cells #[] 3)) hgr6 (by simp; omega) (fun k hk => by (have := own_ge (own_made0 hsz 3 1) hk); omega); obtain ⟨A6, c6, rfl⟩ := own_form0 hown6))
        go_ret
        exact ⟨rfl, be3⟩
      · have D1 : (u == v) = false := by simp; omega
        have D2 : (u == v - 1) = true := by simp [huv]
        clear huv
        go_wp2_with (first
          | (go_at_call_of 45 (some (⟨g, 1, none⟩ : Addr)); refine (implLeast_any (some ⟨g, 1, none⟩) j (c4 - 1) (L.drop 1) long _ HT.out (own_tail1 gi.own) (by omega) HU.out (tab_up hT hg1 gi.be) (by (have := gi.be.size); omega)).mono ?_; rintro e w2 ⟨rfl, hb2⟩; have gi := gi.next hb2; have hsz := gi.be.size)
          | (go_at_call_of 45 A6; refine (implLeast_any A6 j c6 (L.take j) long _ HK.out (RdI.of_own hown6) (by omega) HZ.out (tab_up hT hg1 be6) (by (have := be6.size); omega)).mono ?_; rintro e w3 ⟨rfl, hb3⟩; have be3 := below_next be6 hb3)
          | (go_at_call_of 45 c4; refine (implLeast_any _ _ _ L long _ HL.out gi.rd (by omega) HV.out (tab_up hT hg1 gi.be) (by (have := gi.be.size); omega)).mono ?_; rintro e w2 ⟨rfl, hb2⟩; have gi := gi.next hb2; have hsz := gi.be.size)
          | (go_at_call 46; refine (specLeast_any _ _ _ L long _ HL.out gi.rd (by omega) HV.out).mono ?_; rintro e w2 ⟨rfl, hb2⟩; have gi := gi.next hb2; have hsz := gi.be.size)
          | (go_at_call 47; refine (sumOf_any _ _ _ L long _ HL.out gi.rd HOK.out).mono ?_; rintro e w9 ⟨rfl, rfl⟩)
          | (at_builtin; (refine wpList_append_own_w _ (by rfl) (.tmp 57) (.tmp 62) 24 rfl w.heap.size 3 i0 _ 1 8 Tryd.underlying24 hi hz0 hz1 hz2 rfl (by decide) (.slice (some ⟨w2.heap.size, 0, none⟩) 0 0) 0 [] rfl (own_made0 hsz _ _) ⟨g, 0, none⟩ j c4 (intsV .i64 (L.take j)) rfl (by rw [intsV_length, HK.out, Nat.mul_one]) (take_cells1 (gi.own.alloc _) _) intsV_one (by unfold maxLen; omega) (by omega) (by simp; omega) ?_); intro v6 w6 hown6 hgr6 hv6; simp only [Nat.zero_add, List.nil_append] at hown6; have be6 := Below.grown (gi.be.alloc hsz (.cells #[] 3)) hgr6 (by simp; omega) (fun k hk => by (have := own_ge (own_made0 hsz 3 1) hk); omega); obtain ⟨A6, c6, rfl⟩ := own_form0 hown6))
        go_ret
        exact ⟨rfl, be3⟩
end Go.Proofs.YtcegmlogjbnoeaaDoor
