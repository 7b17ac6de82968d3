/- The walk of the law FnSlabsLeast (written by genlaws.py). -/
import Derived.Test.YtcegmlogjbnoeaaDoorDrawBW
import Derived.Test.YtcegmlogjbnoeaaDoorRows2
import Derived.Test.YtcegmlogjbnoeaaDoorAppX
import Derived.Test.YtcegmlogjbnoeaaDoorAlive
import Derived.Test.YtcegmlogjbnoeaaDoorSlabLeast
import Derived.Test.YtcegmlogjbnoeaaDoorSlabFn2
import Derived.Test.YtcegmlogjbnoeaaDoorWFnCutLeast
namespace Go.Proofs.YtcegmlogjbnoeaaDoor
open Go.RowKit
set_option linter.unusedVariables false
set_option maxRecDepth 100000 in
set_option maxHeartbeats 1000000 in
theorem walkFnSlabsLeast (w : World) (A : Option Addr) (n c : Nat) (xs : List Int) (hl : xs.length = n) (rd : RdI .u8 w w.heap.size A xs) (hc : n ≤ c) (hx : ∀ x ∈ xs, 0 ≤ x ∧ x ≤ 255) :
    Calls Tryd.prog 4 #[.slice A n c] w fun e w' => e = .returned (.bool true) ∧ Below w.heap.size w w' := by
  by_cases hs0 : 1048576 < (n : Int)
  · go_enter Tryd.func4, Tryd.ntmps4
    go_wp2
    go_ret
    exact ⟨rfl, Below.refl _ _⟩
  have hn : n ≤ 1048576 := by omega
  go_enter Tryd.func4, Tryd.ntmps4
  go_wp2_with (fail)
  refine (drawSlabsLeast_st hl hc rd hn hx).mono ?_
  rintro e w1 ⟨A4, m, c4, L, v, A5, m5, c5, ls, rfl, hL, hn9, v0, v1, hls, hn5, o1, o2, hb⟩
  clear rd hx hl hc
  obtain ⟨i0, hi, hz0, hz1, hz2⟩ := info_parts info_Stretch
  have gi : PO w w1 31 (.slice A4 m c4) m L := ⟨hb, o1⟩
  have gl : GI w w1 A5 ls := ⟨hb, RdI.of_own o2⟩
  have HL := Lib.hid hL
  have HS := Lib.hid hls
  clear o1 o2 hb hL hls
  by_cases hneg : slabsLeast v L ls < 0
  · have hm1 := slabsLeast_neg hneg
    clear hneg
    go_wp2_with (first
      | (go_at_call 22; refine (implSLeast_any _ _ _ _ L _ _ _ ls _ HL.out gi.rd (by omega) HS.out gl.rd (by omega)).mono ?_; rintro e w2 ⟨rfl, hb2⟩; have gi := gi.next hb2; have gl := gl.next hb2)
      | (go_at_call 24; refine (specSLeast_any _ _ _ _ L _ _ _ ls _ HL.out gi.rd (by omega) HS.out gl.rd (by omega)).mono ?_; rintro e w2 ⟨rfl, hb2⟩; have gi := gi.next hb2; have gl := gl.next hb2)
      | (go_at_call 21; refine (alive_any _).mono ?_; rintro e w2 ⟨rfl, hb2⟩; have gi := gi.next hb2))
    go_ret
    exact ⟨rfl, gi.be⟩
  · have h0 : 0 ≤ slabsLeast v L ls := by omega
    obtain ⟨hb1, hb2⟩ := slabsLeast_bounds h0
    have H0 := Lib.hid h0
    clear h0
    go_wp2_with (first
      | (go_at_call 22; refine (implSLeast_any _ _ _ _ L _ _ _ ls _ HL.out gi.rd (by omega) HS.out gl.rd (by omega)).mono ?_; rintro e w2 ⟨rfl, hb2⟩; have gi := gi.next hb2; have gl := gl.next hb2)
      | (go_at_call 24; refine (specSLeast_any _ _ _ _ L _ _ _ ls _ HL.out gi.rd (by omega) HS.out gl.rd (by omega)).mono ?_; rintro e w2 ⟨rfl, hb2⟩; have gi := gi.next hb2; have gl := gl.next hb2))
    have GLH := Lib.hid gl
    have GIH := Lib.hid gi
    clear gi gl
    go_loopw [7] (fun i wr => ∃ k : Nat, k ≤ m ∧ i = .int .i64 k ∧ GI w wr A5 ls ∧ PO w wr 31 (.slice A4 m c4) m L) (fun i _ => m - (intOf i).toNat)
    case atStart => exact ⟨0, Nat.zero_le _, rfl, GLH.out, GIH.out⟩
    case round =>
      obtain ⟨k, hk, rfl, gl, gi⟩ := hrel
      clear GLH GIH
      by_cases hlt : k < m
      · obtain ⟨g, cc, hform, -, -⟩ := own_form gi.own (by omega)
        injection hform with hA _ hC
        subst hA
        have hcap := own_cap gi.own
        have herase := slabsLeast_erase H0.out k
        have hdec : ¬ slabsLeast v L ls < slabsLeast v (L.take k ++ L.drop (k + 1)) ls := by omega
        have GL1 := Lib.hid gl
        have GI1 := Lib.hid gi
        have HK : Hid ((L.take k).length = k) := Lib.hid (by rw [List.length_take, HL.out]; omega)
        have HD : Hid ((L.drop (k + 1)).length = m - (k + 1)) := Lib.hid (by rw [List.length_drop, HL.out])
        have B1 : (k : Int) ≤ c4 := by omega
        have B2 : (k : Int) + 1 ≤ m := by omega
        have B3 : (k : Int) + 1 ≤ c4 := by omega
        have B4 : (m : Int) ≤ c4 := by omega
        have B6 : (k : Int) ≤ (k : Int) + 1 := by omega
        have B7 : 0 ≤ (k : Int) + 1 := by omega
        have W1 : IntKind.i64.wrap ((k : Int) + 1) = k + 1 := IntWalk.i64_in _ (by omega)
        have T1 : ((k : Int) + 1).toNat = k + 1 := by omega
        clear gl gi hC herase
        by_cases hc4 : k + 1 = c4
        · have hmk : m = k + 1 := by omega
          subst hmk
          subst hc4
          have HZ : Hid (L.take k ++ L.drop (k + 1) = L.take k) := Lib.hid (by rw [List.drop_eq_nil_of_le (by rw [HL.out]; exact Nat.le_refl _), List.append_nil])
          have hdec2 : ¬ slabsLeast v L ls < slabsLeast v (L.take k) ls := by rw [← HZ.out]; exact hdec
          clear hdec
          go_wp2_with (fail)
          go_region_law (first
            | (refine step_append_own rfl (.tmp 41) (.tmp 44) 23 rfl wr.heap.size 31 i0 _ 2 16 Tryd.underlying23 hi hz0 hz1 hz2 rfl (by decide) (.slice (some ⟨wr.heap.size, 0, none⟩) 0 0) 0 [] rfl (own_made0 (w := wr.drew) (Nat.le_refl _) _ _) ⟨g, 0, none⟩ k (k + 1) (pairsV (L.take k)) rfl (by rw [pairsV_length, HK.out]) (take_cells2 (GI1.out.own.alloc _) k) pairsV_one (by unfold maxLen; omega) (by omega) (by simp) ?_; intro v5 w5 hown5 hgr5; simp only [Nat.zero_add, List.nil_append] at hown5; have be5 := Below.grown ((Below.refl wr.heap.size wr).drew.alloc (Nat.le_refl _) (.cells #[] 31)) hgr5 (by simp) (fun k hk => own_ge (own_made0 (w := wr.drew) (Nat.le_refl wr.heap.size) 31 2) hk); obtain ⟨A9, c9, rfl⟩ := own_form0 hown5; have gi5 := GI1.out.next be5; have gl5 := GL1.out.next be5)
            | (refine step_append_own rfl (.tmp 45) (.tmp 49) 23 rfl wr.heap.size 31 i0 _ 2 16 Tryd.underlying23 hi hz0 hz1 hz2 rfl (by decide) (.slice A9 k c9) k (pairsV (L.take k)) rfl hown5 ⟨g, 0, none⟩ 0 0 (pairsV []) rfl rfl (by intro j u hu; simp [pairsV] at hu) pairsV_one (by unfold maxLen; omega) (by omega) be5.size ?_; intro v6 w6 hown6 hgr6; rw [← pairsV_append, List.append_nil, Nat.add_zero] at hown6; have be6 := Below.grown be5 hgr6 be5.size (fun k hk => own_ge hown5 hk); obtain ⟨A8, c8, rfl⟩ := own_form0 hown6; have gi6 := GI1.out.next be6; have gl6 := GL1.out.next be6)
            | (go_simp; go_at_call 22; refine (implSLeast_any _ A8 k c8 (L.take k) _ _ _ ls _ HK.out (RdP.of_own hown6) (by omega) HS.out gl6.rd (by omega)).mono ?_; rintro e w7 ⟨rfl, hb7⟩; have gi7 := gi6.next hb7; have gl7 := gl6.next hb7))
          all_goals
            go_wp2
            go_roundw
            case rel => exact ⟨k + 1, by omega, by go_num, gl7, gi7⟩
            case measure => simp [intOf] <;> omega
        · have B5 : (k : Int) + 1 < c4 := by omega
          have hc5 : ¬ c4 = k + 1 := by omega
          go_wp2_with (fail)
          go_region_law (first
            | (refine step_append_own rfl (.tmp 41) (.tmp 44) 23 rfl wr.heap.size 31 i0 _ 2 16 Tryd.underlying23 hi hz0 hz1 hz2 rfl (by decide) (.slice (some ⟨wr.heap.size, 0, none⟩) 0 0) 0 [] rfl (own_made0 (w := wr.drew) (Nat.le_refl _) _ _) ⟨g, 0, none⟩ k c4 (pairsV (L.take k)) rfl (by rw [pairsV_length, HK.out]) (take_cells2 (GI1.out.own.alloc _) k) pairsV_one (by unfold maxLen; omega) (by omega) (by simp) ?_; intro v5 w5 hown5 hgr5; simp only [Nat.zero_add, List.nil_append] at hown5; have be5 := Below.grown ((Below.refl wr.heap.size wr).drew.alloc (Nat.le_refl _) (.cells #[] 31)) hgr5 (by simp) (fun k hk => own_ge (own_made0 (w := wr.drew) (Nat.le_refl wr.heap.size) 31 2) hk); obtain ⟨A9, c9, rfl⟩ := own_form0 hown5; have gi5 := GI1.out.next be5; have gl5 := GL1.out.next be5)
            | (refine step_append_own rfl (.tmp 45) (.tmp 49) 23 rfl wr.heap.size 31 i0 _ 2 16 Tryd.underlying23 hi hz0 hz1 hz2 rfl (by decide) (.slice A9 k c9) k (pairsV (L.take k)) rfl hown5 ⟨g, (k + 1) * 2, none⟩ (m - (k + 1)) (c4 - (k + 1)) (pairsV (L.drop (k + 1))) rfl (by rw [pairsV_length, HD.out]) (drop_cells2 gi5.own (k + 1)) pairsV_one (by unfold maxLen; omega) (by omega) be5.size ?_; intro v6 w6 hown6 hgr6; rw [← pairsV_append] at hown6; have hkm : k + (m - (k + 1)) = m - 1 := (by omega); rw [hkm] at hown6; have be6 := Below.grown be5 hgr6 be5.size (fun k hk => own_ge hown5 hk); obtain ⟨A8, c8, rfl⟩ := own_form0 hown6; have gi6 := GI1.out.next be6; have gl6 := GL1.out.next be6)
            | (go_simp; go_at_call 22; refine (implSLeast_any _ A8 (m - 1) c8 (L.take k ++ L.drop (k + 1)) _ _ _ ls _ (by rw [List.length_append, HK.out, HD.out]; omega) (RdP.of_own hown6) (by omega) HS.out gl6.rd (by omega)).mono ?_; rintro e w7 ⟨rfl, hb7⟩; have gi7 := gi6.next hb7; have gl7 := gl6.next hb7))
          all_goals
            go_wp2
            go_roundw
            case rel => exact ⟨k + 1, by omega, by go_num, gl7, gi7⟩
            case measure => simp [intOf] <;> omega
      · go_wp2_with (first
          | (go_at_call 25; refine (implCutLeast_any _ _ _ _ ls _ HS.out gl.rd (by omega)).mono ?_; rintro e w2 ⟨rfl, hb2⟩; have gi := gi.next hb2))
        go_ret
        exact ⟨rfl, gi.be⟩
end Go.Proofs.YtcegmlogjbnoeaaDoor
