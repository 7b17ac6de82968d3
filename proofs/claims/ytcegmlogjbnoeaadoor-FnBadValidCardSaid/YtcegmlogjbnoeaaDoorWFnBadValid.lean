/- The walk of the law FnBadValid (written by genlaws.py). -/
import Derived.Test.YtcegmlogjbnoeaaDoorDrawBW
import Derived.Test.YtcegmlogjbnoeaaDoorRows2
import Derived.Test.YtcegmlogjbnoeaaDoorAlive
import Derived.Test.YtcegmlogjbnoeaaDoorBadWalk
import Derived.Test.YtcegmlogjbnoeaaDoorSlabFn2
import Derived.Test.YtcegmlogjbnoeaaDoorAppW
namespace Go.Proofs.YtcegmlogjbnoeaaDoor
open Go.RowKit
set_option linter.unusedVariables false
theorem badOk_tail {L : List (Int × Int)} {long : Int} (h : badOk long L = true) : badOk long L.tail = true := by
  cases L with
  | nil => exact h
  | cons x t => exact badOk_drop1 h
set_option maxRecDepth 100000 in
set_option maxHeartbeats 1000000 in
theorem walkFnBadValid (w : World) (A : Option Addr) (n c : Nat) (xs : List Int) (hl : xs.length = n) (rd : RdI .u8 w w.heap.size A xs) (hc : n ≤ c) (hx : ∀ x ∈ xs, 0 ≤ x ∧ x ≤ 255) :
    Calls Tryd.prog 6 #[.slice A n c] w fun e w' => e = .returned (.bool true) ∧ Below w.heap.size w w' := by
  by_cases hs0 : 1048576 < (n : Int)
  · go_enter Tryd.func6, Tryd.ntmps6
    go_wp2
    go_ret
    exact ⟨rfl, Below.refl _ _⟩
  have hn : n ≤ 1048576 := by omega
  go_enter Tryd.func6, Tryd.ntmps6
  go_wp2_with (fail)
  refine (drawBadValid_st hl hc rd hn hx).mono ?_
  rintro e w1 ⟨A4, m, c4, L, long, rfl, hL, hn9, l0, l1, hown, hb⟩
  clear rd hx hl hc
  obtain ⟨i0, hi, hz0, hz1, hz2⟩ := info_parts info_Stretch
  have gi : PO w w1 31 (.slice A4 m c4) m L := ⟨hb, hown⟩
  have HL := Lib.hid hL
  have hZ := badOk_zero (long := long) L
  have hN0 : badOk 0 [] = true := by decide
  have hsz := hb.size
  rcases hown.2 with ⟨hv, h0⟩ | ⟨g, cap, cur, hv, _⟩
  · injection hv with hA _ hC
    subst hA h0 hC
    obtain rfl : L = [] := List.eq_nil_of_length_eq_zero hL
    clear hown hL
    cases hv : badOk long []
    · go_wp2_with (first
        | (go_at_call_of 30 (Value.slice none 0 0); refine (implBad_any _ none 0 0 [] _ rfl RdP.nil (by omega)).mono ?_; rintro e w2 ⟨rfl, hb2⟩; have gi := gi.next hb2; have hsz := gi.be.size)
        | (go_at_call 31; refine (specBad_any _ none 0 0 [] _ rfl RdP.nil (by omega)).mono ?_; rintro e w2 ⟨rfl, hb2⟩; have gi := gi.next hb2; have hsz := gi.be.size)
        | (go_at_call 21; refine (alive_any _).mono ?_; rintro e w2 ⟨rfl, hb2⟩; have gi := gi.next hb2))
      go_ret
      exact ⟨rfl, gi.be⟩
    · go_wp2_with (first
        | (go_at_call_of 30 (Value.slice (some ⟨w2.heap.size, 0, none⟩) 1 1); refine (implBad_any _ (some ⟨w2.heap.size, 0, none⟩) 1 1 [(0, 0)] _ rfl (RdP.of_own (own_one (base := w.heap.size) (Newest.alloc_ rfl) hsz)) (by omega)).mono ?_; rintro e w3 ⟨rfl, hb3⟩; have be3 := below_next (gi.be.alloc hsz _) hb3)
        | (go_at_call_of 30 (Value.slice none 0 0); refine (implBad_any _ none 0 0 [] _ rfl RdP.nil (by omega)).mono ?_; rintro e w2 ⟨rfl, hb2⟩; have gi := gi.next hb2; have hsz := gi.be.size)
        | (go_at_call 31; refine (specBad_any _ none 0 0 [] _ rfl RdP.nil (by omega)).mono ?_; rintro e w2 ⟨rfl, hb2⟩; have gi := gi.next hb2; have hsz := gi.be.size))
      go_ret
      exact ⟨rfl, be3⟩
  · injection hv with hA _ hC
    subst hA
    have hcap := own_cap hown
    clear hown hb hC hL
    cases hv : badOk long L
    · go_wp2_with (first
        | (go_at_call_of 30 (Value.slice (some ⟨g, 0, none⟩) m c4); refine (implBad_any _ (some ⟨g, 0, none⟩) m c4 L _ HL.out gi.rd (by omega)).mono ?_; rintro e w2 ⟨rfl, hb2⟩; have gi := gi.next hb2; have hsz := gi.be.size)
        | (go_at_call 31; refine (specBad_any _ (some ⟨g, 0, none⟩) m c4 L _ HL.out gi.rd (by omega)).mono ?_; rintro e w2 ⟨rfl, hb2⟩; have gi := gi.next hb2; have hsz := gi.be.size)
        | (go_at_call_of 30 (Value.slice none 0 0); refine (implBad_any _ none 0 0 [] _ rfl RdP.nil (by omega)).mono ?_; rintro e w2 ⟨rfl, hb2⟩; have gi := gi.next hb2; have hsz := gi.be.size)
        | (go_at_call 21; refine (alive_any _).mono ?_; rintro e w2 ⟨rfl, hb2⟩; have gi := gi.next hb2))
      go_ret
      exact ⟨rfl, gi.be⟩
    · have hT := badOk_tail hv
      by_cases hm0 : m = 0
      · have B0 : ((m : Int) == 0) = true := by simp [hm0]
        clear hm0
        go_wp2_with (first
          | (go_at_call_of 30 (Value.slice (some ⟨g, 0, none⟩) m c4); refine (implBad_any _ (some ⟨g, 0, none⟩) m c4 L _ HL.out gi.rd (by omega)).mono ?_; rintro e w2 ⟨rfl, hb2⟩; have gi := gi.next hb2; have hsz := gi.be.size)
          | (go_at_call 31; refine (specBad_any _ (some ⟨g, 0, none⟩) m c4 L _ HL.out gi.rd (by omega)).mono ?_; rintro e w2 ⟨rfl, hb2⟩; have gi := gi.next hb2; have hsz := gi.be.size)
          | (at_builtin; (refine wpList_append_own_w _ (by rfl) (.tmp 40) (.tmp 41) 23 rfl w.heap.size 31 i0 _ 2 16 Tryd.underlying23 hi hz0 hz1 hz2 rfl (by decide) (.slice (some ⟨w2.heap.size, 0, none⟩) 1 1) 1 (pairsV [(0, 0)]) rfl (own_one (Newest.alloc_ rfl) hsz) ⟨g, 0, none⟩ m c4 (pairsV L) rfl (by rw [pairsV_length, HL.out]) (own_cells (gi.own.alloc _)) pairsV_one (by unfold maxLen; omega) (by omega) (by simp; omega) ?_); intro v6 w6 hown6 hgr6 hv6; have be6 := Below.grown (gi.be.alloc hsz (.cells #[.int .i64 0, .int .i64 0] 31)) hgr6 (by simp; omega) (fun k hk => by (have h9 : w2.heap.size = k := (by simpa [Value.ownBlock] using hk)); omega); rw [← pairsV_append] at hown6; obtain ⟨g6, c6, rfl, -, -⟩ := own_form hown6 (by omega))
          | (go_at_call_of 30 g6; refine (implBad_any _ (some ⟨g6, 0, none⟩) (1 + m) c6 ([(0, 0)] ++ L) _ (by rw [List.length_append, HL.out]; rfl) (RdP.of_own hown6) (by omega)).mono ?_; rintro e w3 ⟨rfl, hb3⟩; have be3 := below_next be6 hb3))
        go_ret
        exact ⟨rfl, be3⟩
      · obtain ⟨j, rfl⟩ : ∃ j, m = j + 1 := ⟨m - 1, by omega⟩
        by_cases hc4 : c4 = 1
        · subst hc4
          obtain rfl : j = 0 := by omega
          have hT0 : badOk long [] = true := by
            have : L.tail = [] := by have := HL.out; cases L with
              | nil => rfl
              | cons x t => cases t with
                | nil => rfl
                | cons y s => simp at this
            rw [this] at hT; exact hT
          go_wp2_with (first
            | (go_at_call_of 30 (Value.slice (some ⟨g, 0, none⟩) 0 0); refine (implBad_any _ (some ⟨g, 0, none⟩) 0 0 [] _ rfl RdP.nil (by omega)).mono ?_; rintro e w2 ⟨rfl, hb2⟩; have gi := gi.next hb2; have hsz := gi.be.size)
            | (go_at_call_of 30 (Value.slice (some ⟨g, 0, none⟩) 1 1); refine (implBad_any _ (some ⟨g, 0, none⟩) 1 1 L _ HL.out gi.rd (by omega)).mono ?_; rintro e w2 ⟨rfl, hb2⟩; have gi := gi.next hb2; have hsz := gi.be.size)
            | (go_at_call 31; refine (specBad_any _ (some ⟨g, 0, none⟩) 1 1 L _ HL.out gi.rd (by omega)).mono ?_; rintro e w2 ⟨rfl, hb2⟩; have gi := gi.next hb2; have hsz := gi.be.size)
            | (at_builtin; (refine wpList_append_own_w _ (by rfl) (.tmp 40) (.tmp 41) 23 rfl w.heap.size 31 i0 _ 2 16 Tryd.underlying23 hi hz0 hz1 hz2 rfl (by decide) (.slice (some ⟨w2.heap.size, 0, none⟩) 1 1) 1 (pairsV [(0, 0)]) rfl (own_one (Newest.alloc_ rfl) hsz) ⟨g, 0, none⟩ 1 1 (pairsV L) rfl (by rw [pairsV_length, HL.out]) (own_cells (gi.own.alloc _)) pairsV_one (by unfold maxLen; omega) (by omega) (by simp; omega) ?_); intro v6 w6 hown6 hgr6 hv6; have be6 := Below.grown (gi.be.alloc hsz (.cells #[.int .i64 0, .int .i64 0] 31)) hgr6 (by simp; omega) (fun k hk => by (have h9 : w2.heap.size = k := (by simpa [Value.ownBlock] using hk)); omega); rw [← pairsV_append] at hown6; obtain ⟨g6, c6, rfl, -, -⟩ := own_form hown6 (by omega))
            | (go_at_call_of 30 g6; refine (implBad_any _ (some ⟨g6, 0, none⟩) (1 + 1) c6 ([(0, 0)] ++ L) _ (by rw [List.length_append, HL.out]; rfl) (RdP.of_own hown6) (by omega)).mono ?_; rintro e w3 ⟨rfl, hb3⟩; have be3 := below_next be6 hb3))
          go_ret
          exact ⟨rfl, be3⟩
        · have hc5 : 1 < c4 := by omega
          have HT : Hid ((L.drop 1).length = j) := Lib.hid (by rw [List.length_drop, HL.out]; rfl)
          have B0 : ((j : Int) + 1 == 0) = false := by simp; omega
          have B1 : (1 : Int) ≤ (j : Int) + 1 := by omega
          have B2 : (1 : Int) < c4 := by omega
          go_wp2_with (first
            | (go_at_call_of 30 (some (⟨g, 2, none⟩ : Addr)); refine (implBad_any _ (some ⟨g, 2, none⟩) j (c4 - 1) (L.drop 1) _ HT.out (own_tail gi.own) (by omega)).mono ?_; rintro e w2 ⟨rfl, hb2⟩; have gi := gi.next hb2; have hsz := gi.be.size)
            | (at_builtin; (refine wpList_append_own_w _ (by rfl) (.tmp 40) (.tmp 41) 23 rfl w.heap.size 31 i0 _ 2 16 Tryd.underlying23 hi hz0 hz1 hz2 rfl (by decide) (.slice (some ⟨w2.heap.size, 0, none⟩) 1 1) 1 (pairsV [(0, 0)]) rfl (own_one (Newest.alloc_ rfl) hsz) ⟨g, 0, none⟩ (j + 1) c4 (pairsV L) rfl (by rw [pairsV_length, HL.out]) (own_cells (gi.own.alloc _)) pairsV_one (by unfold maxLen; omega) (by omega) (by simp; omega) ?_); intro v6 w6 hown6 hgr6 hv6; have be6 := Below.grown (gi.be.alloc hsz (.cells #[.int .i64 0, .int .i64 0] 31)) hgr6 (by simp; omega) (fun k hk => by (have h9 : w2.heap.size = k := (by simpa [Value.ownBlock] using hk)); omega); rw [← pairsV_append] at hown6; obtain ⟨g6, c6, rfl, -, -⟩ := own_form hown6 (by omega))
            | (go_at_call_of 30 g6; refine (implBad_any _ (some ⟨g6, 0, none⟩) (1 + (j + 1)) c6 ([(0, 0)] ++ L) _ (by rw [List.length_append, HL.out]; rfl) (RdP.of_own hown6) (by omega)).mono ?_; rintro e w3 ⟨rfl, hb3⟩; have be3 := below_next be6 hb3)
            | (go_at_call_of 30 c4; refine (implBad_any _ (some ⟨g, 0, none⟩) (j + 1) c4 L _ HL.out gi.rd (by omega)).mono ?_; rintro e w2 ⟨rfl, hb2⟩; have gi := gi.next hb2; have hsz := gi.be.size)
            | (go_at_call 31; refine (specBad_any _ (some ⟨g, 0, none⟩) (j + 1) c4 L _ HL.out gi.rd (by omega)).mono ?_; rintro e w2 ⟨rfl, hb2⟩; have gi := gi.next hb2; have hsz := gi.be.size))
          go_ret
          exact ⟨rfl, be3⟩
end Go.Proofs.YtcegmlogjbnoeaaDoor
