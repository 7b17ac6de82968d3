/- The walk of the law FnChargesValid. -/
import Derived.Test.YtiddlpgpbafdmaaDoorDrawC2
import Derived.Test.YtiddlpgpbafdmaaDoorAlive
import Derived.Test.YtiddlpgpbafdmaaDoorFurnWalk
import Derived.Test.YtiddlpgpbafdmaaDoorAppW
namespace Go.Proofs.YtiddlpgpbafdmaaDoor
open Go.RowKit
set_option linter.unusedVariables false
def DrawnCh (w : World) (e : Ending) (w' : World) : Prop := ∃ (A : Option Addr) (n c : Nat) (L : List (Int × Int)), e = .returned (.slice A n c) ∧ L.length = n ∧ n ≤ 9 ∧ w'.ownsRow w.heap.size 39 2 (.slice A n c) n (pairsV L) ∧ Below w.heap.size w w'
set_option maxHeartbeats 1000000 in
theorem drawCharges_st {w : World} {A : Option Addr} {n c : Nat} {xs : List Int} (hl : xs.length = n) (hc : n ≤ c) (rd : RdI .u8 w w.heap.size A xs) (hn : n ≤ 1048576) (hx : ∀ x ∈ xs, 0 ≤ x ∧ x ≤ 255) :
    Calls Tryd.prog 25 #[.slice A n c] w (DrawnCh w) := by
  go_enter Tryd.func25, Tryd.ntmps25
  go_wp2_with (fail)
  refine (open_st hl hc rd hn hx).mono ?_
  rintro e w1 ⟨rfl, st1, hz1⟩
  go_wp2_with (fail)
  refine (charges_st st1 (by omega) (by omega) (by omega) (by omega) (by omega)).mono ?_
  rintro e w3 ⟨A4, n4, c4, L, rfl, hL, hn9, cs⟩
  go_wp2
  go_ret
  exact ⟨A4, n4, c4, L, rfl, hL, hn9, own_lower cs.own (by omega), cs.st.below (Nat.le_refl _) (Nat.le_refl _)⟩
theorem chargesOk_again (L : List (Int × Int)) : chargesOk (L ++ [(0, 0)]) = false :=
  chargesOk_bad (k := L.length) (q := (0, 0)) (by simp) (by decide)
theorem chargesOk_drop {L : List (Int × Int)} (h : chargesOk L = true) : chargesOk (L.drop 1) = true := by
  cases L with
  | nil => exact h
  | cons q r =>
    simp only [chargesOk, Bool.and_eq_true, decide_eq_true_eq, List.length_cons, List.all_cons] at h
    exact chargesOk_mk (by simp; omega) (by simpa using h.2.2)
set_option maxRecDepth 100000 in
set_option maxHeartbeats 1000000 in
theorem walkFnChargesValid (w : World) (A : Option Addr) (n c : Nat) (xs : List Int) (hl : xs.length = n) (rd : RdI .u8 w w.heap.size A xs) (hc : n ≤ c) (hx : ∀ x ∈ xs, 0 ≤ x ∧ x ≤ 255) :
    Calls Tryd.prog 6 #[.slice A n c] w fun e w' => e = .returned (.bool true) ∧ Below w.heap.size w w' := by
  by_cases hs0 : 1048576 < (n : Int)
  · go_enter Tryd.func6, Tryd.ntmps6
    go_wp2
    go_ret
    exact ⟨rfl, Below.refl _ _⟩
  have hn : n ≤ 1048576 := by omega
  obtain ⟨i0, hi, hz0, hz1, hz2⟩ := info_parts info_Charge
  go_enter Tryd.func6, Tryd.ntmps6
  go_wp2_with (fail)
  refine (drawCharges_st hl hc rd hn hx).mono ?_
  rintro e w2 ⟨A4, m, c4, L, rfl, hL, hn9, hown, hb⟩
  clear rd hx hl hc
  have hE := chargesOk_again L
  have hN : chargesOk [] = true := rfl
  have HL := Lib.hid hL
  have gi : PO w w2 39 (.slice A4 m c4) m L := ⟨hb, hown⟩
  have hsz := hb.size
  rcases hown.2 with ⟨hv, h0⟩ | ⟨g, cap, cur, hv, _⟩
  · injection hv with hA _ hC
    subst hA h0 hC
    obtain rfl : L = [] := List.eq_nil_of_length_eq_zero hL
    clear hown gi hL
    have be2 := hb
    have hE : chargesOk [(0, 0)] = false := by decide
    go_wp2_with (first
        | (go_at_call_of 26 (Value.slice none 0 0); refine (implCharges_any none 0 0 [] _ rfl RdP.nil (by omega)).mono ?_; rintro e w2 ⟨rfl, hb7⟩; have be2 := below_next (by assumption) hb7; have hsz := be2.size)
        | (go_at_call 27; refine (specCharges_any none 0 0 [] _ rfl RdP.nil (by omega)).mono ?_; rintro e w9 ⟨rfl, rfl⟩)
        | (at_builtin; (refine wpList_append_own_w _ (by rfl) (.tmp 31) (.tmp 33) 35 rfl w.heap.size 39 i0 _ 2 16 Tryd.underlying35 hi hz0 hz1 hz2 rfl (by decide) (.slice (some ⟨w2.heap.size, 0, none⟩) 0 0) 0 [] rfl ((own_made0 hsz _ _).alloc _) ⟨w2.heap.size + 1, 0, none⟩ 1 1 (pairsV [(0, 0)]) rfl rfl (cells_one2 (Newest.alloc_ (by simp))) pairsV_one (by unfold maxLen; omega) (by omega) (by simp; omega) ?_); intro v6 w6 hown6 hgr6 hv6; simp only [Nat.zero_add, List.nil_append] at hown6; have be6 := Below.grown ((be2.alloc hsz (.cells #[] 39)).alloc (by simp; omega) (.cells #[.int .i64 0, .int .i64 0] 39)) hgr6 (by simp; omega) (fun k hk => by (have := own_ge (own_made0 hsz 39 2) hk); omega); obtain ⟨g6, c6, rfl, -, -⟩ := own_form hown6 (by omega))
        | (go_at_call_of 26 g6; refine (implCharges_any (some ⟨g6, 0, none⟩) 1 c6 [(0, 0)] _ rfl (RdP.of_own hown6) (by omega)).mono ?_; rintro e w2 ⟨rfl, hb7⟩; have be2 := below_next be6 hb7; have hsz := be2.size)
        | (go_at_call 18; refine (alive_any _).mono ?_; rintro e w2 ⟨rfl, hb7⟩; have be2 := below_next be2 hb7; have hsz := be2.size))
    go_ret
    exact ⟨rfl, be2⟩
  · injection hv with hA _ hC
    subst hA
    have hcap := own_cap hown
    clear hown hb hC hL
    cases hv : chargesOk L
    · go_wp2_with (first
        | (go_at_call_of 26 (Value.slice (some ⟨g, 0, none⟩) m c4); refine (implCharges_any (some ⟨g, 0, none⟩) m c4 L _ HL.out gi.rd (by omega)).mono ?_; rintro e w2 ⟨rfl, hb2⟩; have gi := gi.next hb2; have hsz := gi.be.size)
        | (go_at_call 27; refine (specCharges_any (some ⟨g, 0, none⟩) m c4 L _ HL.out gi.rd (by omega)).mono ?_; rintro e w9 ⟨rfl, rfl⟩)
        | (at_builtin; (refine wpList_append_own_w _ (by rfl) (.tmp 31) (.tmp 33) 35 rfl w.heap.size 39 i0 _ 2 16 Tryd.underlying35 hi hz0 hz1 hz2 rfl (by decide) v5 m (pairsV L) rfl (hown5.alloc _) ⟨w5.heap.size, 0, none⟩ 1 1 (pairsV [(0, 0)]) rfl rfl (cells_one2 (Newest.alloc_ rfl)) pairsV_one (by unfold maxLen; omega) (by omega) (by simp at hs5; simp; omega) ?_); intro v6 w6 hown6 hgr6 hv6; have be6 := Below.grown (be5.alloc (by simp at hs5; omega) (.cells #[.int .i64 0, .int .i64 0] 39)) hgr6 (by simp at hs5; simp; omega) (fun k hk => own_ge hown5 hk); obtain ⟨g6, c6, rfl, -, -⟩ := own_form hown6 (by omega); have hown7 : w6.ownsRow w.heap.size 39 2 (.slice (some ⟨g6, 0, none⟩) (m + 1) c6) (m + 1) (pairsV (L ++ [(0, 0)])) := by simpa [pairsV_append] using hown6)
        | (at_builtin; (refine wpList_append_own_w _ (by rfl) (.tmp 29) (.tmp 30) 35 rfl w.heap.size 39 i0 _ 2 16 Tryd.underlying35 hi hz0 hz1 hz2 rfl (by decide) (.slice (some ⟨w2.heap.size, 0, none⟩) 0 0) 0 [] rfl (own_made0 hsz _ _) ⟨g, 0, none⟩ m c4 (pairsV L) rfl (by rw [pairsV_length, HL.out]) (own_cells (gi.own.alloc _)) pairsV_one (by unfold maxLen; omega) (by omega) (by simp; omega) ?_); intro v5 w5 hown5 hgr5 hv5; simp only [Nat.zero_add, List.nil_append] at hown5; have hs5 := hgr5.size; have be5 := Below.grown (gi.be.alloc hsz (.cells #[] 39)) hgr5 (by simp; omega) (fun k hk => by (have := own_ge (own_made0 hsz 39 2) hk); omega))
        | (go_at_call_of 26 g6; refine (implCharges_any (some ⟨g6, 0, none⟩) (m + 1) c6 (L ++ [(0, 0)]) _ (by rw [List.length_append, HL.out]; rfl) (RdP.of_own hown7) (by omega)).mono ?_; rintro e w7 ⟨rfl, hb7⟩; have be7 := below_next be6 hb7)
        | (go_at_call_of 26 (Value.slice none 0 0); refine (implCharges_any none 0 0 [] _ rfl RdP.nil (by omega)).mono ?_; rintro e w7 ⟨rfl, hb7⟩; have be7 := below_next (by assumption) hb7)
        | (go_at_call 18; refine (alive_any _).mono ?_; rintro e w7 ⟨rfl, hb7⟩; have be7 := below_next (by assumption) hb7))
      go_ret
      exact ⟨rfl, be7⟩
    · have hT : chargesOk L.tail = true := by rw [← List.drop_one]; exact chargesOk_drop hv
      by_cases hm0 : m = 0
      · have B0 : ((m : Int) == 0) = true := by simp [hm0]
        have hm9 : 0 + m = m := by omega
        clear hm0
        go_wp2_with (first
        | (go_at_call_of 26 (Value.slice (some ⟨g, 0, none⟩) m c4); refine (implCharges_any (some ⟨g, 0, none⟩) m c4 L _ HL.out gi.rd (by omega)).mono ?_; rintro e w2 ⟨rfl, hb2⟩; have gi := gi.next hb2; have hsz := gi.be.size)
        | (go_at_call 27; refine (specCharges_any (some ⟨g, 0, none⟩) m c4 L _ HL.out gi.rd (by omega)).mono ?_; rintro e w9 ⟨rfl, rfl⟩)
        | (at_builtin; (refine wpList_append_own_w _ (by rfl) (.tmp 31) (.tmp 33) 35 rfl w.heap.size 39 i0 _ 2 16 Tryd.underlying35 hi hz0 hz1 hz2 rfl (by decide) v5 m (pairsV L) rfl (hown5.alloc _) ⟨w5.heap.size, 0, none⟩ 1 1 (pairsV [(0, 0)]) rfl rfl (cells_one2 (Newest.alloc_ rfl)) pairsV_one (by unfold maxLen; omega) (by omega) (by simp at hs5; simp; omega) ?_); intro v6 w6 hown6 hgr6 hv6; have be6 := Below.grown (be5.alloc (by simp at hs5; omega) (.cells #[.int .i64 0, .int .i64 0] 39)) hgr6 (by simp at hs5; simp; omega) (fun k hk => own_ge hown5 hk); obtain ⟨g6, c6, rfl, -, -⟩ := own_form hown6 (by omega); have hown7 : w6.ownsRow w.heap.size 39 2 (.slice (some ⟨g6, 0, none⟩) (m + 1) c6) (m + 1) (pairsV (L ++ [(0, 0)])) := by simpa [pairsV_append] using hown6)
        | (at_builtin; (refine wpList_append_own_w _ (by rfl) (.tmp 29) (.tmp 30) 35 rfl w.heap.size 39 i0 _ 2 16 Tryd.underlying35 hi hz0 hz1 hz2 rfl (by decide) (.slice (some ⟨w2.heap.size, 0, none⟩) 0 0) 0 [] rfl (own_made0 hsz _ _) ⟨g, 0, none⟩ m c4 (pairsV L) rfl (by rw [pairsV_length, HL.out]) (own_cells (gi.own.alloc _)) pairsV_one (by unfold maxLen; omega) (by omega) (by simp; omega) ?_); intro v5 w5 hown5 hgr5 hv5; simp only [Nat.zero_add, List.nil_append] at hown5; have hs5 := hgr5.size; have be5 := Below.grown (gi.be.alloc hsz (.cells #[] 39)) hgr5 (by simp; omega) (fun k hk => by (have := own_ge (own_made0 hsz 39 2) hk); omega))
        | (go_at_call_of 26 g6; refine (implCharges_any (some ⟨g6, 0, none⟩) (m + 1) c6 (L ++ [(0, 0)]) _ (by rw [List.length_append, HL.out]; rfl) (RdP.of_own hown7) (by omega)).mono ?_; rintro e w7 ⟨rfl, hb7⟩; have be7 := below_next be6 hb7)
        | (go_at_call_of 26 (Value.slice none 0 0); refine (implCharges_any none 0 0 [] _ rfl RdP.nil (by omega)).mono ?_; rintro e w7 ⟨rfl, hb7⟩; have be7 := below_next (by assumption) hb7)
        | (go_at_call 18; refine (alive_any _).mono ?_; rintro e w7 ⟨rfl, hb7⟩; have be7 := below_next (by assumption) hb7))
        go_ret
        exact ⟨rfl, be7⟩
      · obtain ⟨j, rfl⟩ : ∃ j, m = j + 1 := ⟨m - 1, by omega⟩
        by_cases hc4 : c4 = 1
        · subst hc4
          obtain rfl : j = 0 := by omega
          go_wp2_with (first
        | (go_at_call_of 26 (Value.slice (some ⟨g, 0, none⟩) 1 1); refine (implCharges_any (some ⟨g, 0, none⟩) 1 1 L _ HL.out gi.rd (by omega)).mono ?_; rintro e w2 ⟨rfl, hb2⟩; have gi := gi.next hb2; have hsz := gi.be.size)
        | (go_at_call 27; refine (specCharges_any (some ⟨g, 0, none⟩) 1 1 L _ HL.out gi.rd (by omega)).mono ?_; rintro e w9 ⟨rfl, rfl⟩)
        | (go_at_call_of 26 (Value.slice (some ⟨g, 0, none⟩) 0 0); refine (implCharges_any (some ⟨g, 0, none⟩) 0 0 [] _ rfl RdP.nil (by omega)).mono ?_; rintro e w2 ⟨rfl, hb2⟩; have gi := gi.next hb2; have hsz := gi.be.size)
        | (at_builtin; (refine wpList_append_own_w _ (by rfl) (.tmp 31) (.tmp 33) 35 rfl w.heap.size 39 i0 _ 2 16 Tryd.underlying35 hi hz0 hz1 hz2 rfl (by decide) v5 1 (pairsV L) rfl (hown5.alloc _) ⟨w5.heap.size, 0, none⟩ 1 1 (pairsV [(0, 0)]) rfl rfl (cells_one2 (Newest.alloc_ rfl)) pairsV_one (by unfold maxLen; omega) (by omega) (by simp at hs5; simp; omega) ?_); intro v6 w6 hown6 hgr6 hv6; have be6 := Below.grown (be5.alloc (by simp at hs5; omega) (.cells #[.int .i64 0, .int .i64 0] 39)) hgr6 (by simp at hs5; simp; omega) (fun k hk => own_ge hown5 hk); obtain ⟨g6, c6, rfl, -, -⟩ := own_form hown6 (by omega); have hown7 : w6.ownsRow w.heap.size 39 2 (.slice (some ⟨g6, 0, none⟩) (1 + 1) c6) (1 + 1) (pairsV (L ++ [(0, 0)])) := by simpa [pairsV_append] using hown6)
        | (at_builtin; (refine wpList_append_own_w _ (by rfl) (.tmp 29) (.tmp 30) 35 rfl w.heap.size 39 i0 _ 2 16 Tryd.underlying35 hi hz0 hz1 hz2 rfl (by decide) (.slice (some ⟨w2.heap.size, 0, none⟩) 0 0) 0 [] rfl (own_made0 hsz _ _) ⟨g, 0, none⟩ 1 1 (pairsV L) rfl (by rw [pairsV_length, HL.out]) (own_cells (gi.own.alloc _)) pairsV_one (by unfold maxLen; omega) (by omega) (by simp; omega) ?_); intro v5 w5 hown5 hgr5 hv5; simp only [Nat.zero_add, List.nil_append] at hown5; have hs5 := hgr5.size; have be5 := Below.grown (gi.be.alloc hsz (.cells #[] 39)) hgr5 (by simp; omega) (fun k hk => by (have := own_ge (own_made0 hsz 39 2) hk); omega))
        | (go_at_call_of 26 g6; refine (implCharges_any (some ⟨g6, 0, none⟩) (1 + 1) c6 (L ++ [(0, 0)]) _ (by rw [List.length_append, HL.out]; rfl) (RdP.of_own hown7) (by omega)).mono ?_; rintro e w7 ⟨rfl, hb7⟩; have be7 := below_next be6 hb7)
        | (go_at_call_of 26 (Value.slice none 0 0); refine (implCharges_any none 0 0 [] _ rfl RdP.nil (by omega)).mono ?_; rintro e w7 ⟨rfl, hb7⟩; have be7 := below_next (by assumption) hb7)
        | (go_at_call 18; refine (alive_any _).mono ?_; rintro e w7 ⟨rfl, hb7⟩; have be7 := below_next (by assumption) hb7))
          go_ret
          exact ⟨rfl, be7⟩
        · have hc5 : 1 < c4 := by omega
          have HT : Hid ((L.drop 1).length = j) := Lib.hid (by rw [List.length_drop, HL.out]; rfl)
          have B0 : ((j : Int) + 1 == 0) = false := by simp; omega
          have B1 : (1 : Int) ≤ (j : Int) + 1 := by omega
          have B2 : (1 : Int) < c4 := by omega
          go_wp2_with (first
        | (go_at_call_of 26 (some (⟨g, 2, none⟩ : Addr)); refine (implCharges_any (some ⟨g, 2, none⟩) j (c4 - 1) (L.drop 1) _ HT.out (own_tail gi.own) (by omega)).mono ?_; rintro e w2 ⟨rfl, hb2⟩; have gi := gi.next hb2; have hsz := gi.be.size)
        | (go_at_call_of 26 c4; refine (implCharges_any (some ⟨g, 0, none⟩) (j + 1) c4 L _ HL.out gi.rd (by omega)).mono ?_; rintro e w2 ⟨rfl, hb2⟩; have gi := gi.next hb2; have hsz := gi.be.size)
        | (go_at_call 27; refine (specCharges_any (some ⟨g, 0, none⟩) (j + 1) c4 L _ HL.out gi.rd (by omega)).mono ?_; rintro e w9 ⟨rfl, rfl⟩)
        | (at_builtin; (refine wpList_append_own_w _ (by rfl) (.tmp 31) (.tmp 33) 35 rfl w.heap.size 39 i0 _ 2 16 Tryd.underlying35 hi hz0 hz1 hz2 rfl (by decide) v5 (j + 1) (pairsV L) rfl (hown5.alloc _) ⟨w5.heap.size, 0, none⟩ 1 1 (pairsV [(0, 0)]) rfl rfl (cells_one2 (Newest.alloc_ rfl)) pairsV_one (by unfold maxLen; omega) (by omega) (by simp at hs5; simp; omega) ?_); intro v6 w6 hown6 hgr6 hv6; have be6 := Below.grown (be5.alloc (by simp at hs5; omega) (.cells #[.int .i64 0, .int .i64 0] 39)) hgr6 (by simp at hs5; simp; omega) (fun k hk => own_ge hown5 hk); obtain ⟨g6, c6, rfl, -, -⟩ := own_form hown6 (by omega); have hown7 : w6.ownsRow w.heap.size 39 2 (.slice (some ⟨g6, 0, none⟩) ((j + 1) + 1) c6) ((j + 1) + 1) (pairsV (L ++ [(0, 0)])) := by simpa [pairsV_append] using hown6)
        | (at_builtin; (refine wpList_append_own_w _ (by rfl) (.tmp 29) (.tmp 30) 35 rfl w.heap.size 39 i0 _ 2 16 Tryd.underlying35 hi hz0 hz1 hz2 rfl (by decide) (.slice (some ⟨w2.heap.size, 0, none⟩) 0 0) 0 [] rfl (own_made0 hsz _ _) ⟨g, 0, none⟩ (j + 1) c4 (pairsV L) rfl (by rw [pairsV_length, HL.out]) (own_cells (gi.own.alloc _)) pairsV_one (by unfold maxLen; omega) (by omega) (by simp; omega) ?_); intro v5 w5 hown5 hgr5 hv5; simp only [Nat.zero_add, List.nil_append] at hown5; have hs5 := hgr5.size; have be5 := Below.grown (gi.be.alloc hsz (.cells #[] 39)) hgr5 (by simp; omega) (fun k hk => by (have := own_ge (own_made0 hsz 39 2) hk); omega))
        | (go_at_call_of 26 g6; refine (implCharges_any (some ⟨g6, 0, none⟩) ((j + 1) + 1) c6 (L ++ [(0, 0)]) _ (by rw [List.length_append, HL.out]; rfl) (RdP.of_own hown7) (by omega)).mono ?_; rintro e w7 ⟨rfl, hb7⟩; have be7 := below_next be6 hb7)
        | (go_at_call_of 26 (Value.slice none 0 0); refine (implCharges_any none 0 0 [] _ rfl RdP.nil (by omega)).mono ?_; rintro e w7 ⟨rfl, hb7⟩; have be7 := below_next (by assumption) hb7)
        | (go_at_call 18; refine (alive_any _).mono ?_; rintro e w7 ⟨rfl, hb7⟩; have be7 := below_next (by assumption) hb7))
          go_ret
          exact ⟨rfl, be7⟩
end Go.Proofs.YtiddlpgpbafdmaaDoor
