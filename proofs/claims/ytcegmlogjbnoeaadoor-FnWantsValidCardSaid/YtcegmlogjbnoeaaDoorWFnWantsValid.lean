/- The walk of the law FnWantsValid (written by genlaws.py). -/
import Derived.Test.YtcegmlogjbnoeaaDoorDrawBW
import Derived.Test.YtcegmlogjbnoeaaDoorRows2
import Derived.Test.YtcegmlogjbnoeaaDoorAlive
import Derived.Test.YtcegmlogjbnoeaaDoorCutWalk
import Derived.Test.YtcegmlogjbnoeaaDoorLenFn
import Derived.Test.YtcegmlogjbnoeaaDoorStrFn
namespace Go.Proofs.YtcegmlogjbnoeaaDoor
open Go.RowKit
set_option linter.unusedVariables false
theorem wantsOk_drop {L : List Int} {long : Int} (h : wantsOk L long = true) : wantsOk L.tail long = true := by
  cases L with
  | nil => exact h
  | cons x t => exact wantsOk_tail h
set_option maxRecDepth 100000 in
set_option maxHeartbeats 1000000 in
theorem walkFnWantsValid (w : World) (A : Option Addr) (n c : Nat) (xs : List Int) (hl : xs.length = n) (rd : RdI .u8 w w.heap.size A xs) (hc : n ≤ c) (hx : ∀ x ∈ xs, 0 ≤ x ∧ x ≤ 255) :
    Calls Tryd.prog 7 #[.slice A n c] w fun e w' => e = .returned (.bool true) ∧ Below w.heap.size w w' := by
  by_cases hs0 : 1048576 < (n : Int)
  · go_enter Tryd.func7, Tryd.ntmps7
    go_wp2
    go_ret
    exact ⟨rfl, Below.refl _ _⟩
  have hn : n ≤ 1048576 := by omega
  go_enter Tryd.func7, Tryd.ntmps7
  go_wp2_with (fail)
  refine (drawWantsValid_st hl hc rd hn hx).mono ?_
  rintro e w1 ⟨A4, m, c4, L, long, rfl, hL, hn9, l0, l1, hown, hb⟩
  clear rd hx hl hc
  have gi : GI w w1 A4 L := ⟨hb, RdI.of_own hown⟩
  have HL := Lib.hid hL
  have hE := wantsOk_over long
  have hs1 := hb.size
  have W1 : IntKind.i64.wrap (long + 1) = long + 1 := IntWalk.i64_in _ (by omega)
  have ro := RdI.of_own (own_new1 w.heap.size 3 (long + 1) w1 hs1)
  have BE := below_next (hb.alloc hs1 (.cells #[.int .i64 (long + 1)] 3)) (Below.refl _ _)
  rcases hown.2 with ⟨hv, h0⟩ | ⟨g, cap, cur, hv, _⟩
  · injection hv with hA _ hC
    subst hA h0 hC
    obtain rfl : L = [] := List.eq_nil_of_length_eq_zero hL
    clear hown hL
    cases hv : wantsOk [] long
    · go_wp2_with (first
        | (go_at_call_of 33 (Value.slice none 0 0); refine (implWants_any none 0 0 [] long _ rfl RdI.nil (by omega)).mono ?_; rintro e w9 ⟨rfl, rfl⟩)
        | (go_at_call 34; refine (specWants_any none 0 0 [] long _ rfl RdI.nil (by omega)).mono ?_; rintro e w9 ⟨rfl, rfl⟩)
        | (go_at_call_of 33 (Value.slice (some ⟨w1.heap.size, 0, none⟩) 1 1); refine (implWants_any _ 1 1 [long + 1] long _ rfl ro (by omega)).mono ?_; rintro e w9 ⟨rfl, rfl⟩)
        | (go_at_call 21; refine (alive_any _).mono ?_; rintro e w2 ⟨rfl, hb2⟩))
      go_ret
      exact ⟨rfl, below_next BE hb2⟩
    · go_wp2_with (first
        | (go_at_call_of 33 (Value.slice none 0 0); refine (implWants_any none 0 0 [] long _ rfl RdI.nil (by omega)).mono ?_; rintro e w9 ⟨rfl, rfl⟩)
        | (go_at_call 34; refine (specWants_any none 0 0 [] long _ rfl RdI.nil (by omega)).mono ?_; rintro e w9 ⟨rfl, rfl⟩)
        | (go_at_call_of 33 (Value.slice (some ⟨w1.heap.size, 0, none⟩) 1 1); refine (implWants_any _ 1 1 [long + 1] long _ rfl ro (by omega)).mono ?_; rintro e w9 ⟨rfl, rfl⟩)
        | (go_at_call 21; refine (alive_any _).mono ?_; rintro e w2 ⟨rfl, hb2⟩))
      go_ret
      exact ⟨rfl, below_next BE hb2⟩
  · injection hv with hA _ hC
    subst hA
    have hcap := own_cap hown
    have rt := own_tail1 hown
    clear hown hb hC hL
    cases hv : wantsOk L long
    · go_wp2_with (first
        | (go_at_call_of 33 (Value.slice (some ⟨g, 0, none⟩) m c4); refine (implWants_any _ _ _ L long _ HL.out gi.rd (by omega)).mono ?_; rintro e w9 ⟨rfl, rfl⟩)
        | (go_at_call 34; refine (specWants_any _ _ _ L long _ HL.out gi.rd (by omega)).mono ?_; rintro e w9 ⟨rfl, rfl⟩)
        | (go_at_call_of 33 (Value.slice (some ⟨w1.heap.size, 0, none⟩) 1 1); refine (implWants_any _ 1 1 [long + 1] long _ rfl ro (by omega)).mono ?_; rintro e w9 ⟨rfl, rfl⟩)
        | (go_at_call 21; refine (alive_any _).mono ?_; rintro e w2 ⟨rfl, hb2⟩))
      go_ret
      exact ⟨rfl, below_next BE hb2⟩
    · have hT := wantsOk_drop hv
      by_cases hm0 : m = 0
      · have B0 : ((m : Int) == 0) = true := by simp [hm0]
        clear hm0
        go_wp2_with (first
          | (go_at_call_of 33 (Value.slice (some ⟨g, 0, none⟩) m c4); refine (implWants_any _ _ _ L long _ HL.out gi.rd (by omega)).mono ?_; rintro e w9 ⟨rfl, rfl⟩)
          | (go_at_call 34; refine (specWants_any _ _ _ L long _ HL.out gi.rd (by omega)).mono ?_; rintro e w9 ⟨rfl, rfl⟩)
          | (go_at_call_of 33 (Value.slice (some ⟨w1.heap.size, 0, none⟩) 1 1); refine (implWants_any _ 1 1 [long + 1] long _ rfl ro (by omega)).mono ?_; rintro e w9 ⟨rfl, rfl⟩)
          | (go_at_call 21; refine (alive_any _).mono ?_; rintro e w2 ⟨rfl, hb2⟩))
        go_ret
        exact ⟨rfl, below_next BE hb2⟩
      · obtain ⟨j, rfl⟩ : ∃ j, m = j + 1 := ⟨m - 1, by omega⟩
        by_cases hc4 : c4 = 1
        · subst hc4
          obtain rfl : j = 0 := by omega
          have hT0 : wantsOk [] long = true := by
            have : L.tail = [] := by have := HL.out; cases L with
              | nil => rfl
              | cons x t => cases t with
                | nil => rfl
                | cons y s => simp at this
            rw [this] at hT; exact hT
          go_wp2_with (first
            | (go_at_call_of 33 (Value.slice (some ⟨g, 0, none⟩) 0 0); refine (implWants_any (some ⟨g, 0, none⟩) 0 0 [] long _ rfl RdI.nil (by omega)).mono ?_; rintro e w9 ⟨rfl, rfl⟩)
            | (go_at_call_of 33 (Value.slice (some ⟨g, 0, none⟩) 1 1); refine (implWants_any _ _ _ L long _ HL.out gi.rd (by omega)).mono ?_; rintro e w9 ⟨rfl, rfl⟩)
            | (go_at_call 34; refine (specWants_any _ _ _ L long _ HL.out gi.rd (by omega)).mono ?_; rintro e w9 ⟨rfl, rfl⟩)
            | (go_at_call_of 33 (Value.slice (some ⟨w1.heap.size, 0, none⟩) 1 1); refine (implWants_any _ 1 1 [long + 1] long _ rfl ro (by omega)).mono ?_; rintro e w9 ⟨rfl, rfl⟩)
            | (go_at_call 21; refine (alive_any _).mono ?_; rintro e w2 ⟨rfl, hb2⟩))
          go_ret
          exact ⟨rfl, below_next BE hb2⟩
        · have hc5 : 1 < c4 := by omega
          have HT : Hid ((L.drop 1).length = j) := Lib.hid (by rw [List.length_drop, HL.out]; rfl)
          have B0 : ((j : Int) + 1 == 0) = false := by simp; omega
          have B1 : (1 : Int) ≤ (j : Int) + 1 := by omega
          have B2 : (1 : Int) < c4 := by omega
          go_wp2_with (first
            | (go_at_call_of 33 (some (⟨g, 1, none⟩ : Addr)); refine (implWants_any (some ⟨g, 1, none⟩) j (c4 - 1) (L.drop 1) long _ HT.out rt (by omega)).mono ?_; rintro e w9 ⟨rfl, rfl⟩)
            | (go_at_call_of 33 (Value.slice (some ⟨w1.heap.size, 0, none⟩) 1 1); refine (implWants_any _ 1 1 [long + 1] long _ rfl ro (by omega)).mono ?_; rintro e w9 ⟨rfl, rfl⟩)
            | (go_at_call_of 33 c4; refine (implWants_any _ _ _ L long _ HL.out gi.rd (by omega)).mono ?_; rintro e w9 ⟨rfl, rfl⟩)
            | (go_at_call 34; refine (specWants_any _ _ _ L long _ HL.out gi.rd (by omega)).mono ?_; rintro e w9 ⟨rfl, rfl⟩)
            | (go_at_call 21; refine (alive_any _).mono ?_; rintro e w2 ⟨rfl, hb2⟩))
          go_ret
          exact ⟨rfl, below_next BE hb2⟩
end Go.Proofs.YtcegmlogjbnoeaaDoor
