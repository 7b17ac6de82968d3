/- The walks of the laws on the furnace's heat that say more than 'the same as the reference'. -/
import Derived.Test.YtiddlpgpbafdmaaDoorRdr
import Derived.Test.YtiddlpgpbafdmaaDoorAlive
import Derived.Test.YtiddlpgpbafdmaaDoorHeat
import Derived.Test.YtiddlpgpbafdmaaDoorHeatFn
namespace Go.Proofs.YtiddlpgpbafdmaaDoor
open Go.RowKit
set_option linter.unusedVariables false
set_option maxHeartbeats 4000000 in
theorem walkFnHeatStep (w : World) (A : Option Addr) (n c : Nat) (xs : List Int) (hl : xs.length = n) (rd : RdI .u8 w w.heap.size A xs) (hc : n ≤ c) (hx : ∀ x ∈ xs, 0 ≤ x ∧ x ≤ 255) :
    Calls Tryd.prog 4 #[.slice A n c] w fun e w' => e = .returned (.bool true) ∧ Below w.heap.size w w' := by
  by_cases hs0 : 1048576 < (n : Int)
  · go_enter Tryd.func4, Tryd.ntmps4
    go_wp2
    go_ret
    exact ⟨rfl, Below.refl _ _⟩
  have hn : n ≤ 1048576 := by omega
  go_enter Tryd.func4, Tryd.ntmps4
  go_wp2_with (fail)
  refine (drawStep_st hl hc rd hn hx).mono ?_
  rintro e w1 ⟨h, f, p, rfl, hb⟩
  clear rd hx
  by_cases hneg : heatStep h f p < 0
  · obtain ⟨hv, hm⟩ := heatStep_bad hneg
    go_wp2_with (first
      | (go_at_call 20; refine (implStep_any _ _ _ _).mono ?_; rintro e w' ⟨rfl, rfl⟩)
      | (go_at_call 21; refine (specStep_any _ _ _ _).mono ?_; rintro e w' ⟨rfl, rfl⟩)
      | (go_at_call 23; refine (implAfter_any _ _ _ _ _).mono ?_; rintro e w' ⟨rfl, rfl⟩)
      | (go_at_call 24; refine (specAfter_any _ _ _ _ _).mono ?_; rintro e w' ⟨rfl, rfl⟩)
      | (go_at_call 29; refine (implMinutes_any _ _ _ _ _).mono ?_; rintro e w' ⟨rfl, rfl⟩)
      | (go_at_call 30; refine (specMinutes_any _ _ _ _ _).mono ?_; rintro e w' ⟨rfl, rfl⟩)
      | (go_at_call 32; refine (implLeast_any _ _ _ _ _).mono ?_; rintro e w' ⟨rfl, rfl⟩)
      | (go_at_call 33; refine (specLeast_any _ _ _ _ _).mono ?_; rintro e w' ⟨rfl, rfl⟩)
      | (go_at_call 18; refine (alive_any _).mono ?_; rintro e w2 ⟨rfl, hb2⟩))
    all_goals (go_ret; first | exact ⟨rfl, hb⟩ | exact ⟨rfl, hb.trans (hb2.mono hb.size)⟩)
  · obtain ⟨hv, l1, l2, l3, l4, l5, l6, l7⟩ := heatStep_law (by omega : 0 ≤ heatStep h f p)
    by_cases e : h = f
    · subst e
      go_wp2_with (first
      | (go_at_call 20; refine (implStep_any _ _ _ _).mono ?_; rintro e w' ⟨rfl, rfl⟩)
      | (go_at_call 21; refine (specStep_any _ _ _ _).mono ?_; rintro e w' ⟨rfl, rfl⟩)
      | (go_at_call 23; refine (implAfter_any _ _ _ _ _).mono ?_; rintro e w' ⟨rfl, rfl⟩)
      | (go_at_call 24; refine (specAfter_any _ _ _ _ _).mono ?_; rintro e w' ⟨rfl, rfl⟩)
      | (go_at_call 29; refine (implMinutes_any _ _ _ _ _).mono ?_; rintro e w' ⟨rfl, rfl⟩)
      | (go_at_call 30; refine (specMinutes_any _ _ _ _ _).mono ?_; rintro e w' ⟨rfl, rfl⟩)
      | (go_at_call 32; refine (implLeast_any _ _ _ _ _).mono ?_; rintro e w' ⟨rfl, rfl⟩)
      | (go_at_call 33; refine (specLeast_any _ _ _ _ _).mono ?_; rintro e w' ⟨rfl, rfl⟩)
      | (go_at_call 18; refine (alive_any _).mono ?_; rintro e w2 ⟨rfl, hb2⟩))
      all_goals (go_ret; first | exact ⟨rfl, hb⟩ | exact ⟨rfl, hb.trans (hb2.mono hb.size)⟩)
    · have m2 : h < heatStep h f p := by omega
      have m3 : heatStep h f p ≤ heatStep (h + 1) f p := by omega
      clear l2 l3
      go_wp2_with (first
      | (go_at_call 20; refine (implStep_any _ _ _ _).mono ?_; rintro e w' ⟨rfl, rfl⟩)
      | (go_at_call 21; refine (specStep_any _ _ _ _).mono ?_; rintro e w' ⟨rfl, rfl⟩)
      | (go_at_call 23; refine (implAfter_any _ _ _ _ _).mono ?_; rintro e w' ⟨rfl, rfl⟩)
      | (go_at_call 24; refine (specAfter_any _ _ _ _ _).mono ?_; rintro e w' ⟨rfl, rfl⟩)
      | (go_at_call 29; refine (implMinutes_any _ _ _ _ _).mono ?_; rintro e w' ⟨rfl, rfl⟩)
      | (go_at_call 30; refine (specMinutes_any _ _ _ _ _).mono ?_; rintro e w' ⟨rfl, rfl⟩)
      | (go_at_call 32; refine (implLeast_any _ _ _ _ _).mono ?_; rintro e w' ⟨rfl, rfl⟩)
      | (go_at_call 33; refine (specLeast_any _ _ _ _ _).mono ?_; rintro e w' ⟨rfl, rfl⟩)
      | (go_at_call 18; refine (alive_any _).mono ?_; rintro e w2 ⟨rfl, hb2⟩))
      all_goals (go_ret; first | exact ⟨rfl, hb⟩ | exact ⟨rfl, hb.trans (hb2.mono hb.size)⟩)
set_option maxHeartbeats 4000000 in
theorem walkFnHeatAfter (w : World) (A : Option Addr) (n c : Nat) (xs : List Int) (hl : xs.length = n) (rd : RdI .u8 w w.heap.size A xs) (hc : n ≤ c) (hx : ∀ x ∈ xs, 0 ≤ x ∧ x ≤ 255) :
    Calls Tryd.prog 5 #[.slice A n c] w fun e w' => e = .returned (.bool true) ∧ Below w.heap.size w w' := by
  by_cases hs0 : 1048576 < (n : Int)
  · go_enter Tryd.func5, Tryd.ntmps5
    go_wp2
    go_ret
    exact ⟨rfl, Below.refl _ _⟩
  have hn : n ≤ 1048576 := by omega
  go_enter Tryd.func5, Tryd.ntmps5
  go_wp2_with (fail)
  refine (drawAfter_st hl hc rd hn hx).mono ?_
  rintro e w1 ⟨h, f, p, m, rfl, hb⟩
  clear rd hx
  by_cases hneg : heatAfter h f p m < 0
  · have hm := heatAfter_bad hneg
    go_wp2_with (first
      | (go_at_call 20; refine (implStep_any _ _ _ _).mono ?_; rintro e w' ⟨rfl, rfl⟩)
      | (go_at_call 21; refine (specStep_any _ _ _ _).mono ?_; rintro e w' ⟨rfl, rfl⟩)
      | (go_at_call 23; refine (implAfter_any _ _ _ _ _).mono ?_; rintro e w' ⟨rfl, rfl⟩)
      | (go_at_call 24; refine (specAfter_any _ _ _ _ _).mono ?_; rintro e w' ⟨rfl, rfl⟩)
      | (go_at_call 29; refine (implMinutes_any _ _ _ _ _).mono ?_; rintro e w' ⟨rfl, rfl⟩)
      | (go_at_call 30; refine (specMinutes_any _ _ _ _ _).mono ?_; rintro e w' ⟨rfl, rfl⟩)
      | (go_at_call 32; refine (implLeast_any _ _ _ _ _).mono ?_; rintro e w' ⟨rfl, rfl⟩)
      | (go_at_call 33; refine (specLeast_any _ _ _ _ _).mono ?_; rintro e w' ⟨rfl, rfl⟩)
      | (go_at_call 18; refine (alive_any _).mono ?_; rintro e w2 ⟨rfl, hb2⟩))
    all_goals (go_ret; first | exact ⟨rfl, hb⟩ | exact ⟨rfl, hb.trans (hb2.mono hb.size)⟩)
  · obtain ⟨l1, l2, l3, l4, l5, l6, l7, l8, l9, l10⟩ := heatAfter_law (by omega : 0 ≤ heatAfter h f p m)
    by_cases e : f = 1500
    · subst e
      clear l10
      go_wp2_with (first
      | (go_at_call 20; refine (implStep_any _ _ _ _).mono ?_; rintro e w' ⟨rfl, rfl⟩)
      | (go_at_call 21; refine (specStep_any _ _ _ _).mono ?_; rintro e w' ⟨rfl, rfl⟩)
      | (go_at_call 23; refine (implAfter_any _ _ _ _ _).mono ?_; rintro e w' ⟨rfl, rfl⟩)
      | (go_at_call 24; refine (specAfter_any _ _ _ _ _).mono ?_; rintro e w' ⟨rfl, rfl⟩)
      | (go_at_call 29; refine (implMinutes_any _ _ _ _ _).mono ?_; rintro e w' ⟨rfl, rfl⟩)
      | (go_at_call 30; refine (specMinutes_any _ _ _ _ _).mono ?_; rintro e w' ⟨rfl, rfl⟩)
      | (go_at_call 32; refine (implLeast_any _ _ _ _ _).mono ?_; rintro e w' ⟨rfl, rfl⟩)
      | (go_at_call 33; refine (specLeast_any _ _ _ _ _).mono ?_; rintro e w' ⟨rfl, rfl⟩)
      | (go_at_call 18; refine (alive_any _).mono ?_; rintro e w2 ⟨rfl, hb2⟩))
      all_goals (go_ret; first | exact ⟨rfl, hb⟩ | exact ⟨rfl, hb.trans (hb2.mono hb.size)⟩)
    · have m2 : heatAfter h f p m ≤ heatAfter h (f + 1) p m := by omega
      clear l10
      go_wp2_with (first
      | (go_at_call 20; refine (implStep_any _ _ _ _).mono ?_; rintro e w' ⟨rfl, rfl⟩)
      | (go_at_call 21; refine (specStep_any _ _ _ _).mono ?_; rintro e w' ⟨rfl, rfl⟩)
      | (go_at_call 23; refine (implAfter_any _ _ _ _ _).mono ?_; rintro e w' ⟨rfl, rfl⟩)
      | (go_at_call 24; refine (specAfter_any _ _ _ _ _).mono ?_; rintro e w' ⟨rfl, rfl⟩)
      | (go_at_call 29; refine (implMinutes_any _ _ _ _ _).mono ?_; rintro e w' ⟨rfl, rfl⟩)
      | (go_at_call 30; refine (specMinutes_any _ _ _ _ _).mono ?_; rintro e w' ⟨rfl, rfl⟩)
      | (go_at_call 32; refine (implLeast_any _ _ _ _ _).mono ?_; rintro e w' ⟨rfl, rfl⟩)
      | (go_at_call 33; refine (specLeast_any _ _ _ _ _).mono ?_; rintro e w' ⟨rfl, rfl⟩)
      | (go_at_call 18; refine (alive_any _).mono ?_; rintro e w2 ⟨rfl, hb2⟩))
      all_goals (go_ret; first | exact ⟨rfl, hb⟩ | exact ⟨rfl, hb.trans (hb2.mono hb.size)⟩)
set_option maxHeartbeats 4000000 in
theorem walkFnHeatMinutes (w : World) (A : Option Addr) (n c : Nat) (xs : List Int) (hl : xs.length = n) (rd : RdI .u8 w w.heap.size A xs) (hc : n ≤ c) (hx : ∀ x ∈ xs, 0 ≤ x ∧ x ≤ 255) :
    Calls Tryd.prog 7 #[.slice A n c] w fun e w' => e = .returned (.bool true) ∧ Below w.heap.size w w' := by
  by_cases hs0 : 1048576 < (n : Int)
  · go_enter Tryd.func7, Tryd.ntmps7
    go_wp2
    go_ret
    exact ⟨rfl, Below.refl _ _⟩
  have hn : n ≤ 1048576 := by omega
  go_enter Tryd.func7, Tryd.ntmps7
  go_wp2_with (fail)
  refine (drawMinutes_st hl hc rd hn hx).mono ?_
  rintro e w1 ⟨h, f, p, x, rfl, hb⟩
  clear rd hx
  by_cases hneg : heatMinutes h f p x < 0
  · have hm := heatMinutes_bad hneg
    go_wp2_with (first
      | (go_at_call 20; refine (implStep_any _ _ _ _).mono ?_; rintro e w' ⟨rfl, rfl⟩)
      | (go_at_call 21; refine (specStep_any _ _ _ _).mono ?_; rintro e w' ⟨rfl, rfl⟩)
      | (go_at_call 23; refine (implAfter_any _ _ _ _ _).mono ?_; rintro e w' ⟨rfl, rfl⟩)
      | (go_at_call 24; refine (specAfter_any _ _ _ _ _).mono ?_; rintro e w' ⟨rfl, rfl⟩)
      | (go_at_call 29; refine (implMinutes_any _ _ _ _ _).mono ?_; rintro e w' ⟨rfl, rfl⟩)
      | (go_at_call 30; refine (specMinutes_any _ _ _ _ _).mono ?_; rintro e w' ⟨rfl, rfl⟩)
      | (go_at_call 32; refine (implLeast_any _ _ _ _ _).mono ?_; rintro e w' ⟨rfl, rfl⟩)
      | (go_at_call 33; refine (specLeast_any _ _ _ _ _).mono ?_; rintro e w' ⟨rfl, rfl⟩)
      | (go_at_call 18; refine (alive_any _).mono ?_; rintro e w2 ⟨rfl, hb2⟩))
    all_goals (go_ret; first | exact ⟨rfl, hb⟩ | exact ⟨rfl, hb.trans (hb2.mono hb.size)⟩)
  · obtain ⟨l1, l2, l3⟩ := heatMinutes_law (by omega : 0 ≤ heatMinutes h f p x)
    by_cases e : heatMinutes h f p x = 0
    · clear l3
      rw [e] at l1 l2 hneg
      go_wp2_with (first
      | (go_at_call 20; refine (implStep_any _ _ _ _).mono ?_; rintro e w' ⟨rfl, rfl⟩)
      | (go_at_call 21; refine (specStep_any _ _ _ _).mono ?_; rintro e w' ⟨rfl, rfl⟩)
      | (go_at_call 23; refine (implAfter_any _ _ _ _ _).mono ?_; rintro e w' ⟨rfl, rfl⟩)
      | (go_at_call 24; refine (specAfter_any _ _ _ _ _).mono ?_; rintro e w' ⟨rfl, rfl⟩)
      | (go_at_call 29; refine (implMinutes_any _ _ _ _ _).mono ?_; rintro e w' ⟨rfl, rfl⟩)
      | (go_at_call 30; refine (specMinutes_any _ _ _ _ _).mono ?_; rintro e w' ⟨rfl, rfl⟩)
      | (go_at_call 32; refine (implLeast_any _ _ _ _ _).mono ?_; rintro e w' ⟨rfl, rfl⟩)
      | (go_at_call 33; refine (specLeast_any _ _ _ _ _).mono ?_; rintro e w' ⟨rfl, rfl⟩)
      | (go_at_call 18; refine (alive_any _).mono ?_; rintro e w2 ⟨rfl, hb2⟩))
      all_goals (go_ret; first | exact ⟨rfl, hb⟩ | exact ⟨rfl, hb.trans (hb2.mono hb.size)⟩)
    · have m2 : heatAfter h f p (heatMinutes h f p x - 1) < x := by omega
      clear l3
      go_wp2_with (first
      | (go_at_call 20; refine (implStep_any _ _ _ _).mono ?_; rintro e w' ⟨rfl, rfl⟩)
      | (go_at_call 21; refine (specStep_any _ _ _ _).mono ?_; rintro e w' ⟨rfl, rfl⟩)
      | (go_at_call 23; refine (implAfter_any _ _ _ _ _).mono ?_; rintro e w' ⟨rfl, rfl⟩)
      | (go_at_call 24; refine (specAfter_any _ _ _ _ _).mono ?_; rintro e w' ⟨rfl, rfl⟩)
      | (go_at_call 29; refine (implMinutes_any _ _ _ _ _).mono ?_; rintro e w' ⟨rfl, rfl⟩)
      | (go_at_call 30; refine (specMinutes_any _ _ _ _ _).mono ?_; rintro e w' ⟨rfl, rfl⟩)
      | (go_at_call 32; refine (implLeast_any _ _ _ _ _).mono ?_; rintro e w' ⟨rfl, rfl⟩)
      | (go_at_call 33; refine (specLeast_any _ _ _ _ _).mono ?_; rintro e w' ⟨rfl, rfl⟩)
      | (go_at_call 18; refine (alive_any _).mono ?_; rintro e w2 ⟨rfl, hb2⟩))
      all_goals (go_ret; first | exact ⟨rfl, hb⟩ | exact ⟨rfl, hb.trans (hb2.mono hb.size)⟩)
set_option maxHeartbeats 4000000 in
theorem walkFnHeatLeast (w : World) (A : Option Addr) (n c : Nat) (xs : List Int) (hl : xs.length = n) (rd : RdI .u8 w w.heap.size A xs) (hc : n ≤ c) (hx : ∀ x ∈ xs, 0 ≤ x ∧ x ≤ 255) :
    Calls Tryd.prog 8 #[.slice A n c] w fun e w' => e = .returned (.bool true) ∧ Below w.heap.size w w' := by
  by_cases hs0 : 1048576 < (n : Int)
  · go_enter Tryd.func8, Tryd.ntmps8
    go_wp2
    go_ret
    exact ⟨rfl, Below.refl _ _⟩
  have hn : n ≤ 1048576 := by omega
  go_enter Tryd.func8, Tryd.ntmps8
  go_wp2_with (fail)
  refine (drawLeast_st hl hc rd hn hx).mono ?_
  rintro e w1 ⟨h, p, x, m, rfl, hb⟩
  clear rd hx
  by_cases hneg : heatLeast h p x m < 0
  · have hm : heatLeast h p x m = -1 := by rcases heatLeast_law (h := h) (p := p) (w := x) (n := m) with e | ⟨_, _, _⟩ <;> omega
    go_wp2_with (first
      | (go_at_call 20; refine (implStep_any _ _ _ _).mono ?_; rintro e w' ⟨rfl, rfl⟩)
      | (go_at_call 21; refine (specStep_any _ _ _ _).mono ?_; rintro e w' ⟨rfl, rfl⟩)
      | (go_at_call 23; refine (implAfter_any _ _ _ _ _).mono ?_; rintro e w' ⟨rfl, rfl⟩)
      | (go_at_call 24; refine (specAfter_any _ _ _ _ _).mono ?_; rintro e w' ⟨rfl, rfl⟩)
      | (go_at_call 29; refine (implMinutes_any _ _ _ _ _).mono ?_; rintro e w' ⟨rfl, rfl⟩)
      | (go_at_call 30; refine (specMinutes_any _ _ _ _ _).mono ?_; rintro e w' ⟨rfl, rfl⟩)
      | (go_at_call 32; refine (implLeast_any _ _ _ _ _).mono ?_; rintro e w' ⟨rfl, rfl⟩)
      | (go_at_call 33; refine (specLeast_any _ _ _ _ _).mono ?_; rintro e w' ⟨rfl, rfl⟩)
      | (go_at_call 18; refine (alive_any _).mono ?_; rintro e w2 ⟨rfl, hb2⟩))
    all_goals (go_ret; first | exact ⟨rfl, hb⟩ | exact ⟨rfl, hb.trans (hb2.mono hb.size)⟩)
  · have hlaw := heatLeast_law (h := h) (p := p) (w := x) (n := m)
    rcases hlaw with e | ⟨l1, l2, l3, l4, l5⟩
    · exact absurd e (by omega)
    by_cases e : heatLeast h p x m = x
    · clear l5
      rw [e] at l2 l3 l4 hneg
      go_wp2_with (first
      | (go_at_call 20; refine (implStep_any _ _ _ _).mono ?_; rintro e w' ⟨rfl, rfl⟩)
      | (go_at_call 21; refine (specStep_any _ _ _ _).mono ?_; rintro e w' ⟨rfl, rfl⟩)
      | (go_at_call 23; refine (implAfter_any _ _ _ _ _).mono ?_; rintro e w' ⟨rfl, rfl⟩)
      | (go_at_call 24; refine (specAfter_any _ _ _ _ _).mono ?_; rintro e w' ⟨rfl, rfl⟩)
      | (go_at_call 29; refine (implMinutes_any _ _ _ _ _).mono ?_; rintro e w' ⟨rfl, rfl⟩)
      | (go_at_call 30; refine (specMinutes_any _ _ _ _ _).mono ?_; rintro e w' ⟨rfl, rfl⟩)
      | (go_at_call 32; refine (implLeast_any _ _ _ _ _).mono ?_; rintro e w' ⟨rfl, rfl⟩)
      | (go_at_call 33; refine (specLeast_any _ _ _ _ _).mono ?_; rintro e w' ⟨rfl, rfl⟩)
      | (go_at_call 18; refine (alive_any _).mono ?_; rintro e w2 ⟨rfl, hb2⟩))
      all_goals (go_ret; first | exact ⟨rfl, hb⟩ | exact ⟨rfl, hb.trans (hb2.mono hb.size)⟩)
    · have m2 : heatAfter h (heatLeast h p x m - 1) p m < x := by omega
      clear l5
      go_wp2_with (first
      | (go_at_call 20; refine (implStep_any _ _ _ _).mono ?_; rintro e w' ⟨rfl, rfl⟩)
      | (go_at_call 21; refine (specStep_any _ _ _ _).mono ?_; rintro e w' ⟨rfl, rfl⟩)
      | (go_at_call 23; refine (implAfter_any _ _ _ _ _).mono ?_; rintro e w' ⟨rfl, rfl⟩)
      | (go_at_call 24; refine (specAfter_any _ _ _ _ _).mono ?_; rintro e w' ⟨rfl, rfl⟩)
      | (go_at_call 29; refine (implMinutes_any _ _ _ _ _).mono ?_; rintro e w' ⟨rfl, rfl⟩)
      | (go_at_call 30; refine (specMinutes_any _ _ _ _ _).mono ?_; rintro e w' ⟨rfl, rfl⟩)
      | (go_at_call 32; refine (implLeast_any _ _ _ _ _).mono ?_; rintro e w' ⟨rfl, rfl⟩)
      | (go_at_call 33; refine (specLeast_any _ _ _ _ _).mono ?_; rintro e w' ⟨rfl, rfl⟩)
      | (go_at_call 18; refine (alive_any _).mono ?_; rintro e w2 ⟨rfl, hb2⟩))
      all_goals (go_ret; first | exact ⟨rfl, hb⟩ | exact ⟨rfl, hb.trans (hb2.mono hb.size)⟩)
end Go.Proofs.YtiddlpgpbafdmaaDoor
