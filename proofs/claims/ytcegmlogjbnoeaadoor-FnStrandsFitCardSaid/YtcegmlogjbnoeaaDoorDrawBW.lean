/- What is drawn for the laws on wants, bad stretches and slabs (written by genbw.py). -/
import Derived.Test.YtcegmlogjbnoeaaDoorDrawW
import Derived.Test.YtcegmlogjbnoeaaDoorDrawB
namespace Go.Proofs.YtcegmlogjbnoeaaDoor
open Go.RowKit
set_option linter.unusedVariables false
/-- drawn wants and a length -/
def DrawnWL (w : World) (e : Ending) (w' : World) : Prop := ∃ (A : Option Addr) (n c : Nat) (L : List Int) (long : Int), e = .returned (.tuple #[.slice A n c, .int .i64 long]) ∧ L.length = n ∧ n ≤ 9 ∧ 0 ≤ long ∧ long ≤ 61 ∧ w'.ownsRow w.heap.size 3 1 (.slice A n c) n (intsV .i64 L) ∧ Below w.heap.size w w'
/-- a drawn length and bad stretches -/
def DrawnLB (w : World) (e : Ending) (w' : World) : Prop := ∃ (A : Option Addr) (n c : Nat) (L : List (Int × Int)) (long : Int), e = .returned (.tuple #[.int .i64 long, .slice A n c]) ∧ L.length = n ∧ n ≤ 9 ∧ -70 ≤ long ∧ long ≤ 121 ∧ w'.ownsRow w.heap.size 31 2 (.slice A n c) n (pairsV L) ∧ Below w.heap.size w w'
/-- a drawn length, bad stretches and lengths -/
def DrawnLBL (w : World) (e : Ending) (w' : World) : Prop := ∃ (A : Option Addr) (n c : Nat) (L : List (Int × Int)) (long : Int) (A2 : Option Addr) (n2 c2 : Nat) (ls : List Int), e = .returned (.tuple #[.int .i64 long, .slice A n c, .slice A2 n2 c2]) ∧ L.length = n ∧ n ≤ 9 ∧ -70 ≤ long ∧ long ≤ 121 ∧ ls.length = n2 ∧ n2 ≤ 9 ∧ w'.ownsRow w.heap.size 31 2 (.slice A n c) n (pairsV L) ∧ w'.ownsRow w.heap.size 3 1 (.slice A2 n2 c2) n2 (intsV .i64 ls) ∧ Below w.heap.size w w'
section
variable {w : World} {A : Option Addr} {n c : Nat} {xs : List Int}
set_option maxHeartbeats 1000000 in
theorem drawWantsValid_st (hl : xs.length = n) (hc : n ≤ c) (rd : RdI .u8 w w.heap.size A xs) (hn : n ≤ 1048576) (hx : ∀ x ∈ xs, 0 ≤ x ∧ x ≤ 255) :
    Calls Tryd.prog 32 #[.slice A n c] w (DrawnWL w) := by
  go_enter Tryd.func32, Tryd.ntmps32
  go_wp2_with (fail)
  refine (open_st hl hc rd hn hx).mono ?_
  rintro e w1 ⟨rfl, st1, hz1⟩
  go_wp2_with (fail)
  refine (wants_st st1 (by omega) (by omega) (by omega)).mono ?_
  rintro e w3 ⟨A4, n4, c4, L, long, rfl, hL, hn9, l0, l1, os⟩
  go_wp2
  go_ret2
  exact ⟨A4, n4, c4, L, long, rfl, hL, hn9, l0, l1, own_lower os.own (by omega), os.st.below (Nat.le_refl _) (Nat.le_refl _)⟩
set_option maxHeartbeats 1000000 in
theorem drawStrandsLeast_st (hl : xs.length = n) (hc : n ≤ c) (rd : RdI .u8 w w.heap.size A xs) (hn : n ≤ 1048576) (hx : ∀ x ∈ xs, 0 ≤ x ∧ x ≤ 255) :
    Calls Tryd.prog 44 #[.slice A n c] w (DrawnWL w) := by
  go_enter Tryd.func44, Tryd.ntmps44
  go_wp2_with (fail)
  refine (open_st hl hc rd hn hx).mono ?_
  rintro e w1 ⟨rfl, st1, hz1⟩
  go_wp2_with (fail)
  refine (wants_st st1 (by omega) (by omega) (by omega)).mono ?_
  rintro e w3 ⟨A4, n4, c4, L, long, rfl, hL, hn9, l0, l1, os⟩
  go_wp2
  go_ret2
  exact ⟨A4, n4, c4, L, long, rfl, hL, hn9, l0, l1, own_lower os.own (by omega), os.st.below (Nat.le_refl _) (Nat.le_refl _)⟩
set_option maxHeartbeats 1000000 in
theorem drawStrandsFit_st (hl : xs.length = n) (hc : n ≤ c) (rd : RdI .u8 w w.heap.size A xs) (hn : n ≤ 1048576) (hx : ∀ x ∈ xs, 0 ≤ x ∧ x ≤ 255) :
    Calls Tryd.prog 65 #[.slice A n c] w (DrawnWL w) := by
  go_enter Tryd.func65, Tryd.ntmps65
  go_wp2_with (fail)
  refine (open_st hl hc rd hn hx).mono ?_
  rintro e w1 ⟨rfl, st1, hz1⟩
  go_wp2_with (fail)
  refine (wants_st st1 (by omega) (by omega) (by omega)).mono ?_
  rintro e w3 ⟨A4, n4, c4, L, long, rfl, hL, hn9, l0, l1, os⟩
  go_wp2
  go_ret2
  exact ⟨A4, n4, c4, L, long, rfl, hL, hn9, l0, l1, own_lower os.own (by omega), os.st.below (Nat.le_refl _) (Nat.le_refl _)⟩
set_option maxHeartbeats 1000000 in
theorem drawBadValid_st (hl : xs.length = n) (hc : n ≤ c) (rd : RdI .u8 w w.heap.size A xs) (hn : n ≤ 1048576) (hx : ∀ x ∈ xs, 0 ≤ x ∧ x ≤ 255) :
    Calls Tryd.prog 29 #[.slice A n c] w (DrawnLB w) := by
  go_enter Tryd.func29, Tryd.ntmps29
  go_wp2_with (fail)
  refine (open_st hl hc rd hn hx).mono ?_
  rintro e w1 ⟨rfl, st1, hz1⟩
  go_wp2_with (fail)
  refine (long_st st1 (by omega)).mono ?_
  rintro e w2 ⟨v, rfl, v0, v1, st2, hz2⟩
  go_wp2_with (fail)
  refine (bad_st st2 (by omega) (by omega) (by omega) v0 v1).mono ?_
  rintro e w3 ⟨A4, n4, c4, L, rfl, hL, hn9, os⟩
  go_wp2
  go_ret2
  exact ⟨A4, n4, c4, L, v, rfl, hL, hn9, v0, v1, own_lower os.own (by omega), os.st.below (Nat.le_refl _) (Nat.le_refl _)⟩
set_option maxHeartbeats 1000000 in
theorem drawGoodParts_st (hl : xs.length = n) (hc : n ≤ c) (rd : RdI .u8 w w.heap.size A xs) (hn : n ≤ 1048576) (hx : ∀ x ∈ xs, 0 ≤ x ∧ x ≤ 255) :
    Calls Tryd.prog 37 #[.slice A n c] w (DrawnLB w) := by
  go_enter Tryd.func37, Tryd.ntmps37
  go_wp2_with (fail)
  refine (open_st hl hc rd hn hx).mono ?_
  rintro e w1 ⟨rfl, st1, hz1⟩
  go_wp2_with (fail)
  refine (long_st st1 (by omega)).mono ?_
  rintro e w2 ⟨v, rfl, v0, v1, st2, hz2⟩
  go_wp2_with (fail)
  refine (bad_st st2 (by omega) (by omega) (by omega) v0 v1).mono ?_
  rintro e w3 ⟨A4, n4, c4, L, rfl, hL, hn9, os⟩
  go_wp2
  go_ret2
  exact ⟨A4, n4, c4, L, v, rfl, hL, hn9, v0, v1, own_lower os.own (by omega), os.st.below (Nat.le_refl _) (Nat.le_refl _)⟩
set_option maxHeartbeats 1000000 in
theorem drawSlabsBest_st (hl : xs.length = n) (hc : n ≤ c) (rd : RdI .u8 w w.heap.size A xs) (hn : n ≤ 1048576) (hx : ∀ x ∈ xs, 0 ≤ x ∧ x ≤ 255) :
    Calls Tryd.prog 61 #[.slice A n c] w (DrawnLBL w) := by
  go_enter Tryd.func61, Tryd.ntmps61
  go_wp2_with (fail)
  refine (open_st hl hc rd hn hx).mono ?_
  rintro e w1 ⟨rfl, st1, hz1⟩
  go_wp2_with (fail)
  refine (long_st st1 (by omega)).mono ?_
  rintro e w2 ⟨v, rfl, v0, v1, st2, hz2⟩
  go_wp2_with (fail)
  refine (bad_st st2 (by omega) (by omega) (by omega) v0 v1).mono ?_
  rintro e w3 ⟨A4, n4, c4, L, rfl, hL, hn9, os⟩
  go_wp2_with (fail)
  refine (lengths_st (os.st.self (Below.refl _ _)) (by omega) (by omega) (by omega)).mono ?_
  rintro e w4 ⟨A5, n5, c5, ls, rfl, hls, hn5, os5⟩
  have own4 := os.draw os5.st
  have hs3 := os.hs
  go_wp2
  go_ret3
  exact ⟨A4, n4, c4, L, v, A5, n5, c5, ls, rfl, hL, hn9, v0, v1, hls, hn5, own_lower own4.own (by omega), own_lower os5.own (by omega), own4.st.below (Nat.le_refl _) (Nat.le_refl _)⟩
set_option maxHeartbeats 1000000 in
theorem drawSlabsLeast_st (hl : xs.length = n) (hc : n ≤ c) (rd : RdI .u8 w w.heap.size A xs) (hn : n ≤ 1048576) (hx : ∀ x ∈ xs, 0 ≤ x ∧ x ≤ 255) :
    Calls Tryd.prog 23 #[.slice A n c] w (DrawnLBL w) := by
  go_enter Tryd.func23, Tryd.ntmps23
  go_wp2_with (fail)
  refine (drawSlabsBest_st hl hc rd hn hx).mono ?_
  rintro e w1 ⟨A4, n4, c4, L, v, A5, n5, c5, ls, rfl, hL, hn9, v0, v1, hls, hn5, o1, o2, be⟩
  go_wp2
  go_ret3
  exact ⟨A4, n4, c4, L, v, A5, n5, c5, ls, rfl, hL, hn9, v0, v1, hls, hn5, o1, o2, be⟩
end
end Go.Proofs.YtcegmlogjbnoeaaDoor
