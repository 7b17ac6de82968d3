/- What 'PassesOk' returns, for all arguments. -/
import Derived.Test.YtiddlpgpbafdmaaDoorOkImpl
import Derived.Test.YtiddlpgpbafdmaaDoorOkSpec
namespace Go.Proofs.YtiddlpgpbafdmaaDoor
open Go.RowKit
set_option linter.unusedVariables false
theorem passesOk_1 {xs ys : List (Int × Int)} {r p : Int} (h : chargesOk xs = false) : passesOk xs r p ys = false := by simp only [passesOk, h, Bool.false_and]
theorem passesOk_2 {xs ys : List (Int × Int)} {r p : Int} (h : furnOk r p = false) : passesOk xs r p ys = false := by simp only [passesOk, h, Bool.false_and, Bool.and_false]
theorem passesOk_3 {xs ys : List (Int × Int)} {r p : Int} (h : ys.length ≠ xs.length) : passesOk xs r p ys = false := by simp only [passesOk, timesOk_len h, Bool.and_false]
theorem passesOk_4 {xs ys : List (Int × Int)} {R : Nat} {p : Int} (h : chargesOk xs = true) (h2 : furnOk R p = true) : passesOk xs R p ys = timesOk R p xs ys := by simp only [passesOk, h, h2, Bool.true_and]; rfl

theorem implOk_any (A : Option Addr) (n c : Nat) (xs : List (Int × Int)) (r p : Int) (A2 : Option Addr) (n2 c2 : Nat) (ys : List (Int × Int)) (w : World) (hl : xs.length = n) (hr : RdP w w.heap.size A xs) (hn : n ≤ 1048576) (hl2 : ys.length = n2) (hr2 : RdP w w.heap.size A2 ys) (hn2 : n2 ≤ 1048576) :
    Calls Tryd.prog 41 #[.slice A n c, .agg #[.int .i64 r, .int .i64 p], .slice A2 n2 c2] w fun e w' => e = .returned (.bool (passesOk xs r p ys)) ∧ Below w.heap.size w w' := by
  cases h1 : chargesOk xs
  · go_enter Tryd.func41, Tryd.ntmps41
    go_wp2_with (fail)
    refine (implCharges_any _ _ _ xs _ hl (hr.up ((Below.refl _ _).alloc (Nat.le_refl _) _) (by simp)) (by omega)).mono ?_
    rintro e w1 ⟨rfl, hb1⟩
    have t1 := below_boxed hb1
    obtain ⟨hc1, hf1⟩ := bcell hb1
    have hz1' : w.heap.size < w1.heap.size := by have := hb1.size; simp at this; omega
    go_wp2
    go_ret
    exact ⟨ret_bool (passesOk_1 h1).symm, t1⟩
  cases h2 : furnOk r p
  · go_enter Tryd.func41, Tryd.ntmps41
    go_wp2_with (fail)
    refine (implCharges_any _ _ _ xs _ hl (hr.up ((Below.refl _ _).alloc (Nat.le_refl _) _) (by simp)) (by omega)).mono ?_
    rintro e w1 ⟨rfl, hb1⟩
    have t1 := below_boxed hb1
    obtain ⟨hc1, hf1⟩ := bcell hb1
    have hz1' : w.heap.size < w1.heap.size := by have := hb1.size; simp at this; omega
    go_wp2_with (fail)
    refine (implFurn_any _ _ _).mono ?_
    rintro e w2 ⟨rfl, hb2⟩
    have t2 := below_next t1 hb2
    go_wp2
    go_ret
    exact ⟨ret_bool (passesOk_2 h2).symm, t2⟩
  by_cases h3 : n2 = n
  · subst h3
    obtain ⟨f1, _⟩ := furnOk_iff.1 h2
    obtain ⟨R, rfl⟩ : ∃ R : Nat, r = R := ⟨r.toNat, by omega⟩
    rw [passesOk_4 h1 h2]
    exact implOk_loop A n2 c xs R p A2 c2 ys w hl hr hn hl2 hr2 h1 h2
  · have hne : decide (n2 = n) = false := by simpa using h3
    have HNE : Hid (ys.length ≠ xs.length) := Lib.hid (by rw [hl, hl2]; exact h3)
    go_enter Tryd.func41, Tryd.ntmps41
    go_wp2_with (fail)
    refine (implCharges_any _ _ _ xs _ hl (hr.up ((Below.refl _ _).alloc (Nat.le_refl _) _) (by simp)) (by omega)).mono ?_
    rintro e w1 ⟨rfl, hb1⟩
    have t1 := below_boxed hb1
    obtain ⟨hc1, hf1⟩ := bcell hb1
    have hz1' : w.heap.size < w1.heap.size := by have := hb1.size; simp at this; omega
    go_wp2_with (fail)
    refine (implFurn_any _ _ _).mono ?_
    rintro e w2 ⟨rfl, hb2⟩
    have t2 := below_next t1 hb2
    go_wp2
    go_ret
    exact ⟨ret_bool (passesOk_3 HNE.out).symm, t2⟩

theorem specOk_any (A : Option Addr) (n c : Nat) (xs : List (Int × Int)) (r p : Int) (A2 : Option Addr) (n2 c2 : Nat) (ys : List (Int × Int)) (w : World) (hl : xs.length = n) (hr : RdP w w.heap.size A xs) (hn : n ≤ 1048576) (hl2 : ys.length = n2) (hr2 : RdP w w.heap.size A2 ys) (hn2 : n2 ≤ 1048576) :
    Calls Tryd.prog 43 #[.slice A n c, .agg #[.int .i64 r, .int .i64 p], .slice A2 n2 c2] w fun e w' => e = .returned (.bool (passesOk xs r p ys)) ∧ Below w.heap.size w w' := by
  cases h1 : chargesOk xs
  · go_enter Tryd.func43, Tryd.ntmps43
    go_wp2_with (fail)
    refine (specCharges_any _ _ _ xs _ hl (hr.up ((Below.refl _ _).alloc (Nat.le_refl _) _) (by simp)) (by omega)).mono ?_
    rintro e w' ⟨rfl, rfl⟩
    have t1 : Below w.heap.size w (w.alloc (.cells #[.int .i64 r, .int .i64 p] 24)) := (Below.refl _ _).alloc (Nat.le_refl _) _
    go_wp2
    go_ret
    exact ⟨ret_bool (passesOk_1 h1).symm, t1⟩
  cases h2 : furnOk r p
  · go_enter Tryd.func43, Tryd.ntmps43
    go_wp2_with (fail)
    refine (specCharges_any _ _ _ xs _ hl (hr.up ((Below.refl _ _).alloc (Nat.le_refl _) _) (by simp)) (by omega)).mono ?_
    rintro e w' ⟨rfl, rfl⟩
    have t1 : Below w.heap.size w (w.alloc (.cells #[.int .i64 r, .int .i64 p] 24)) := (Below.refl _ _).alloc (Nat.le_refl _) _
    go_wp2_with (fail)
    refine (specFurn_any _ _ _).mono ?_
    rintro e w2 ⟨rfl, hb2⟩
    have t2 := below_boxed hb2
    go_wp2
    go_ret
    exact ⟨ret_bool (passesOk_2 h2).symm, t2⟩
  by_cases h3 : n2 = n
  · subst h3
    obtain ⟨f1, _⟩ := furnOk_iff.1 h2
    obtain ⟨R, rfl⟩ : ∃ R : Nat, r = R := ⟨r.toNat, by omega⟩
    rw [passesOk_4 h1 h2]
    exact specOk_loop A n2 c xs R p A2 c2 ys w hl hr hn hl2 hr2 h1 h2
  · have hne : decide (n2 = n) = false := by simpa using h3
    have HNE : Hid (ys.length ≠ xs.length) := Lib.hid (by rw [hl, hl2]; exact h3)
    go_enter Tryd.func43, Tryd.ntmps43
    go_wp2_with (fail)
    refine (specCharges_any _ _ _ xs _ hl (hr.up ((Below.refl _ _).alloc (Nat.le_refl _) _) (by simp)) (by omega)).mono ?_
    rintro e w' ⟨rfl, rfl⟩
    have t1 : Below w.heap.size w (w.alloc (.cells #[.int .i64 r, .int .i64 p] 24)) := (Below.refl _ _).alloc (Nat.le_refl _) _
    go_wp2_with (fail)
    refine (specFurn_any _ _ _).mono ?_
    rintro e w2 ⟨rfl, hb2⟩
    have t2 := below_boxed hb2
    go_wp2
    go_ret
    exact ⟨ret_bool (passesOk_3 HNE.out).symm, t2⟩

end Go.Proofs.YtiddlpgpbafdmaaDoor
