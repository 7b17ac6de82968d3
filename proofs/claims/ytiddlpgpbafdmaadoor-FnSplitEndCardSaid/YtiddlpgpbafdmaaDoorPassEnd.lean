/- When the last slab leaves: the walks of 'PassEnd'. -/
import Derived.Test.YtiddlpgpbafdmaaDoorEndPlain
import Derived.Test.YtiddlpgpbafdmaaDoorPassWalk
import Derived.Test.YtiddlpgpbafdmaaDoorPassSpec
import Derived.Test.YtiddlpgpbafdmaaDoorSz
namespace Go.Proofs.YtiddlpgpbafdmaaDoor
open Go.RowKit
set_option linter.unusedVariables false
theorem implEnd_no (A : Option Addr) (n c : Nat) (xs : List (Int × Int)) (r p : Int) (w : World) (hl : xs.length = n) (hr : RdP w w.heap.size A xs) (hn : n ≤ 1048576) (hx : (chargesOk xs && furnOk r p) = false) :
    Calls Tryd.prog 35 #[.slice A n c, .agg #[.int .i64 r, .int .i64 p]] w fun e w' => e = .returned (.int .i64 (-1)) ∧ Below w.heap.size w w' := by
  cases h1 : chargesOk xs
  · go_enter Tryd.func35, Tryd.ntmps35
    go_wp2_with (fail)
    refine (implCharges_any _ _ _ xs _ hl (hr.up ((Below.refl _ _).alloc (Nat.le_refl _) _) (by simp)) (by omega)).mono ?_
    rintro e w1 ⟨rfl, hb1⟩
    have t1 := below_boxed hb1
    go_wp2
    go_ret
    exact ⟨rfl, t1⟩
  · have h2 : furnOk r p = false := by rw [h1] at hx; simpa using hx
    go_enter Tryd.func35, Tryd.ntmps35
    go_wp2_with (fail)
    refine (implCharges_any _ _ _ xs _ hl (hr.up ((Below.refl _ _).alloc (Nat.le_refl _) _) (by simp)) (by omega)).mono ?_
    rintro e w1 ⟨rfl, hb1⟩
    have t1 := below_boxed hb1
    obtain ⟨hc1, hf1⟩ := bcell hb1
    have hz1' : w.heap.size < w1.heap.size := by have := hb1.size; simp at this; omega
    go_wp2_with (fail)
    refine (implFurn_any _ _ _).mono ?_
    rintro e w2 ⟨rfl, hb2⟩
    have t2 := below_next t1 hb2
    go_wp2
    go_ret
    exact ⟨rfl, t2⟩

theorem specEnd_no (A : Option Addr) (n c : Nat) (xs : List (Int × Int)) (r p : Int) (w : World) (hl : xs.length = n) (hr : RdP w w.heap.size A xs) (hn : n ≤ 1048576) (hx : (chargesOk xs && furnOk r p) = false) :
    Calls Tryd.prog 36 #[.slice A n c, .agg #[.int .i64 r, .int .i64 p]] w fun e w' => e = .returned (.int .i64 (-1)) ∧ Below w.heap.size w w' := by
  cases h1 : chargesOk xs
  · go_enter Tryd.func36, Tryd.ntmps36
    go_wp2_with (fail)
    refine (specCharges_any _ _ _ xs _ hl (hr.up ((Below.refl _ _).alloc (Nat.le_refl _) _) (by simp)) (by omega)).mono ?_
    rintro e w' ⟨rfl, rfl⟩
    have t1 : Below w.heap.size w (w.alloc (.cells #[.int .i64 r, .int .i64 p] 24)) := (Below.refl _ _).alloc (Nat.le_refl _) _
    go_wp2
    go_ret
    exact ⟨rfl, t1⟩
  · have h2 : furnOk r p = false := by rw [h1] at hx; simpa using hx
    go_enter Tryd.func36, Tryd.ntmps36
    go_wp2_with (fail)
    refine (specCharges_any _ _ _ xs _ hl (hr.up ((Below.refl _ _).alloc (Nat.le_refl _) _) (by simp)) (by omega)).mono ?_
    rintro e w' ⟨rfl, rfl⟩
    have t1 : Below w.heap.size w (w.alloc (.cells #[.int .i64 r, .int .i64 p] 24)) := (Below.refl _ _).alloc (Nat.le_refl _) _
    go_wp2_with (fail)
    refine (specFurn_any _ _ _).mono ?_
    rintro e w2 ⟨rfl, hb2⟩
    have t2 := below_boxed hb2
    go_wp2
    go_ret
    exact ⟨rfl, t2⟩

theorem implEnd_ok (A : Option Addr) (n c : Nat) (xs : List (Int × Int)) (R : Nat) (p : Int) (w : World) (hl : xs.length = n) (hr : RdP w w.heap.size A xs) (hn : n ≤ 1048576) (hx : chargesOk xs = true) (hf : furnOk R p = true) :
    Calls Tryd.prog 35 #[.slice A n c, .agg #[.int .i64 R, .int .i64 p]] w fun e w' => e = .returned (.int .i64 (lastOut (passTimes R p xs))) ∧ Below w.heap.size w w' := by
  have HLL := Lib.hid ((passTimes_length R p xs).trans hl)
  have HL := Lib.hid hl
  rcases n with _ | m
  · have H0 : Hid (lastOut (passTimes R p xs) = 0) := Lib.hid (by rw [List.eq_nil_of_length_eq_zero hl]; rfl)
    clear hl
    go_enter Tryd.func35, Tryd.ntmps35
    go_wp2_with (fail)
    refine (implCharges_any _ _ _ xs _ HL.out (hr.up ((Below.refl _ _).alloc (Nat.le_refl _) _) (by simp)) (by omega)).mono ?_
    rintro e w1 ⟨rfl, hb1⟩
    have t1 := below_boxed hb1
    obtain ⟨hc1, hf1⟩ := bcell hb1
    have hz1' : w.heap.size < w1.heap.size := by have := hb1.size; simp at this; omega
    go_wp2_with (fail)
    refine (implFurn_any _ _ _).mono ?_
    rintro e w2 ⟨rfl, hb2⟩
    have t2 := below_next t1 hb2
    obtain ⟨hc2, hf2⟩ := bcell hb2
    have hz2' : w.heap.size < w2.heap.size := by have := hb2.size; omega
    go_wp2
    go_ret
    exact ⟨ret_int H0.out.symm, t2⟩
  · clear hl
    have hne : (((m : Int) + 1) == 0) = false := by simp; omega
    go_enter Tryd.func35, Tryd.ntmps35
    go_wp2_with (fail)
    refine (implCharges_any _ _ _ xs _ HL.out (hr.up ((Below.refl _ _).alloc (Nat.le_refl _) _) (by simp)) (by omega)).mono ?_
    rintro e w1 ⟨rfl, hb1⟩
    have t1 := below_boxed hb1
    obtain ⟨hc1, hf1⟩ := bcell hb1
    have hz1' : w.heap.size < w1.heap.size := by have := hb1.size; simp at this; omega
    go_wp2_with (fail)
    refine (implFurn_any _ _ _).mono ?_
    rintro e w2 ⟨rfl, hb2⟩
    have t2 := below_next t1 hb2
    obtain ⟨hc2, hf2⟩ := bcell hb2
    have hz2' : w.heap.size < w2.heap.size := by have := hb2.size; omega
    go_wp2_with (fail)
    refine (implTimes_ok _ _ _ xs R p _ HL.out (hr.up t2 t2.size) (by omega) hx hf).mono ?_
    rintro e w3 hrow
    obtain ⟨A', c', rfl, ho, hb3⟩ := hrow.at_ HLL.out
    have t3 := below_next t2 hb3
    obtain ⟨⟨a, b⟩, hlast⟩ : ∃ q, (passTimes R p xs)[m]? = some q := ⟨_, List.getElem?_eq_getElem (by have := HLL.out; omega)⟩
    have HT := Lib.hid hlast
    obtain ⟨b', off, rfl, hbB, hd1, hd2⟩ := RdP.of_own ho m a b hlast
    clear hlast
    go_wp2
    go_ret
    exact ⟨ret_int (lastOut_at HLL.out HT.out).symm, t3⟩

theorem implEnd_any (A : Option Addr) (n c : Nat) (xs : List (Int × Int)) (r p : Int) (w : World) (hl : xs.length = n) (hr : RdP w w.heap.size A xs) (hn : n ≤ 1048576) :
    Calls Tryd.prog 35 #[.slice A n c, .agg #[.int .i64 r, .int .i64 p]] w fun e w' => e = .returned (.int .i64 (passEnd xs r p)) ∧ Below w.heap.size w w' := by
  cases h : chargesOk xs && furnOk r p
  · rw [passEnd_no h]
    exact implEnd_no A n c xs r p w hl hr hn h
  · obtain ⟨h1, h2⟩ := Bool.and_eq_true_iff.1 h
    obtain ⟨f1, _⟩ := furnOk_iff.1 h2
    obtain ⟨R, rfl⟩ : ∃ R : Nat, r = R := ⟨r.toNat, by omega⟩
    rw [passEnd_ok h]
    exact implEnd_ok A n c xs R p w hl hr hn h1 h2

theorem specEnd_ok (A : Option Addr) (n c : Nat) (xs : List (Int × Int)) (R : Nat) (p : Int) (w : World) (hl : xs.length = n) (hr : RdP w w.heap.size A xs) (hn : n ≤ 1048576) (hx : chargesOk xs = true) (hf : furnOk R p = true) :
    Calls Tryd.prog 36 #[.slice A n c, .agg #[.int .i64 R, .int .i64 p]] w fun e w' => e = .returned (.int .i64 (lastOut (passTimes R p xs))) ∧ Below w.heap.size w w' := by
  have HLL := Lib.hid ((passTimes_length R p xs).trans hl)
  have HL := Lib.hid hl
  rcases n with _ | m
  · have H0 : Hid (lastOut (passTimes R p xs) = 0) := Lib.hid (by rw [List.eq_nil_of_length_eq_zero hl]; rfl)
    clear hl
    go_enter Tryd.func36, Tryd.ntmps36
    go_wp2_with (fail)
    refine (specCharges_any _ _ _ xs _ HL.out (hr.up ((Below.refl _ _).alloc (Nat.le_refl _) _) (by simp)) (by omega)).mono ?_
    rintro e w' ⟨rfl, rfl⟩
    go_wp2_with (fail)
    refine (specFurn_any _ _ _).mono ?_
    rintro e w2 ⟨rfl, hb2⟩
    have t2 := below_boxed hb2
    obtain ⟨hc2, hf2⟩ := bcell hb2
    have hz2' : w.heap.size < w2.heap.size := by have := hb2.size; simp at this; omega
    go_wp2_with (fail)
    refine (specTimes_ok _ _ _ xs R p _ HL.out (hr.up t2 t2.size) (by omega) hx hf).mono ?_
    rintro e w3 hrow
    obtain ⟨A', c', rfl, ho, hb3⟩ := hrow.at_ HLL.out
    have t3 := below_next t2 hb3
    go_wp2
    go_ret
    exact ⟨ret_int H0.out.symm, t3⟩
  · clear hl
    have hne : (((m : Int) + 1) == 0) = false := by simp; omega
    go_enter Tryd.func36, Tryd.ntmps36
    go_wp2_with (fail)
    refine (specCharges_any _ _ _ xs _ HL.out (hr.up ((Below.refl _ _).alloc (Nat.le_refl _) _) (by simp)) (by omega)).mono ?_
    rintro e w' ⟨rfl, rfl⟩
    go_wp2_with (fail)
    refine (specFurn_any _ _ _).mono ?_
    rintro e w2 ⟨rfl, hb2⟩
    have t2 := below_boxed hb2
    obtain ⟨hc2, hf2⟩ := bcell hb2
    have hz2' : w.heap.size < w2.heap.size := by have := hb2.size; simp at this; omega
    go_wp2_with (fail)
    refine (specTimes_ok _ _ _ xs R p _ HL.out (hr.up t2 t2.size) (by omega) hx hf).mono ?_
    rintro e w3 hrow
    obtain ⟨A', c', rfl, ho, hb3⟩ := hrow.at_ HLL.out
    have t3 := below_next t2 hb3
    obtain ⟨⟨a, b⟩, hlast⟩ : ∃ q, (passTimes R p xs)[m]? = some q := ⟨_, List.getElem?_eq_getElem (by have := HLL.out; omega)⟩
    have HT := Lib.hid hlast
    obtain ⟨b', off, rfl, hbB, hd1, hd2⟩ := RdP.of_own ho m a b hlast
    clear hlast
    go_wp2
    go_ret
    exact ⟨ret_int (lastOut_at HLL.out HT.out).symm, t3⟩

theorem specEnd_any (A : Option Addr) (n c : Nat) (xs : List (Int × Int)) (r p : Int) (w : World) (hl : xs.length = n) (hr : RdP w w.heap.size A xs) (hn : n ≤ 1048576) :
    Calls Tryd.prog 36 #[.slice A n c, .agg #[.int .i64 r, .int .i64 p]] w fun e w' => e = .returned (.int .i64 (passEnd xs r p)) ∧ Below w.heap.size w w' := by
  cases h : chargesOk xs && furnOk r p
  · rw [passEnd_no h]
    exact specEnd_no A n c xs r p w hl hr hn h
  · obtain ⟨h1, h2⟩ := Bool.and_eq_true_iff.1 h
    obtain ⟨f1, _⟩ := furnOk_iff.1 h2
    obtain ⟨R, rfl⟩ : ∃ R : Nat, r = R := ⟨r.toNat, by omega⟩
    rw [passEnd_ok h]
    exact specEnd_ok A n c xs R p w hl hr hn h1 h2
end Go.Proofs.YtiddlpgpbafdmaaDoor
