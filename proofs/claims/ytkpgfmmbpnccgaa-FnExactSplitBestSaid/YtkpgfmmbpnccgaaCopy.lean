/- The helpers of the laws: what each of them does, for slices of pairs and for slices of ints. -/
import Derived.Test.YtkpgfmmbpnccgaaMem
import Derived.Test.YtkpgfmmbpnccgaaProg
import Derived.Test.YtkpgfmmbpnccgaaLeaf
import Derived.StillTailTactics
import Derived.Deep.QuietTactic
import Derived.BigQuiet
import Derived.Lib.Hide
namespace Go.Proofs.Ytkpgfmmbpnccgaa
open Go.RowKit
set_option linter.unusedVariables false

/-- the marks that are written into pairs, from k on -/
def marksP (k : Int) (n : Nat) : List (Int × Int) := (List.range n).map fun (i : Nat) => (k + 2 * (i : Int), k + 2 * (i : Int) + 1)
def marksI (k : Int) (n : Nat) : List Int := (List.range n).map fun (i : Nat) => k + (i : Int)
def szOf (left : Int) (n : Nat) : Int := if left < n then -1 else left - n
theorem szOf_neg {left : Int} {n : Nat} (h : left < n) : -1 = szOf left n := by rw [szOf, if_pos h]
theorem szOf_ok {left : Int} {n : Nat} (h : (n : Int) ≤ left) : left - n = szOf left n := by rw [szOf, if_neg (by omega)]
theorem marksP_length (k : Int) (n : Nat) : (marksP k n).length = n := by simp [marksP]
theorem marksI_length (k : Int) (n : Nat) : (marksI k n).length = n := by simp [marksI]
theorem marksP_get {k : Int} {n j : Nat} (h : j < n) : (marksP k n)[j]? = some (k + 2 * (j : Int), k + 2 * (j : Int) + 1) := by simp [marksP, h]
theorem marksI_get {k : Int} {n j : Nat} (h : j < n) : (marksI k n)[j]? = some (k + (j : Int)) := by simp [marksI, h]
theorem marks_step {α : Type} {f : Nat → α} {xs : List α} {j n : Nat} (hl : xs.length = n) (hj : j < n) : ((List.range j).map f ++ xs.drop j).set j (f j) = (List.range (j + 1)).map f ++ xs.drop (j + 1) := by
  rw [List.range_succ, List.map_append, List.set_append_right _ _ (by simp)]
  have : j - ((List.range j).map f).length = 0 := by simp
  rw [this, List.drop_eq_getElem_cons (by omega : j < xs.length)]
  simp only [List.set_cons_zero, List.append_assoc, List.singleton_append, List.map_cons, List.map_nil]
theorem grown_set {a w : World} {g : Nat} (h : a.grownBy w (some g)) (i : Nat) (u : Value) : a.grownBy (w.setCell ⟨g, i, none⟩ u) (some g) :=
  ⟨h.os, h.tape, h.output, by simpa using h.size, fun k hk hne => (Below.heap_setCell w ⟨g, i, none⟩ u k (fun e => hne (by rw [e]))).trans (h.block k hk hne)⟩
theorem grown_below {B : Nat} {a w w' : World} {row : Option Nat} (h : Below B a w) (hg : w.grownBy w' row) (hB : B ≤ w.heap.size) (hr : ∀ k, row = some k → B ≤ k) : Below B a w' := h.grown hg hB hr

theorem szChargeS_any (A : Option Addr) (n c : Nat) (left : Int) (w : World) (h0 : 0 ≤ left) (h1 : left ≤ 1048576) (hn : n ≤ maxLen) :
    Calls Try.prog 25 #[.slice A n c, .int .i64 left] w fun e w' => e = .returned (.int .i64 (szOf left n)) ∧ w = w' := by
  unfold maxLen at hn
  by_cases h : left < (n : Int)
  · go_enter Try.func25, Try.ntmps25
    go_wp2
    go_ret
    exact ⟨ret_int (szOf_neg h), rfl⟩
  · go_enter Try.func25, Try.ntmps25
    go_wp2
    go_ret
    exact ⟨ret_int (szOf_ok (by omega)), rfl⟩
theorem info_Charge : (Try.prog.info? 57).map (fun i => (i.zero, i.size, i.bytes)) = some (some (.agg #[.int .i64 0, .int .i64 0]), 2, 16) := by kernel_rfl
theorem toCharge_any (x y : Int) (w : World) : Calls Try.prog 54 #[.agg #[.int .i64 x, .int .i64 y]] w fun e w' => e = .returned (.agg #[.int .i64 x, .int .i64 y]) ∧ Below w.heap.size w w' := by
  go_enter Try.func54, Try.ntmps54
  go_wp2
  exact bodyPost_ret (v := .agg #[.int .i64 x, .int .i64 y]) (by simp [results, Try.results54, go_sem]) rfl ⟨rfl, (by repeat' (first | exact Below.refl _ _ | assumption | refine Below.alloc ?_ (by first | omega | (simp; done) | (simp; omega)) _ | refine Below.setCell ?_ (by first | omega | (simp; done) | (simp; omega)) _ | refine Below.drew ?_ | refine below_drawn ?_ _))⟩
theorem toChargeS_any (A : Option Addr) (n c : Nat) (xs : List (Int × Int)) (w : World) (hl : xs.length = n) (hr : RdP w w.heap.size A xs) (hn : n ≤ 1048576) :
    Calls Try.prog 27 #[.slice A n c] w fun e w' => e = .returned (.slice (some ⟨w.heap.size, 0, none⟩) n n) ∧ w'.ownsRow w.heap.size 57 2 (.slice (some ⟨w.heap.size, 0, none⟩) n n) n (pairsV xs) ∧ Below w.heap.size w w' := by
  obtain ⟨i0, hi, hz0, hz1, hz2⟩ := info_parts info_Charge
  go_enter Try.func27, Try.ntmps27
  go_wp2_with (at_make; refine wpList_make_full _ rfl _ _ 35 rfl w.heap.size 57 i0 _ 2 Try.underlying35 hi hz0 hz1 .i64 .i64 _ _ n rfl rfl rfl rfl (by rw [hz2]; omega) (by unfold maxLen; omega) (Nat.le_refl _) ?_; intro w1 hown1 hgr1)
  rw [madeP] at hown1
  go_loopw [4] (fun i wr => ∃ k : Nat, k ≤ n ∧ i = .int .i64 k ∧ wr.ownsRow w.heap.size 57 2 (.slice (some ⟨w.heap.size, 0, none⟩) n n) n (pairsV (xs.take k ++ List.replicate (n - k) (0, 0))) ∧ Below w.heap.size w wr) (fun i _ => n - (intOf i).toNat)
  case atStart => exact ⟨0, Nat.zero_le _, rfl, by simpa using hown1, (Below.refl _ _).grown hgr1 (Nat.le_refl _) (by simp)⟩
  case round =>
    obtain ⟨k, hk, rfl, hown, hbel⟩ := hrel
    clear hown1 hgr1
    by_cases hlt : k < n
    · obtain ⟨⟨x, y⟩, hxy⟩ : ∃ q, xs[k]? = some q := ⟨_, List.getElem?_eq_getElem (by omega)⟩
      obtain ⟨b, off, rfl, hbB, hc1, hc2⟩ := hr k x y hxy
      have HXY := Lib.hid hxy
      have HL := Lib.hid hl
      clear hxy hl hr
      rw [← hbel.cell (by exact hbB)] at hc1 hc2
      go_wp2_with (fail)
      refine (toCharge_any _ _ _).mono ?_
      rintro e w1 ⟨rfl, hb1⟩
      have hown1 := own_below hown hb1
      have f1 := hown1.frozenAt (k * 2)
      have f2 := hown1.frozenAt (k * 2 + 1)
      obtain ⟨u1, g1⟩ : ∃ u, w1.cell? ⟨w.heap.size, k * 2, none⟩ = some u := ⟨_, (hown1.cellAt (k * 2) (by omega)).trans (List.getElem?_eq_getElem (by have := hown1.1; omega))⟩
      obtain ⟨u2, g2⟩ : ∃ u, w1.cell? ⟨w.heap.size, k * 2 + 1, none⟩ = some u := ⟨_, (hown1.cellAt (k * 2 + 1) (by omega)).trans (List.getElem?_eq_getElem (by have := hown1.1; omega))⟩
      go_wp2
      go_roundw
      case rel =>
        refine ⟨k + 1, by omega, by go_num, ?_, ?_⟩
        · rw [← fill_step HL.out HXY.out]
          exact own_set2 hown1 (by have := HL.out; simp; omega)
        · exact ((hbel.trans (hb1.mono hbel.size)).setCell (by simp) _).setCell (by simp) _
      case measure => simp [intOf]; omega
    · go_wp2
      go_ret
      have : k = n := by omega
      subst this
      refine ⟨rfl, ?_, hbel⟩
      simpa [List.take_of_length_le (Nat.le_of_eq hl)] using hown
theorem eqCharge_same (x y : Int) (w : World) : Calls Try.prog 55 #[.agg #[.int .i64 x, .int .i64 y], .agg #[.int .i64 x, .int .i64 y]] w fun e w' => e = .returned (.bool true) ∧ Below w.heap.size w w' := by
  go_enter Try.func55, Try.ntmps55
  go_wp2
  go_ret
  exact ⟨rfl, (by repeat' (first | exact Below.refl _ _ | assumption | refine Below.alloc ?_ (by first | omega | (simp; done) | (simp; omega)) _ | refine Below.setCell ?_ (by first | omega | (simp; done) | (simp; omega)) _ | refine Below.drew ?_ | refine below_drawn ?_ _))⟩
theorem eqChargeS_same (A A' : Option Addr) (n c c' : Nat) (xs : List (Int × Int)) (w : World) (hl : xs.length = n) (hr : RdP w w.heap.size A xs) (hr' : RdP w w.heap.size A' xs) (hn : n ≤ 1048576) :
    Calls Try.prog 29 #[.slice A n c, .slice A' n c'] w fun e w' => e = .returned (.bool true) ∧ Below w.heap.size w w' := by
  go_enter Try.func29, Try.ntmps29
  go_wp2
  go_loopw [5] (fun i wr => ∃ k : Nat, k ≤ n ∧ i = .int .i64 k ∧ Below w.heap.size w wr) (fun i _ => n - (intOf i).toNat)
  case atStart => exact ⟨0, Nat.zero_le _, rfl, Below.refl _ _⟩
  case round =>
    obtain ⟨k, hk, rfl, hbel⟩ := hrel
    by_cases hlt : k < n
    · obtain ⟨⟨x, y⟩, hxy⟩ : ∃ q, xs[k]? = some q := ⟨_, List.getElem?_eq_getElem (by omega)⟩
      obtain ⟨b, off, rfl, hbB, hc1, hc2⟩ := hr k x y hxy
      obtain ⟨b', off', rfl, hbB', hd1, hd2⟩ := hr' k x y hxy
      clear hxy hl hr hr'
      rw [← hbel.cell (by exact hbB)] at hc1 hc2
      rw [← hbel.cell (by exact hbB')] at hd1 hd2
      go_wp2_with (fail)
      go_still_tail 8, (by kernel_rfl)
      change wpList _ _ _ _ _ wr.drew
      generalize hw2 : wr.drew = w2
      have hb2 : Below w.heap.size w w2 := by rw [← hw2]; exact hbel.drew
      clear hw2
      go_wp2_with (go_at_call 55; refine (eqCharge_same _ _ _).mono ?_; rintro e w1 ⟨rfl, hb1⟩)
      go_roundw
      case rel => exact ⟨k + 1, by omega, by go_num, hb2.trans (hb1.mono hb2.size)⟩
      case measure => simp [intOf]; omega
    · go_wp2
      go_ret
      exact ⟨rfl, hbel⟩
theorem markChargeS_any (A : Option Addr) (n c : Nat) (k0 : Int) (xs : List (Int × Int)) (base : Nat) (w : World) (hown : w.ownsRow base 57 2 (.slice A n c) n (pairsV xs)) (hn : n ≤ 1048576) (h0 : 0 ≤ k0) (h1 : k0 ≤ 10000000) :
    Calls Try.prog 41 #[.slice A n c, .int .i64 k0] w fun e w' => e = .returned (.int .i64 (k0 + 2 * n)) ∧ w'.ownsRow base 57 2 (.slice A n c) n (pairsV (marksP k0 n)) ∧ w.grownBy w' (Value.slice A n c).ownBlock := by
  have hlen : xs.length = n := by have := hown.1; rw [pairsV_length] at this; omega
  rcases hown.2 with ⟨hv, hn0⟩ | ⟨g, cap, cur, hv, _⟩
  · injection hv with hA _ hc
    subst hA hn0
    go_enter Try.func41, Try.ntmps41
    go_wp2
    go_loopw [1, 5] (fun t i wr => t = .int .i64 k0 ∧ i = .int .i64 (0 : Int) ∧ wr = w) (fun _ _ _ => 0)
    case atStart => exact ⟨rfl, rfl, rfl⟩
    case round =>
      obtain ⟨rfl, rfl, rfl⟩ := hrel
      go_wp2
      go_ret
      refine ⟨ret_int (by simp), ?_, World.grownBy.refl _ _⟩
      have : xs = [] := List.eq_nil_of_length_eq_zero hlen
      subst this
      exact hown
  · injection hv with hA _ hc
    subst hA
    have HL := Lib.hid hlen
    clear hlen
    go_enter Try.func41, Try.ntmps41
    go_wp2
    go_loopw [1, 5] (fun t i wr => ∃ j : Nat, j ≤ n ∧ i = .int .i64 j ∧ t = .int .i64 (k0 + 2 * (j : Int)) ∧ wr.ownsRow base 57 2 (.slice (some ⟨g, 0, none⟩) n c) n (pairsV (marksP k0 j ++ xs.drop j)) ∧ w.grownBy wr (some g)) (fun _ i _ => n - (intOf i).toNat)
    case atStart => exact ⟨0, Nat.zero_le _, rfl, by simp, by simpa [marksP] using hown, World.grownBy.refl _ _⟩
    case round =>
      obtain ⟨j, hj, rfl, rfl, hownr, hgr⟩ := hrel
      by_cases hlt : j < n
      · have f1 := hownr.frozenAt (j * 2)
        have f2 := hownr.frozenAt (j * 2 + 1)
        obtain ⟨u1, g1⟩ : ∃ u, wr.cell? ⟨g, j * 2, none⟩ = some u := ⟨_, (hownr.cellAt (j * 2) (by omega)).trans (List.getElem?_eq_getElem (by have := hownr.1; omega))⟩
        obtain ⟨u2, g2⟩ : ∃ u, wr.cell? ⟨g, j * 2 + 1, none⟩ = some u := ⟨_, (hownr.cellAt (j * 2 + 1) (by omega)).trans (List.getElem?_eq_getElem (by have := hownr.1; omega))⟩
        go_wp2
        go_roundw
        case rel =>
          refine ⟨j + 1, by omega, by go_num, by go_num, ?_, grown_set (grown_set hgr _ _) _ _⟩
          have e := marks_step (f := fun i : Nat => (k0 + 2 * (i : Int), k0 + 2 * (i : Int) + 1)) HL.out hlt
          rw [show marksP k0 (j + 1) ++ xs.drop (j + 1) = (marksP k0 j ++ xs.drop j).set j (k0 + 2 * (j : Int), k0 + 2 * (j : Int) + 1) from e.symm]
          exact own_set2 hownr (by have := HL.out; simp [marksP_length]; omega)
        case measure => simp [intOf]; omega
      · go_wp2
        go_ret
        have : j = n := by omega
        subst this
        refine ⟨rfl, ?_, hgr⟩
        simpa [List.drop_of_length_le (Nat.le_of_eq HL.out)] using hownr
theorem szPassS_any (A : Option Addr) (n c : Nat) (left : Int) (w : World) (h0 : 0 ≤ left) (h1 : left ≤ 1048576) (hn : n ≤ maxLen) :
    Calls Try.prog 34 #[.slice A n c, .int .i64 left] w fun e w' => e = .returned (.int .i64 (szOf left n)) ∧ w = w' := by
  unfold maxLen at hn
  by_cases h : left < (n : Int)
  · go_enter Try.func34, Try.ntmps34
    go_wp2
    go_ret
    exact ⟨ret_int (szOf_neg h), rfl⟩
  · go_enter Try.func34, Try.ntmps34
    go_wp2
    go_ret
    exact ⟨ret_int (szOf_ok (by omega)), rfl⟩
theorem info_Pass : (Try.prog.info? 62).map (fun i => (i.zero, i.size, i.bytes)) = some (some (.agg #[.int .i64 0, .int .i64 0]), 2, 16) := by kernel_rfl
theorem toPass_any (x y : Int) (w : World) : Calls Try.prog 56 #[.agg #[.int .i64 x, .int .i64 y]] w fun e w' => e = .returned (.agg #[.int .i64 x, .int .i64 y]) ∧ Below w.heap.size w w' := by
  go_enter Try.func56, Try.ntmps56
  go_wp2
  exact bodyPost_ret (v := .agg #[.int .i64 x, .int .i64 y]) (by simp [results, Try.results56, go_sem]) rfl ⟨rfl, (by repeat' (first | exact Below.refl _ _ | assumption | refine Below.alloc ?_ (by first | omega | (simp; done) | (simp; omega)) _ | refine Below.setCell ?_ (by first | omega | (simp; done) | (simp; omega)) _ | refine Below.drew ?_ | refine below_drawn ?_ _))⟩
theorem toPassS_any (A : Option Addr) (n c : Nat) (xs : List (Int × Int)) (w : World) (hl : xs.length = n) (hr : RdP w w.heap.size A xs) (hn : n ≤ 1048576) :
    Calls Try.prog 36 #[.slice A n c] w fun e w' => e = .returned (.slice (some ⟨w.heap.size, 0, none⟩) n n) ∧ w'.ownsRow w.heap.size 62 2 (.slice (some ⟨w.heap.size, 0, none⟩) n n) n (pairsV xs) ∧ Below w.heap.size w w' := by
  obtain ⟨i0, hi, hz0, hz1, hz2⟩ := info_parts info_Pass
  go_enter Try.func36, Try.ntmps36
  go_wp2_with (at_make; refine wpList_make_full _ rfl _ _ 44 rfl w.heap.size 62 i0 _ 2 Try.underlying44 hi hz0 hz1 .i64 .i64 _ _ n rfl rfl rfl rfl (by rw [hz2]; omega) (by unfold maxLen; omega) (Nat.le_refl _) ?_; intro w1 hown1 hgr1)
  rw [madeP] at hown1
  go_loopw [4] (fun i wr => ∃ k : Nat, k ≤ n ∧ i = .int .i64 k ∧ wr.ownsRow w.heap.size 62 2 (.slice (some ⟨w.heap.size, 0, none⟩) n n) n (pairsV (xs.take k ++ List.replicate (n - k) (0, 0))) ∧ Below w.heap.size w wr) (fun i _ => n - (intOf i).toNat)
  case atStart => exact ⟨0, Nat.zero_le _, rfl, by simpa using hown1, (Below.refl _ _).grown hgr1 (Nat.le_refl _) (by simp)⟩
  case round =>
    obtain ⟨k, hk, rfl, hown, hbel⟩ := hrel
    clear hown1 hgr1
    by_cases hlt : k < n
    · obtain ⟨⟨x, y⟩, hxy⟩ : ∃ q, xs[k]? = some q := ⟨_, List.getElem?_eq_getElem (by omega)⟩
      obtain ⟨b, off, rfl, hbB, hc1, hc2⟩ := hr k x y hxy
      have HXY := Lib.hid hxy
      have HL := Lib.hid hl
      clear hxy hl hr
      rw [← hbel.cell (by exact hbB)] at hc1 hc2
      go_wp2_with (fail)
      refine (toPass_any _ _ _).mono ?_
      rintro e w1 ⟨rfl, hb1⟩
      have hown1 := own_below hown hb1
      have f1 := hown1.frozenAt (k * 2)
      have f2 := hown1.frozenAt (k * 2 + 1)
      obtain ⟨u1, g1⟩ : ∃ u, w1.cell? ⟨w.heap.size, k * 2, none⟩ = some u := ⟨_, (hown1.cellAt (k * 2) (by omega)).trans (List.getElem?_eq_getElem (by have := hown1.1; omega))⟩
      obtain ⟨u2, g2⟩ : ∃ u, w1.cell? ⟨w.heap.size, k * 2 + 1, none⟩ = some u := ⟨_, (hown1.cellAt (k * 2 + 1) (by omega)).trans (List.getElem?_eq_getElem (by have := hown1.1; omega))⟩
      go_wp2
      go_roundw
      case rel =>
        refine ⟨k + 1, by omega, by go_num, ?_, ?_⟩
        · rw [← fill_step HL.out HXY.out]
          exact own_set2 hown1 (by have := HL.out; simp; omega)
        · exact ((hbel.trans (hb1.mono hbel.size)).setCell (by simp) _).setCell (by simp) _
      case measure => simp [intOf]; omega
    · go_wp2
      go_ret
      have : k = n := by omega
      subst this
      refine ⟨rfl, ?_, hbel⟩
      simpa [List.take_of_length_le (Nat.le_of_eq hl)] using hown
theorem eqPass_same (x y : Int) (w : World) : Calls Try.prog 57 #[.agg #[.int .i64 x, .int .i64 y], .agg #[.int .i64 x, .int .i64 y]] w fun e w' => e = .returned (.bool true) ∧ Below w.heap.size w w' := by
  go_enter Try.func57, Try.ntmps57
  go_wp2
  go_ret
  exact ⟨rfl, (by repeat' (first | exact Below.refl _ _ | assumption | refine Below.alloc ?_ (by first | omega | (simp; done) | (simp; omega)) _ | refine Below.setCell ?_ (by first | omega | (simp; done) | (simp; omega)) _ | refine Below.drew ?_ | refine below_drawn ?_ _))⟩
theorem eqPassS_same (A A' : Option Addr) (n c c' : Nat) (xs : List (Int × Int)) (w : World) (hl : xs.length = n) (hr : RdP w w.heap.size A xs) (hr' : RdP w w.heap.size A' xs) (hn : n ≤ 1048576) :
    Calls Try.prog 38 #[.slice A n c, .slice A' n c'] w fun e w' => e = .returned (.bool true) ∧ Below w.heap.size w w' := by
  go_enter Try.func38, Try.ntmps38
  go_wp2
  go_loopw [5] (fun i wr => ∃ k : Nat, k ≤ n ∧ i = .int .i64 k ∧ Below w.heap.size w wr) (fun i _ => n - (intOf i).toNat)
  case atStart => exact ⟨0, Nat.zero_le _, rfl, Below.refl _ _⟩
  case round =>
    obtain ⟨k, hk, rfl, hbel⟩ := hrel
    by_cases hlt : k < n
    · obtain ⟨⟨x, y⟩, hxy⟩ : ∃ q, xs[k]? = some q := ⟨_, List.getElem?_eq_getElem (by omega)⟩
      obtain ⟨b, off, rfl, hbB, hc1, hc2⟩ := hr k x y hxy
      obtain ⟨b', off', rfl, hbB', hd1, hd2⟩ := hr' k x y hxy
      clear hxy hl hr hr'
      rw [← hbel.cell (by exact hbB)] at hc1 hc2
      rw [← hbel.cell (by exact hbB')] at hd1 hd2
      go_wp2_with (fail)
      go_still_tail 8, (by kernel_rfl)
      change wpList _ _ _ _ _ wr.drew
      generalize hw2 : wr.drew = w2
      have hb2 : Below w.heap.size w w2 := by rw [← hw2]; exact hbel.drew
      clear hw2
      go_wp2_with (go_at_call 57; refine (eqPass_same _ _ _).mono ?_; rintro e w1 ⟨rfl, hb1⟩)
      go_roundw
      case rel => exact ⟨k + 1, by omega, by go_num, hb2.trans (hb1.mono hb2.size)⟩
      case measure => simp [intOf]; omega
    · go_wp2
      go_ret
      exact ⟨rfl, hbel⟩
theorem markPassS_any (A : Option Addr) (n c : Nat) (k0 : Int) (xs : List (Int × Int)) (base : Nat) (w : World) (hown : w.ownsRow base 62 2 (.slice A n c) n (pairsV xs)) (hn : n ≤ 1048576) (h0 : 0 ≤ k0) (h1 : k0 ≤ 10000000) :
    Calls Try.prog 42 #[.slice A n c, .int .i64 k0] w fun e w' => e = .returned (.int .i64 (k0 + 2 * n)) ∧ w'.ownsRow base 62 2 (.slice A n c) n (pairsV (marksP k0 n)) ∧ w.grownBy w' (Value.slice A n c).ownBlock := by
  have hlen : xs.length = n := by have := hown.1; rw [pairsV_length] at this; omega
  rcases hown.2 with ⟨hv, hn0⟩ | ⟨g, cap, cur, hv, _⟩
  · injection hv with hA _ hc
    subst hA hn0
    go_enter Try.func42, Try.ntmps42
    go_wp2
    go_loopw [1, 5] (fun t i wr => t = .int .i64 k0 ∧ i = .int .i64 (0 : Int) ∧ wr = w) (fun _ _ _ => 0)
    case atStart => exact ⟨rfl, rfl, rfl⟩
    case round =>
      obtain ⟨rfl, rfl, rfl⟩ := hrel
      go_wp2
      go_ret
      refine ⟨ret_int (by simp), ?_, World.grownBy.refl _ _⟩
      have : xs = [] := List.eq_nil_of_length_eq_zero hlen
      subst this
      exact hown
  · injection hv with hA _ hc
    subst hA
    have HL := Lib.hid hlen
    clear hlen
    go_enter Try.func42, Try.ntmps42
    go_wp2
    go_loopw [1, 5] (fun t i wr => ∃ j : Nat, j ≤ n ∧ i = .int .i64 j ∧ t = .int .i64 (k0 + 2 * (j : Int)) ∧ wr.ownsRow base 62 2 (.slice (some ⟨g, 0, none⟩) n c) n (pairsV (marksP k0 j ++ xs.drop j)) ∧ w.grownBy wr (some g)) (fun _ i _ => n - (intOf i).toNat)
    case atStart => exact ⟨0, Nat.zero_le _, rfl, by simp, by simpa [marksP] using hown, World.grownBy.refl _ _⟩
    case round =>
      obtain ⟨j, hj, rfl, rfl, hownr, hgr⟩ := hrel
      by_cases hlt : j < n
      · have f1 := hownr.frozenAt (j * 2)
        have f2 := hownr.frozenAt (j * 2 + 1)
        obtain ⟨u1, g1⟩ : ∃ u, wr.cell? ⟨g, j * 2, none⟩ = some u := ⟨_, (hownr.cellAt (j * 2) (by omega)).trans (List.getElem?_eq_getElem (by have := hownr.1; omega))⟩
        obtain ⟨u2, g2⟩ : ∃ u, wr.cell? ⟨g, j * 2 + 1, none⟩ = some u := ⟨_, (hownr.cellAt (j * 2 + 1) (by omega)).trans (List.getElem?_eq_getElem (by have := hownr.1; omega))⟩
        go_wp2
        go_roundw
        case rel =>
          refine ⟨j + 1, by omega, by go_num, by go_num, ?_, grown_set (grown_set hgr _ _) _ _⟩
          have e := marks_step (f := fun i : Nat => (k0 + 2 * (i : Int), k0 + 2 * (i : Int) + 1)) HL.out hlt
          rw [show marksP k0 (j + 1) ++ xs.drop (j + 1) = (marksP k0 j ++ xs.drop j).set j (k0 + 2 * (j : Int), k0 + 2 * (j : Int) + 1) from e.symm]
          exact own_set2 hownr (by have := HL.out; simp [marksP_length]; omega)
        case measure => simp [intOf]; omega
      · go_wp2
        go_ret
        have : j = n := by omega
        subst this
        refine ⟨rfl, ?_, hgr⟩
        simpa [List.drop_of_length_le (Nat.le_of_eq HL.out)] using hownr
theorem heldPassS_any (A : Option Addr) (n c : Nat) (k0 : Int) (B : Nat) (w : World) (hr : RdP w B A (marksP k0 n)) (hn : n ≤ 1048576) (h0 : 0 ≤ k0) (h1 : k0 ≤ 10000000) :
    Calls Try.prog 43 #[.slice A n c, .int .i64 k0] w fun e w' => e = .returned (.int .i64 (k0 + 2 * n)) ∧ w = w' := by
  go_enter Try.func43, Try.ntmps43
  go_wp2
  go_loop [1, 5] (fun t i => ∃ j : Nat, j ≤ n ∧ i = .int .i64 j ∧ t = .int .i64 (k0 + 2 * (j : Int))) (fun _ i => n - (intOf i).toNat)
  case atStart => exact ⟨0, Nat.zero_le _, rfl, by simp⟩
  case round =>
    obtain ⟨j, hj, rfl, rfl⟩ := hrel
    by_cases hlt : j < n
    · obtain ⟨b, off, rfl, hbB, hc1, hc2⟩ := hr j _ _ (marksP_get hlt)
      clear hr
      go_wp2
      go_round
      case rel => exact ⟨j + 1, by omega, by go_num, by go_num⟩
      case measure => simp [intOf]; omega
    · go_wp2
      go_ret
      exact ⟨ret_int (by omega), rfl⟩
theorem toFurnace_any (x y : Int) (w : World) : Calls Try.prog 19 #[.agg #[.int .i64 x, .int .i64 y]] w fun e w' => e = .returned (.agg #[.int .i64 x, .int .i64 y]) ∧ Below w.heap.size w w' := by
  go_enter Try.func19, Try.ntmps19
  go_wp2
  exact bodyPost_ret (v := .agg #[.int .i64 x, .int .i64 y]) (by simp [results, Try.results19, go_sem]) rfl ⟨rfl, (by repeat' (first | exact Below.refl _ _ | assumption | refine Below.alloc ?_ (by first | omega | (simp; done) | (simp; omega)) _ | refine Below.setCell ?_ (by first | omega | (simp; done) | (simp; omega)) _ | refine Below.drew ?_ | refine below_drawn ?_ _))⟩
end Go.Proofs.Ytkpgfmmbpnccgaa
