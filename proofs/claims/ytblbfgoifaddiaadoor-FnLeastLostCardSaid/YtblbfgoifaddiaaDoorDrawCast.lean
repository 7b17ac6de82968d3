/- What is drawn for the law FnLadleOf: the times at which heats are cast. -/
import Derived.Test.YtblbfgoifaddiaaDoorHeatsV
import Derived.Test.YtblbfgoifaddiaaDoorDrawHs
import Derived.BigQuiet
import Derived.Outline
namespace Go.Proofs.YtblbfgoifaddiaaDoor
open Go.RowKit
set_option linter.unusedVariables false
set_option linter.unusedSimpArgs false
set_option maxRecDepth 100000 in
set_option maxHeartbeats 1000000 in
theorem need_any (A : Option Addr) (n c : Nat) (xs : List (Int × Int × Int)) (f s : Int) (k : Nat) (w : World) (hl : xs.length = n) (hr : RdT w w.heap.size A xs) (hn : n ≤ 7) (hk : k ≤ n) :
    Calls Tryd.prog 60 #[.slice A n c, .agg #[.int .i64 f, .int .i64 s], .int .i64 k] w fun e w' => ∃ v : Int, e = .returned (.int .i64 v) ∧ Below w.heap.size w w' := by
  have HL := Lib.hid hl
  clear hl
  have tA : Below w.heap.size w (w.alloc (.cells #[.int .i64 f, .int .i64 s] 25)) := (Below.refl _ _).alloc (Nat.le_refl _) _
  have bx : BX (w.alloc (.cells #[.int .i64 f, .int .i64 s] 25)) w.heap.size [.int .i64 f, .int .i64 s] := BX.made _ _
  go_enter Tryd.func60, Tryd.ntmps60
  go_wp2_with (fail)
  go_loopw [7, 8] (fun u i wr => ∃ (j : Nat) (v : Int), k ≤ j ∧ j ≤ n ∧ u = .int .i64 v ∧ i = .int .i64 j ∧ BX wr w.heap.size [.int .i64 f, .int .i64 s] ∧ Below w.heap.size w wr) (fun _ i _ => n - (intOf i).toNat)
  case atStart => exact ⟨k, 0, Nat.le_refl _, hk, rfl, rfl, bx, tA⟩
  case round =>
    clear bx tA
    obtain ⟨j, v, hkj, hj, rfl, rfl, bx, hbel⟩ := hrel
    by_cases hlt : j < n
    · obtain ⟨⟨x, y, z⟩, hxy⟩ : ∃ q, xs[j]? = some q := ⟨_, List.getElem?_eq_getElem (by have := HL.out; omega)⟩
      obtain ⟨b, off, rfl, hbB, hc1, hc2, hc3⟩ := hr j x y z hxy
      rw [← hbel.cell (by exact hbB)] at hc1 hc2 hc3
      clear hxy hr
      have c1 := bx.at_ 1 _ rfl
      go_wp2_with (fail)
      go_quiet (fail)
      generalize (if v < wrap64 (z - wrap64 (((j : Int) - (k : Int)) * s)) then wrap64 (z - wrap64 (((j : Int) - (k : Int)) * s)) else v) = v2
      have BX2 := Lib.hid (bx.drewN nq)
      clear bx c1
      go_wp2
      go_roundw
      case rel => exact ⟨j + 1, v2, by omega, by omega, rfl, by go_num, BX2.out, below_drawn hbel _⟩
      case measure => simp [intOf] <;> omega
    · go_wp2
      go_ret
      exact ⟨v, rfl, hbel⟩
/-- a row of ints of the call's own, of at most eight -/
def Times8 (w : World) (e : Ending) (w' : World) : Prop := ∃ L : List Int, L.length ≤ 8 ∧ IntsRow 3 L w e w'
set_option maxRecDepth 100000 in
set_option maxHeartbeats 1000000 in
theorem castTimes_any (A : Option Addr) (n c : Nat) (xs : List (Int × Int × Int)) (f s : Int) (w : World) (hl : xs.length = n) (hr : RdT w w.heap.size A xs) (hn : n ≤ 7) :
    Calls Tryd.prog 48 #[.slice A n c, .agg #[.int .i64 f, .int .i64 s]] w (Times8 w) := by
  obtain ⟨i0, hi, hz0, hz1, hz2⟩ := info_parts info_int
  have HL := Lib.hid hl
  clear hl
  have tA : Below w.heap.size w ((w.alloc (.cells #[.int .i64 f, .int .i64 s] 25)).alloc (.cells #[] 3)) := ((Below.refl _ _).alloc (Nat.le_refl _) _).alloc (by simp) _
  have bxA : BX ((w.alloc (.cells #[.int .i64 f, .int .i64 s] 25)).alloc (.cells #[] 3)) w.heap.size [.int .i64 f, .int .i64 s] := (BX.made _ _).alloc _
  have hoA := own_made0 (w := w.alloc (.cells #[.int .i64 f, .int .i64 s] 25)) (base := w.heap.size + 1) (by simp) 3 1
  have hsA : ((w.alloc (.cells #[.int .i64 f, .int .i64 s] 25)).alloc (.cells #[] 3)).heap.size = w.heap.size + 2 := by simp
  have hs0 : (w.alloc (.cells #[.int .i64 f, .int .i64 s] 25)).heap.size = w.heap.size + 1 := by simp
  rw [hs0] at hoA
  have hrA := hr.up tA tA.size
  go_enter Tryd.func48, Tryd.ntmps48
  go_wp2_with (fail)
  generalize ((w.alloc (.cells #[.int .i64 f, .int .i64 s] 25)).alloc (.cells #[] 3)) = w1 at *
  refine (specHeats_any _ _ _ xs _ HL.out hrA (by omega)).mono ?_
  rintro e w2 ⟨rfl, hb2⟩
  have t2 := below_next tA hb2
  have bx2 := bxA.below hb2 bxA.lt
  have ho2 := own_below hoA hb2
  have hs2 := hb2.size
  clear hrA tA bxA hoA hb2
  cases h1 : heatsOk xs
  · go_wp2
    go_ret
    exact ⟨[], by simp, IntsRow.mk rfl (by omega) ho2 t2⟩
  have c0 := bx2.at_ 0 _ rfl
  have c1 := bx2.at_ 1 _ rfl
  go_wp2_with (fail)
  refine (specCaster_any _ _ _).mono ?_
  rintro e w3 ⟨rfl, hb3⟩
  have t3 := below_next t2 hb3
  have bx3 := bx2.below hb3 bx2.lt
  have ho3 := own_below ho2 hb3
  have hs3 := hb3.size
  clear t2 bx2 ho2 hb3 c0 c1
  cases h2 : casterOk f s
  · go_wp2
    go_ret
    exact ⟨[], by simp, IntsRow.mk rfl (by omega) ho3 t3⟩
  go_wp2_with (fail)
  go_loopw [5, 6, 7] (fun v u i wr => ∃ (k : Nat) (A' : Option Addr) (c' : Nat) (L : List Int) (a : Int), k ≤ n ∧ i = .int .i64 k ∧ u = .int .i64 a ∧ v = .slice A' k c' ∧ L.length = k ∧ BX wr w.heap.size [.int .i64 f, .int .i64 s] ∧ wr.ownsRow (w.heap.size + 1) 3 1 (.slice A' k c') k (intsV .i64 L) ∧ Below w.heap.size w wr ∧ w.heap.size + 1 ≤ wr.heap.size) (fun _ _ i _ => n - (intOf i).toNat)
  case atStart => exact ⟨0, _, _, [], 0, Nat.zero_le _, rfl, rfl, rfl, rfl, bx3, ho3, t3, by omega⟩
  case round =>
    clear bx3 ho3 t3 h1 h2
    obtain ⟨k, A', c', L, a, hk, rfl, rfl, rfl, hL, bx, own, hbel, hsz⟩ := hrel
    have HLL := Lib.hid hL
    clear hL
    by_cases hlt : k < n
    · have c0 := bx.at_ 0 _ rfl
      have c1 := bx.at_ 1 _ rfl
      go_wp2_with (fail)
      refine (need_any _ _ _ xs f s k _ HL.out (hr.up hbel hbel.size) hn hk).mono ?_
      rintro e w5 ⟨v, rfl, hb5⟩
      have bx5 := bx.below hb5 bx.lt
      have own5 := own_below own hb5
      have hbel5 := below_next hbel hb5
      have hsz5 : w.heap.size + 1 ≤ w5.heap.size := Nat.le_trans hsz hb5.size
      have OWN := Lib.hid own5
      have BXX := Lib.hid bx5
      have HB := Lib.hid hbel5
      clear c0 c1 bx own hbel hb5 own5 bx5 hbel5
      obtain ⟨a2, ha2⟩ : ∃ q, (if a < v then v else a) = q := ⟨_, rfl⟩
      go_wp2_with (at_builtin; go_must (refine wpList_append_own_w _ (by rfl) (.tmp 30) (.tmp 32) 26 rfl (w.heap.size + 1) 3 i0 _ 1 8 Tryd.underlying26 hi hz0 hz1 hz2 rfl (by decide) (.slice A' k c') k (intsV .i64 L) rfl (OWN.out.alloc _) ⟨w5.heap.size, 0, none⟩ 1 1 (intsV .i64 [a2]) rfl rfl (cells_one1 (Newest.alloc_ rfl)) intsV_one (by unfold maxLen; omega) (by omega) (by simp; omega) ?_); intro v9 w9 hown9 hgr9 hv9; have hbel9 := (HB.out.alloc (by omega) (.cells #[.int .i64 a2] 3)).grown hgr9 (by simp; omega) (fun q hq => by (have := own_ge OWN.out hq; omega)); have bx9 := (BXX.out.alloc (.cells #[.int .i64 a2] 3)).of_block (hgr9.block w.heap.size (by simp; omega) (fun e => by (have := own_ge OWN.out e.symm; omega))) hgr9.size; have hs9 := hgr9.size; rw [World.size_alloc] at hs9; rw [← intsV_append] at hown9; obtain ⟨g9, c9, rfl, -, -⟩ := own_form hown9 (by omega); have d0 := bx9.at_ 0 _ rfl; clear hgr9 hv9)
      go_roundw
      case rel => exact ⟨k + 1, _, _, L ++ [a2], _, by omega, by go_num, rfl, rfl, by rw [List.length_append, HLL.out]; rfl, bx9, hown9, hbel9, by omega⟩
      case measure => simp [intOf] <;> omega
    · obtain rfl : k = n := by omega
      have OWN := Lib.hid own
      have HB := Lib.hid hbel
      clear own hbel bx
      go_wp2_with (at_builtin; go_must (refine wpList_append_own_w _ (by rfl) (.tmp 38) (.tmp 40) 26 rfl (w.heap.size + 1) 3 i0 _ 1 8 Tryd.underlying26 hi hz0 hz1 hz2 rfl (by decide) (.slice A' k c') k (intsV .i64 L) rfl (OWN.out.alloc _) ⟨wr.heap.size, 0, none⟩ 1 1 (intsV .i64 [a]) rfl rfl (cells_one1 (Newest.alloc_ rfl)) intsV_one (by unfold maxLen; omega) (by omega) (by simp; omega) ?_); intro v9 w9 hown9 hgr9 hv9; have hbel9 := (HB.out.alloc (by omega) (.cells #[.int .i64 a] 3)).grown hgr9 (by simp; omega) (fun q hq => by (have := own_ge OWN.out hq; omega)); rw [← intsV_append] at hown9; obtain ⟨g9, c9, rfl, -, -⟩ := own_form hown9 (by omega))
      go_ret
      exact ⟨L ++ [a], by rw [List.length_append, HLL.out]; simp; omega, IntsRow.mk (by rw [List.length_append, HLL.out]; rfl) (by omega) hown9 hbel9⟩
end Go.Proofs.YtblbfgoifaddiaaDoor
