/- What is drawn for the law FnLadleOf: the times at which heats are cast, later. -/
import Derived.Test.YtblbfgoifaddiaaDoorDrawCast
namespace Go.Proofs.YtblbfgoifaddiaaDoor
open Go.RowKit
set_option linter.unusedVariables false
set_option linter.unusedSimpArgs false
theorem own_cellT {w : World} {base g n c : Nat} {e : TypeId} {xs : List Int} (h : w.ownsRow base e 1 (.slice (some ⟨g, 0, none⟩) n c) n (intsV .i64 xs)) {j : Nat} {x : Int} (hj : xs[j]? = some x) : w.cell? ⟨g, j, none⟩ = some (.int .i64 x) := by
  have hc := h.cells (g := g) rfl j (.int .i64 x) (by simp [intsV, hj])
  rw [add_none] at hc
  simpa using hc
set_option maxRecDepth 100000 in
set_option maxHeartbeats 1000000 in
theorem castEnd_any (A : Option Addr) (n c : Nat) (xs : List (Int × Int × Int)) (f s : Int) (w : World) (hl : xs.length = n) (hr : RdT w w.heap.size A xs) (hn : n ≤ 7) :
    Calls Tryd.prog 61 #[.slice A n c, .agg #[.int .i64 f, .int .i64 s]] w fun e w' => ∃ v : Int, e = .returned (.int .i64 v) ∧ Below w.heap.size w w' := by
  have tA : Below w.heap.size w (w.alloc (.cells #[.int .i64 f, .int .i64 s] 25)) := (Below.refl _ _).alloc (Nat.le_refl _) _
  go_enter Tryd.func61, Tryd.ntmps61
  go_wp2_with (fail)
  refine (castTimes_any _ _ _ xs f s _ hl (hr.up tA tA.size) hn).mono ?_
  rintro e w2 ⟨L, hL, hrow⟩
  obtain ⟨m, hm⟩ : ∃ m, L.length = m := ⟨_, rfl⟩
  obtain ⟨A2, c2, rfl, own2, hb2⟩ := hrow.at_ hm
  have t2 := below_boxed hb2
  have hm8 : m ≤ 8 := by omega
  by_cases hm0 : m = 0
  · subst hm0
    go_wp2
    go_ret
    exact ⟨_, rfl, t2⟩
  · obtain ⟨j, rfl⟩ : ∃ j, m = j + 1 := ⟨m - 1, by omega⟩
    obtain ⟨g, cc, hform, -, -⟩ := own_form own2 (by omega)
    injection hform with hA _ hC
    subst hA
    obtain ⟨z, hz⟩ : ∃ z, L[j]? = some z := ⟨_, List.getElem?_eq_getElem (by omega)⟩
    have cc := own_cellT own2 hz
    have B0 : ((j : Int) + 1 == 0) = false := by simp; omega
    clear hrow hb2 own2 hm hL hz hC
    go_wp2
    go_ret
    exact ⟨z, rfl, t2⟩
set_option maxRecDepth 100000 in
set_option maxHeartbeats 1000000 in
theorem castLate_any (A : Option Addr) (n c : Nat) (xs : List (Int × Int × Int)) (f s : Int) (w : World) (hl : xs.length = n) (hr : RdT w w.heap.size A xs) (hn : n ≤ 7) :
    Calls Tryd.prog 50 #[.slice A n c, .agg #[.int .i64 f, .int .i64 s]] w (Times8 w) := by
  obtain ⟨i0, hi, hz0, hz1, hz2⟩ := info_parts info_int
  have HL := Lib.hid hl
  clear hl
  have tA : Below w.heap.size w ((w.alloc (.cells #[.int .i64 f, .int .i64 s] 25)).alloc (.cells #[] 3)) := ((Below.refl _ _).alloc (Nat.le_refl _) _).alloc (by simp) _
  have bxA : BX ((w.alloc (.cells #[.int .i64 f, .int .i64 s] 25)).alloc (.cells #[] 3)) w.heap.size [.int .i64 f, .int .i64 s] := (BX.made _ _).alloc _
  have hoA := own_made0 (w := w.alloc (.cells #[.int .i64 f, .int .i64 s] 25)) (base := w.heap.size + 1) (by simp) 3 1
  have hsA : ((w.alloc (.cells #[.int .i64 f, .int .i64 s] 25)).alloc (.cells #[] 3)).heap.size = w.heap.size + 2 := by simp
  have hs0 : (w.alloc (.cells #[.int .i64 f, .int .i64 s] 25)).heap.size = w.heap.size + 1 := by simp
  rw [hs0] at hoA
  have hrA := hr.up tA tA.size
  go_enter Tryd.func50, Tryd.ntmps50
  go_wp2_with (fail)
  generalize ((w.alloc (.cells #[.int .i64 f, .int .i64 s] 25)).alloc (.cells #[] 3)) = w1 at *
  refine (castEnd_any _ _ _ xs f s _ HL.out hrA hn).mono ?_
  rintro e w2 ⟨en, rfl, hb2⟩
  have t2 := below_next tA hb2
  have bx2 := bxA.below hb2 bxA.lt
  have ho2 := own_below hoA hb2
  have hs2 := hb2.size
  clear hrA tA bxA hoA hb2
  go_wp2_with (fail)
  go_loopw [5, 7] (fun v i wr => ∃ (k : Nat) (A' : Option Addr) (c' : Nat) (L : List Int), k ≤ n + 1 ∧ i = .int .i64 k ∧ v = .slice A' k c' ∧ L.length = k ∧ BX wr w.heap.size [.int .i64 f, .int .i64 s] ∧ wr.ownsRow (w.heap.size + 1) 3 1 (.slice A' k c') k (intsV .i64 L) ∧ Below w.heap.size w wr ∧ w.heap.size + 1 ≤ wr.heap.size) (fun _ i _ => n + 1 - (intOf i).toNat)
  case atStart => exact ⟨0, _, _, [], Nat.zero_le _, rfl, rfl, rfl, bx2, ho2, t2, by omega⟩
  case round =>
    clear bx2 ho2 t2
    obtain ⟨k, A', c', L, hk, rfl, rfl, hL, bx, own, hbel, hsz⟩ := hrel
    have HLL := Lib.hid hL
    clear hL
    by_cases hlt : k ≤ n
    · by_cases hen : 0 ≤ en
      · have c0 := bx.at_ 0 _ rfl
        have OWN := Lib.hid own
        have BXX := Lib.hid bx
        have HB := Lib.hid hbel
        clear bx own hbel
        obtain ⟨a2, ha2⟩ : ∃ q, wrap64 (en - wrap64 (((n : Int) - (k : Int)) * f)) = q := ⟨_, rfl⟩
        go_wp2_with (at_builtin; go_must (refine wpList_append_own_w _ (by rfl) (.tmp 22) (.tmp 32) 26 rfl (w.heap.size + 1) 3 i0 _ 1 8 Tryd.underlying26 hi hz0 hz1 hz2 rfl (by decide) (.slice A' k c') k (intsV .i64 L) rfl (OWN.out.alloc _) ⟨wr.heap.size, 0, none⟩ 1 1 (intsV .i64 [a2]) rfl rfl (cells_one1 (Newest.alloc_ rfl)) intsV_one (by unfold maxLen; omega) (by omega) (by simp; omega) ?_); intro v9 w9 hown9 hgr9 hv9; have hbel9 := (HB.out.alloc (by omega) (.cells #[.int .i64 a2] 3)).grown hgr9 (by simp; omega) (fun q hq => by (have := own_ge OWN.out hq; omega)); have bx9 := (BXX.out.alloc (.cells #[.int .i64 a2] 3)).of_block (hgr9.block w.heap.size (by simp; omega) (fun e => by (have := own_ge OWN.out e.symm; omega))) hgr9.size; have hs9 := hgr9.size; rw [World.size_alloc] at hs9; rw [← intsV_append] at hown9; obtain ⟨g9, c9, rfl, -, -⟩ := own_form hown9 (by omega); clear hgr9 hv9)
        go_roundw
        case rel => exact ⟨k + 1, _, _, L ++ [a2], by omega, by go_num, rfl, by rw [List.length_append, HLL.out]; rfl, bx9, hown9, hbel9, by omega⟩
        case measure => simp [intOf] <;> omega
      · go_wp2
        go_ret
        exact ⟨L, by rw [HLL.out]; omega, IntsRow.mk HLL.out (by omega) own hbel⟩
    · go_wp2
      go_ret
      exact ⟨L, by rw [HLL.out]; omega, IntsRow.mk HLL.out (by omega) own hbel⟩
end Go.Proofs.YtblbfgoifaddiaaDoor
