/- What is drawn for the laws FnPassesOk and FnPassOver. -/
import Derived.Test.YtiddlpgpbafdmaaDoorDrawPa
namespace Go.Proofs.YtiddlpgpbafdmaaDoor
open Go.RowKit
set_option linter.unusedVariables false
set_option maxHeartbeats 1000000 in
theorem dDrawPassesOk_st {w : World} {A : Option Addr} {n c : Nat} {xs : List Int} (hl : xs.length = n) (hc : n ≤ c) (rd : RdI .u8 w w.heap.size A xs) (hn : n ≤ 1048576) (hx : ∀ x ∈ xs, 0 ≤ x ∧ x ≤ 255) :
    Calls Tryd.prog 42 #[.slice A n c] w fun e w' => DrawnPa w e w' ∧ Below w.heap.size w w' := by
  have b2 : Below w.heap.size w (w.alloc (.cells #[.int .i64 0, .int .i64 0] 24)) := (Below.refl _ w).alloc (Nat.le_refl _) _
  go_enter Tryd.func42, Tryd.ntmps42
  go_wp2_with (fail)
  refine (open_st hl hc (rd.up b2 b2.size) hn hx).mono ?_
  rintro e w3 ⟨rfl, st3, hz3⟩
  rw [World.size_alloc] at st3 hz3
  have hs2 : (w.alloc (.cells #[.int .i64 0, .int .i64 0] 24)).heap.size = w.heap.size + 1 := World.size_alloc _ _
  have d0 : (w.alloc (.cells #[.int .i64 0, .int .i64 0] 24)).cell? ⟨w.heap.size, 0, none⟩ = some (.int .i64 0) := by go_simp
  have d1 : (w.alloc (.cells #[.int .i64 0, .int .i64 0] 24)).cell? ⟨w.heap.size, 1, none⟩ = some (.int .i64 0) := by go_simp
  have g0 : (w.alloc (.cells #[.int .i64 0, .int .i64 0] 24)).frozen? ⟨w.heap.size, 0, none⟩ = false := by go_simp
  have g1 : (w.alloc (.cells #[.int .i64 0, .int .i64 0] 24)).frozen? ⟨w.heap.size, 1, none⟩ = false := by go_simp
  generalize w.alloc (.cells #[.int .i64 0, .int .i64 0] 24) = w2 at st3 b2 hs2 d0 d1 g0 g1
  clear rd hx hl hc
  go_wp2_with (fail)
  refine (passes_st st3 (by omega)).mono ?_
  rintro e w4 ⟨⟨A4, n4, c4, L, r, p, A5, n5, c5, M, rfl, hL, hn9, hM, hn5, o1, o2⟩, K', hK', st4⟩
  have hs4 := st4.gr.size
  obtain ⟨c0, c1, f0, f1⟩ := cell2 (st4.gr.block w.heap.size (by omega) (by simp)) d0 d1 g0 g1
  have b5 : Below w.heap.size w w4 := b2.trans (st4.below (by omega) (by omega))
  have ownL := own_lower (base' := w.heap.size) (own_two (b := w.heap.size) o1 (by omega) (.int .i64 r) (.int .i64 p)) (by omega)
  have ownM := own_lower (base' := w.heap.size) (own_two (b := w.heap.size) o2 (by omega) (.int .i64 r) (.int .i64 p)) (by omega)
  clear b2 st3 st4 d0 d1 g0 g1 o1 o2
  go_wp2
  exact bodyPost_ret (v := .tuple #[.slice A4 n4 c4, .agg #[.int .i64 r, .int .i64 p], .slice A5 n5 c5]) (by simp [results, Tryd.results42, go_sem, c0, c1]) rfl ⟨⟨A4, n4, c4, L, r, p, A5, n5, c5, M, rfl, hL, hn9, hM, hn5, ownL, ownM⟩, b5.trans (below_set2 _ _ _ _)⟩
set_option maxHeartbeats 1000000 in
theorem dDrawPassOver_st {w : World} {A : Option Addr} {n c : Nat} {xs : List Int} (hl : xs.length = n) (hc : n ≤ c) (rd : RdI .u8 w w.heap.size A xs) (hn : n ≤ 1048576) (hx : ∀ x ∈ xs, 0 ≤ x ∧ x ≤ 255) :
    Calls Tryd.prog 44 #[.slice A n c] w fun e w' => DrawnPa w e w' ∧ Below w.heap.size w w' := by
  have b2 : Below w.heap.size w (w.alloc (.cells #[.int .i64 0, .int .i64 0] 24)) := (Below.refl _ w).alloc (Nat.le_refl _) _
  go_enter Tryd.func44, Tryd.ntmps44
  go_wp2_with (fail)
  refine (open_st hl hc (rd.up b2 b2.size) hn hx).mono ?_
  rintro e w3 ⟨rfl, st3, hz3⟩
  rw [World.size_alloc] at st3 hz3
  have hs2 : (w.alloc (.cells #[.int .i64 0, .int .i64 0] 24)).heap.size = w.heap.size + 1 := World.size_alloc _ _
  have d0 : (w.alloc (.cells #[.int .i64 0, .int .i64 0] 24)).cell? ⟨w.heap.size, 0, none⟩ = some (.int .i64 0) := by go_simp
  have d1 : (w.alloc (.cells #[.int .i64 0, .int .i64 0] 24)).cell? ⟨w.heap.size, 1, none⟩ = some (.int .i64 0) := by go_simp
  have g0 : (w.alloc (.cells #[.int .i64 0, .int .i64 0] 24)).frozen? ⟨w.heap.size, 0, none⟩ = false := by go_simp
  have g1 : (w.alloc (.cells #[.int .i64 0, .int .i64 0] 24)).frozen? ⟨w.heap.size, 1, none⟩ = false := by go_simp
  generalize w.alloc (.cells #[.int .i64 0, .int .i64 0] 24) = w2 at st3 b2 hs2 d0 d1 g0 g1
  clear rd hx hl hc
  go_wp2_with (fail)
  refine (passes_st st3 (by omega)).mono ?_
  rintro e w4 ⟨⟨A4, n4, c4, L, r, p, A5, n5, c5, M, rfl, hL, hn9, hM, hn5, o1, o2⟩, K', hK', st4⟩
  have hs4 := st4.gr.size
  obtain ⟨c0, c1, f0, f1⟩ := cell2 (st4.gr.block w.heap.size (by omega) (by simp)) d0 d1 g0 g1
  have b5 : Below w.heap.size w w4 := b2.trans (st4.below (by omega) (by omega))
  have ownL := own_lower (base' := w.heap.size) (own_two (b := w.heap.size) o1 (by omega) (.int .i64 r) (.int .i64 p)) (by omega)
  have ownM := own_lower (base' := w.heap.size) (own_two (b := w.heap.size) o2 (by omega) (.int .i64 r) (.int .i64 p)) (by omega)
  clear b2 st3 st4 d0 d1 g0 g1 o1 o2
  go_wp2
  exact bodyPost_ret (v := .tuple #[.slice A4 n4 c4, .agg #[.int .i64 r, .int .i64 p], .slice A5 n5 c5]) (by simp [results, Tryd.results44, go_sem, c0, c1]) rfl ⟨⟨A4, n4, c4, L, r, p, A5, n5, c5, M, rfl, hL, hn9, hM, hn5, ownL, ownM⟩, b5.trans (below_set2 _ _ _ _)⟩
end Go.Proofs.YtiddlpgpbafdmaaDoor
