/- What is drawn for the law FnPassEnd. -/
import Derived.Test.YtiddlpgpbafdmaaDoorDrawP
namespace Go.Proofs.YtiddlpgpbafdmaaDoor
open Go.RowKit
set_option linter.unusedVariables false
set_option maxHeartbeats 1000000 in
theorem drawEnd_st {w : World} {A : Option Addr} {n c : Nat} {xs : List Int} (hl : xs.length = n) (hc : n ≤ c) (rd : RdI .u8 w w.heap.size A xs) (hn : n ≤ 1048576) (hx : ∀ x ∈ xs, 0 ≤ x ∧ x ≤ 255) :
    Calls Tryd.prog 34 #[.slice A n c] w (DrawnP w) := by
  have b2 : Below w.heap.size w (w.alloc (.cells #[.int .i64 0, .int .i64 0] 24)) := (Below.refl _ w).alloc (Nat.le_refl _) _
  go_enter Tryd.func34, Tryd.ntmps34
  go_wp2_with (fail)
  refine (drawTimes_st hl hc (rd.up b2 b2.size) hn hx).mono ?_
  rintro e w3 ⟨A4, n4, c4, L, r, p, rfl, hL, hn9, hown, hb3⟩
  rw [World.size_alloc] at hown
  rw [World.size_alloc] at hb3
  have hs2 : (w.alloc (.cells #[.int .i64 0, .int .i64 0] 24)).heap.size = w.heap.size + 1 := World.size_alloc _ _
  have d0 : (w.alloc (.cells #[.int .i64 0, .int .i64 0] 24)).cell? ⟨w.heap.size, 0, none⟩ = some (.int .i64 0) := by go_simp
  have d1 : (w.alloc (.cells #[.int .i64 0, .int .i64 0] 24)).cell? ⟨w.heap.size, 1, none⟩ = some (.int .i64 0) := by go_simp
  have g0 : (w.alloc (.cells #[.int .i64 0, .int .i64 0] 24)).frozen? ⟨w.heap.size, 0, none⟩ = false := by go_simp
  have g1 : (w.alloc (.cells #[.int .i64 0, .int .i64 0] 24)).frozen? ⟨w.heap.size, 1, none⟩ = false := by go_simp
  generalize w.alloc (.cells #[.int .i64 0, .int .i64 0] 24) = w2 at hb3 b2 hs2 d0 d1 g0 g1
  clear rd hx hl hc
  obtain ⟨c0, c1, f0, f1⟩ := cell2 (hb3.block w.heap.size (by omega)) d0 d1 g0 g1
  have b5 : Below w.heap.size w w3 := b2.trans (hb3.mono (by omega))
  have hfin := own_lower (base' := w.heap.size) (own_two (b := w.heap.size) hown (by omega) (.int .i64 r) (.int .i64 p)) (by omega)
  clear b2 hb3 hown d0 d1 g0 g1
  go_wp2
  exact bodyPost_ret (v := .tuple #[.slice A4 n4 c4, .agg #[.int .i64 r, .int .i64 p]]) (by simp [results, Tryd.results34, go_sem, c0, c1]) rfl ⟨A4, n4, c4, L, r, p, rfl, hL, hn9, hfin, b5.trans (below_set2 _ _ _ _)⟩
end Go.Proofs.YtiddlpgpbafdmaaDoor
