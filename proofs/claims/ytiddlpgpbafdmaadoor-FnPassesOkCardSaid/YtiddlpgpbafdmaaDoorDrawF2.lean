/- What is drawn for the law FnFurnaceValid. -/
import Derived.Test.YtiddlpgpbafdmaaDoorDrawF
namespace Go.Proofs.YtiddlpgpbafdmaaDoor
open Go.RowKit
set_option linter.unusedVariables false
set_option maxHeartbeats 400000 in
theorem drawFurn_st {w : World} {A : Option Addr} {n c : Nat} {xs : List Int} (hl : xs.length = n) (hc : n ≤ c) (rd : RdI .u8 w w.heap.size A xs) (hn : n ≤ 1048576) (hx : ∀ x ∈ xs, 0 ≤ x ∧ x ≤ 255) :
    Calls Tryd.prog 15 #[.slice A n c] w fun e w' => ∃ r p : Int, e = .returned (.agg #[.int .i64 r, .int .i64 p]) ∧ Below w.heap.size w w' := by
  have b2 : Below w.heap.size w (w.alloc (.cells #[.int .i64 0, .int .i64 0] 24)) := (Below.refl _ w).alloc (Nat.le_refl _) _
  go_enter Tryd.func15, Tryd.ntmps15
  go_wp2_with (fail)
  refine (open_st hl hc (rd.up b2 b2.size) hn hx).mono ?_
  rintro e w3 ⟨rfl, st3, hz3⟩
  rw [World.size_alloc] at st3 hz3
  have hs2 : (w.alloc (.cells #[.int .i64 0, .int .i64 0] 24)).heap.size = w.heap.size + 1 := World.size_alloc _ _
  have d0 : (w.alloc (.cells #[.int .i64 0, .int .i64 0] 24)).cell? ⟨w.heap.size, 0, none⟩ = some (.int .i64 0) := by go_simp
  have d1 : (w.alloc (.cells #[.int .i64 0, .int .i64 0] 24)).cell? ⟨w.heap.size, 1, none⟩ = some (.int .i64 0) := by go_simp
  have g0 : (w.alloc (.cells #[.int .i64 0, .int .i64 0] 24)).frozen? ⟨w.heap.size, 0, none⟩ = false := by go_simp
  have g1 : (w.alloc (.cells #[.int .i64 0, .int .i64 0] 24)).frozen? ⟨w.heap.size, 1, none⟩ = false := by go_simp
  generalize w.alloc (.cells #[.int .i64 0, .int .i64 0] 24) = w2 at st3 b2 hs2 d0 d1 g0 g1
  clear rd hx hl hc
  go_wp2_with (fail)
  refine (furn_st st3 (by omega) (by omega) (by omega)).mono ?_
  rintro e w4 ⟨r, p, rfl, st4⟩
  have c0 : w4.cell? ⟨w.heap.size, 0, none⟩ = some (.int .i64 0) := (st4.cell (by simp; omega) (by simp)).trans d0
  have c1 : w4.cell? ⟨w.heap.size, 1, none⟩ = some (.int .i64 0) := (st4.cell (by simp; omega) (by simp)).trans d1
  have f0 : w4.frozen? ⟨w.heap.size, 0, none⟩ = false := (st4.frz (by simp; omega) (by simp)).trans g0
  have f1 : w4.frozen? ⟨w.heap.size, 1, none⟩ = false := (st4.frz (by simp; omega) (by simp)).trans g1
  have b4 : Below w.heap.size w w4 := b2.trans (st4.below (by omega) (by omega))
  clear b2 st4 d0 d1 g0 g1
  go_wp2
  exact bodyPost_ret (v := .agg #[.int .i64 r, .int .i64 p]) (by simp [results, Tryd.results15, go_sem, c0, c1]) rfl ⟨_, _, rfl, b4.trans (below_set2 _ _ _ _)⟩
end Go.Proofs.YtiddlpgpbafdmaaDoor
