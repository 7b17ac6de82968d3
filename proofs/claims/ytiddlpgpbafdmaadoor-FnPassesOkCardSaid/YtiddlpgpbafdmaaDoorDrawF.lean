/- What is drawn for the laws on furnaces. -/
import Derived.Test.YtiddlpgpbafdmaaDoorRdr
import Derived.Test.YtiddlpgpbafdmaaDoorFurn
namespace Go.Proofs.YtiddlpgpbafdmaaDoor
open Go.RowKit
set_option linter.unusedVariables false
section
variable {W w w2 w' F : World} {R K K' : Nat}
theorem St.more (st : St W w R K) (h : K ≤ K') : St W w R K' := ⟨st.rd.more h, st.gr⟩
theorem St.lt (st : St W w R K) : R < w.heap.size := by obtain ⟨A, n, c, xs, p, a, _⟩ := st.rd; exact a.lt
/-- the caller makes a block of its own, draws on, and writes to what is its own -/
theorem St.own (st : St W w R K) (b2 : Below w.heap.size w w2) (st' : St w2 w' R K') (bF : Below w.heap.size w' F) : St W F R K' := by
  have lt := st.lt
  refine ⟨st'.rd.keep bF.size (fun k hk => bF.block k (by omega)), rd_grown_trans st.gr ⟨bF.os.trans (st'.gr.os.trans b2.os), bF.tape.trans (st'.gr.tape.trans b2.tape), bF.output.trans (st'.gr.output.trans b2.output), Nat.le_trans b2.size (Nat.le_trans st'.gr.size bF.size), fun k hk hr => ?_⟩⟩
  exact (bF.block k hk).trans ((st'.gr.block k (Nat.lt_of_lt_of_le hk b2.size) hr).trans (b2.block k hk))
theorem St.self (st : St W w R K) (b2 : Below w.heap.size w w2) : St w2 w2 R K :=
  ⟨st.rd.keep b2.size (fun k hk => b2.block k (by have := st.lt; omega)), rd_grown_refl _ _⟩
theorem St.cell {p : Addr} (st' : St w2 w' R K') (h : p.block < w2.heap.size) (hR : p.block ≠ R) : w'.cell? p = w2.cell? p := World.cell?_of_block (st'.gr.block _ h (fun e => hR (by injection e)))
theorem St.frz {p : Addr} (st' : St w2 w' R K') (h : p.block < w2.heap.size) (hR : p.block ≠ R) : w'.frozen? p = w2.frozen? p := World.frozen?_of_block (st'.gr.block _ h (fun e => hR (by injection e)))
end
theorem below_set2 (w : World) (b : Nat) (x y : Value) : Below b w ((w.setCell ⟨b, 0, none⟩ x).setCell ⟨b, 1, none⟩ y) :=
  Below.setCell (p := ⟨b, 1, none⟩) (Below.setCell (p := ⟨b, 0, none⟩) (Below.refl b w) (Nat.le_refl b) x) (Nat.le_refl b) y
set_option maxHeartbeats 4000000 in
theorem furn_st {W w : World} {R K : Nat} {N : Int} (st : St W w R K) (hK : K ≤ 10000) (hN : 0 < N) (hN' : N < 1000) :
    Calls Tryd.prog 54 #[.pointer (some ⟨R, 0, none⟩), .int .i64 N] w fun e w' => ∃ r p : Int, e = .returned (.agg #[.int .i64 r, .int .i64 p]) ∧ St W w' R (K + 3) := by
  have lt := st.lt
  have b2 : Below w.heap.size w (w.alloc (.cells #[.int .i64 0, .int .i64 0] 24)) := (Below.refl _ w).alloc (Nat.le_refl _) _
  have st2 := st.self b2
  go_enter Tryd.func54, Tryd.ntmps54
  go_wp2_with (fail)
  refine (odd_st st2 (by omega) (by omega)).mono ?_
  rintro e w3 ⟨o, rfl, st3⟩
  have c0 : w3.cell? ⟨w.heap.size, 0, none⟩ = some (.int .i64 0) := (st3.cell (by simp) (by simp; omega)).trans (by go_simp)
  have c1 : w3.cell? ⟨w.heap.size, 1, none⟩ = some (.int .i64 0) := (st3.cell (by simp) (by simp; omega)).trans (by go_simp)
  have f0 : w3.frozen? ⟨w.heap.size, 0, none⟩ = false := (st3.frz (by simp) (by simp; omega)).trans (by go_simp)
  have f1 : w3.frozen? ⟨w.heap.size, 1, none⟩ = false := (st3.frz (by simp) (by simp; omega)).trans (by go_simp)
  have hz3 : w.heap.size < w3.heap.size := by have := st3.gr.size; simp at this; omega
  cases o
  · go_wp2_with (fail)
    refine (pick_st st3 (by omega)).mono ?_
    rintro e w4 ⟨x, rfl, x0, x1, st4, hz4⟩
    go_wp2_with (fail)
    refine (pick_st st4 (by omega)).mono ?_
    rintro e w5 ⟨y, rfl, y0, y1, st5, hz5⟩
    have c0 : w5.cell? ⟨w.heap.size, 0, none⟩ = some (.int .i64 0) := (st5.cell (by simp) (by simp; omega)).trans (by go_simp)
    have c1 : w5.cell? ⟨w.heap.size, 1, none⟩ = some (.int .i64 0) := (st5.cell (by simp) (by simp; omega)).trans (by go_simp)
    have f0 : w5.frozen? ⟨w.heap.size, 0, none⟩ = false := (st5.frz (by simp) (by simp; omega)).trans (by go_simp)
    have f1 : w5.frozen? ⟨w.heap.size, 1, none⟩ = false := (st5.frz (by simp) (by simp; omega)).trans (by go_simp)
    go_wp2
    exact bodyPost_ret (v := .agg #[.int .i64 (1 + x), .int .i64 y]) (by simp [results, Tryd.results54, go_sem, c0, c1]) rfl ⟨_, _, rfl, st.own b2 st5 (below_set2 _ _ _ _)⟩
  · have b34 : Below w3.heap.size w3 (w3.alloc (.cells #[.int .i64 0, .int .i64 0, .int .i64 9, .int .i64 0, .int .i64 2, .int .i64 (-1), .int .i64 2, .int .i64 100] 24)) := (Below.refl _ w3).alloc (Nat.le_refl _) _
    have st4 := st3.self b34
    go_wp2_with (fail)
    refine (pick_st st4 (by omega)).mono ?_
    rintro e w5 ⟨x, rfl, x0, x1, st45, hz5⟩
    have st5 := st3.own b34 st45 (Below.refl _ _)
    have c0 : w5.cell? ⟨w.heap.size, 0, none⟩ = some (.int .i64 0) := (st5.cell (by simp) (by simp; omega)).trans (by go_simp)
    have c1 : w5.cell? ⟨w.heap.size, 1, none⟩ = some (.int .i64 0) := (st5.cell (by simp) (by simp; omega)).trans (by go_simp)
    have f0 : w5.frozen? ⟨w.heap.size, 0, none⟩ = false := (st5.frz (by simp) (by simp; omega)).trans (by go_simp)
    have f1 : w5.frozen? ⟨w.heap.size, 1, none⟩ = false := (st5.frz (by simp) (by simp; omega)).trans (by go_simp)
    have r0 : w5.cell? ⟨w3.heap.size, 0, none⟩ = some (.int .i64 0) := (st45.cell (by simp) (by simp; omega)).trans (by go_simp)
    have r1 : w5.cell? ⟨w3.heap.size, 1, none⟩ = some (.int .i64 0) := (st45.cell (by simp) (by simp; omega)).trans (by go_simp)
    have r2 : w5.cell? ⟨w3.heap.size, 2, none⟩ = some (.int .i64 9) := (st45.cell (by simp) (by simp; omega)).trans (by go_simp)
    have r3 : w5.cell? ⟨w3.heap.size, 3, none⟩ = some (.int .i64 0) := (st45.cell (by simp) (by simp; omega)).trans (by go_simp)
    have r4 : w5.cell? ⟨w3.heap.size, 4, none⟩ = some (.int .i64 2) := (st45.cell (by simp) (by simp; omega)).trans (by go_simp)
    have r5 : w5.cell? ⟨w3.heap.size, 5, none⟩ = some (.int .i64 (-1)) := (st45.cell (by simp) (by simp; omega)).trans (by go_simp)
    have r6 : w5.cell? ⟨w3.heap.size, 6, none⟩ = some (.int .i64 2) := (st45.cell (by simp) (by simp; omega)).trans (by go_simp)
    have r7 : w5.cell? ⟨w3.heap.size, 7, none⟩ = some (.int .i64 100) := (st45.cell (by simp) (by simp; omega)).trans (by go_simp)
    clear b34 st4 b2 hz5
    obtain rfl | rfl | rfl | rfl : x = 0 ∨ x = 1 ∨ x = 2 ∨ x = 3 := by omega
    · go_wp2
      exact bodyPost_ret (v := .agg #[.int .i64 0, .int .i64 0]) (by simp [results, Tryd.results54, go_sem, c0, c1]) rfl ⟨_, _, rfl, st.own ((Below.refl _ w).alloc (Nat.le_refl _) _) (st5.more (by omega)) (below_set2 _ _ _ _)⟩
    · go_wp2
      exact bodyPost_ret (v := .agg #[.int .i64 9, .int .i64 0]) (by simp [results, Tryd.results54, go_sem, c0, c1]) rfl ⟨_, _, rfl, st.own ((Below.refl _ w).alloc (Nat.le_refl _) _) (st5.more (by omega)) (below_set2 _ _ _ _)⟩
    · go_wp2
      exact bodyPost_ret (v := .agg #[.int .i64 2, .int .i64 (-1)]) (by simp [results, Tryd.results54, go_sem, c0, c1]) rfl ⟨_, _, rfl, st.own ((Below.refl _ w).alloc (Nat.le_refl _) _) (st5.more (by omega)) (below_set2 _ _ _ _)⟩
    · go_wp2
      exact bodyPost_ret (v := .agg #[.int .i64 2, .int .i64 100]) (by simp [results, Tryd.results54, go_sem, c0, c1]) rfl ⟨_, _, rfl, st.own ((Below.refl _ w).alloc (Nat.le_refl _) _) (st5.more (by omega)) (below_set2 _ _ _ _)⟩
end Go.Proofs.YtiddlpgpbafdmaaDoor
