/- What is drawn for the law FnPassInside. -/
import Derived.Test.YtiddlpgpbafdmaaDoorDrawPa
namespace Go.Proofs.YtiddlpgpbafdmaaDoor
open Go.RowKit
set_option linter.unusedVariables false
def DrawnPi (w : World) (e : Ending) (w' : World) : Prop := ∃ (A : Option Addr) (n c : Nat) (L : List (Int × Int)) (r p : Int) (A2 : Option Addr) (n2 c2 : Nat) (M : List (Int × Int)) (t : Int), e = .returned (.tuple #[.slice A n c, .agg #[.int .i64 r, .int .i64 p], .slice A2 n2 c2, .int .i64 t]) ∧ L.length = n ∧ n ≤ 9 ∧ M.length = n2 ∧ n2 ≤ 1001 ∧ w'.ownsRow w.heap.size 39 2 (.slice A n c) n (pairsV L) ∧ w'.ownsRow w.heap.size 47 2 (.slice A2 n2 c2) n2 (pairsV M)
set_option maxHeartbeats 2000000 in
theorem dDrawPassInside_st {w : World} {A : Option Addr} {n c : Nat} {xs : List Int} (hl : xs.length = n) (hc : n ≤ c) (rd : RdI .u8 w w.heap.size A xs) (hn : n ≤ 1048576) (hx : ∀ x ∈ xs, 0 ≤ x ∧ x ≤ 255) :
    Calls Tryd.prog 51 #[.slice A n c] w fun e w' => DrawnPi w e w' ∧ Below w.heap.size w w' := by
  have b2 : Below w.heap.size w (w.alloc (.cells #[.int .i64 0, .int .i64 0] 24)) := (Below.refl _ w).alloc (Nat.le_refl _) _
  go_enter Tryd.func51, Tryd.ntmps51
  go_wp2_with (fail)
  refine (open_st hl hc (rd.up b2 b2.size) hn hx).mono ?_
  rintro e w3 ⟨rfl, st3, hz3⟩
  rw [World.size_alloc] at st3 hz3
  have hs2 : (w.alloc (.cells #[.int .i64 0, .int .i64 0] 24)).heap.size = w.heap.size + 1 := World.size_alloc _ _
  have d0 : (w.alloc (.cells #[.int .i64 0, .int .i64 0] 24)).cell? ⟨w.heap.size, 0, none⟩ = some (.int .i64 0) := by go_simp
  have d1 : (w.alloc (.cells #[.int .i64 0, .int .i64 0] 24)).cell? ⟨w.heap.size, 1, none⟩ = some (.int .i64 0) := by go_simp
  have g0 : (w.alloc (.cells #[.int .i64 0, .int .i64 0] 24)).frozen? ⟨w.heap.size, 0, none⟩ = false := by go_simp
  have g1 : (w.alloc (.cells #[.int .i64 0, .int .i64 0] 24)).frozen? ⟨w.heap.size, 1, none⟩ = false := by go_simp
  generalize w.alloc (.cells #[.int .i64 0, .int .i64 0] 24) = w2 at st3 b2 hs2 d0 d1 g0 g1
  clear rd hx hl hc
  go_wp2_with (fail)
  refine (passes_st st3 (by omega)).mono ?_
  rintro e w4 ⟨⟨A4, n4, c4, L, r, p, A5, n5, c5, M, rfl, hL, hn9, hM, hn5, o1, o2⟩, K', hK', st4⟩
  have hs4 := st4.gr.size
  obtain ⟨c0, c1, f0, f1⟩ := cell2 (st4.gr.block w.heap.size (by omega) (by simp)) d0 d1 g0 g1
  have lt3 := st3.lt
  have hb4 : (w4.alloc (.cells #[.int .i64 r, .int .i64 p] 24)).heap[w.heap.size]? = w4.heap[w.heap.size]? := Below.heap_alloc w4 _ _ (by omega)
  obtain ⟨D0, D1, G0, G1⟩ := cell2 hb4 c0 c1 f0 f1
  have st5 := st4.step ((Below.refl _ w4).alloc (Nat.le_refl _) (.cells #[.int .i64 r, .int .i64 p] 24)) (Nat.le_refl _)
  have o15 := o1.alloc (.cells #[.int .i64 r, .int .i64 p] 24)
  have o25 := o2.alloc (.cells #[.int .i64 r, .int .i64 p] 24)
  have hs5 : (w4.alloc (.cells #[.int .i64 r, .int .i64 p] 24)).heap.size = w4.heap.size + 1 := World.size_alloc _ _
  have q0 : (w4.alloc (.cells #[.int .i64 r, .int .i64 p] 24)).cell? ⟨w4.heap.size, 0, none⟩ = some (.int .i64 r) := by go_simp
  have q1 : (w4.alloc (.cells #[.int .i64 r, .int .i64 p] 24)).cell? ⟨w4.heap.size, 1, none⟩ = some (.int .i64 p) := by go_simp
  have u0 : (w4.alloc (.cells #[.int .i64 r, .int .i64 p] 24)).frozen? ⟨w4.heap.size, 0, none⟩ = false := by go_simp
  have u1 : (w4.alloc (.cells #[.int .i64 r, .int .i64 p] 24)).frozen? ⟨w4.heap.size, 1, none⟩ = false := by go_simp
  have lt4 := st4.lt
  clear c0 c1 f0 f1
  go_wp2_with (fail)
  generalize w4.alloc (.cells #[.int .i64 r, .int .i64 p] 24) = w5 at hb4 D0 D1 G0 G1 st5 o15 o25 hs5 q0 q1 u0 u1 ⊢
  go_region_law (first
    | (go_simp; go_at_call 61; refine (pick_st (st5.self (by first | exact Below.refl _ _ | exact (Below.refl _ _).drew)) (by omega)).mono ?_; rintro e w6 ⟨t, rfl, t0, t1, st6, hz6⟩; obtain ⟨x0, x1, -, -⟩ := cell2 (st6.gr.block w4.heap.size (by (simp; omega)) (by simp; omega)) q0 q1 u0 u1; obtain ⟨y0, y1, z0, z1⟩ := cell2 (st6.gr.block w.heap.size (by (simp; omega)) (by simp)) D0 D1 G0 G1))
  all_goals
    have b5 : Below w.heap.size w w6 := b2.trans ((st5.own (by first | exact Below.refl _ _ | exact (Below.refl _ _).drew) st6 (Below.refl _ _)).below (by omega) (by omega))
    have ownL := own_lower (base' := w.heap.size) (own_two (b := w.heap.size) (own_other (own_drew o15) st6.gr (fun k hk => by have := own_ge (own_drew o15) hk; omega)) (by omega) (.int .i64 r) (.int .i64 p)) (by omega)
    have ownM := own_lower (base' := w.heap.size) (own_two (b := w.heap.size) (own_other (own_drew o25) st6.gr (fun k hk => by have := own_ge (own_drew o25) hk; omega)) (by omega) (.int .i64 r) (.int .i64 p)) (by omega)
    clear b2 st3 st4 st5 st6 d0 d1 g0 g1 o1 o2 o15 o25 q0 q1 u0 u1 D0 D1 G0 G1 t1
    go_wp2
    exact bodyPost_ret (v := .tuple #[.slice A4 n4 c4, .agg #[.int .i64 r, .int .i64 p], .slice A5 n5 c5, .int .i64 t]) (by simp [results, Tryd.results51, go_sem, y0, y1]) rfl ⟨⟨A4, n4, c4, L, r, p, A5, n5, c5, M, t, rfl, hL, hn9, hM, hn5, ownL, ownM⟩, b5.trans (below_set2 _ _ _ _)⟩
end Go.Proofs.YtiddlpgpbafdmaaDoor
