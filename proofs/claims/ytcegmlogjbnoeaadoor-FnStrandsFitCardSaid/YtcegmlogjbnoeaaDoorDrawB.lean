/- What is drawn for the laws on strands: bad stretches. -/
import Derived.Test.YtcegmlogjbnoeaaDoorDrawL
import Derived.Test.YtcegmlogjbnoeaaDoorAppW
namespace Go.Proofs.YtcegmlogjbnoeaaDoor
open Go.RowKit
set_option linter.unusedVariables false
/-- one of three pairs -/
def threeOf (p q r : Int × Int) (u : Nat) : Int × Int := if u = 0 then p else if u = 1 then q else r
theorem three_at (w : World) (e : TypeId) (a b c d f g : Int) (u : Nat) (h : u < 3) : (w.alloc (.cells #[.int .i64 a, .int .i64 b, .int .i64 c, .int .i64 d, .int .i64 f, .int .i64 g] e)).cell? ⟨w.heap.size, u * 2, none⟩ = some (.int .i64 (threeOf (a, b) (c, d) (f, g) u).1) ∧ (w.alloc (.cells #[.int .i64 a, .int .i64 b, .int .i64 c, .int .i64 d, .int .i64 f, .int .i64 g] e)).cell? ⟨w.heap.size, u * 2 + 1, none⟩ = some (.int .i64 (threeOf (a, b) (c, d) (f, g) u).2) := by
  obtain rfl | rfl | rfl : u = 0 ∨ u = 1 ∨ u = 2 := by omega
  · unfold threeOf; rw [if_pos rfl]; constructor <;> go_simp
  · unfold threeOf; rw [if_neg (by decide), if_pos rfl]; constructor <;> go_simp
  · unfold threeOf; rw [if_neg (by decide), if_neg (by decide)]; constructor <;> go_simp
set_option maxRecDepth 100000 in
set_option maxHeartbeats 1000000 in
theorem bad_st {W w : World} {R K : Nat} {long N : Int} (st : St W w R K) (hK : K ≤ 10000) (hN : 0 < N) (hN' : N < 1000) (l0 : -70 ≤ long) (l1 : long ≤ 121) :
    Calls Tryd.prog 77 #[.pointer (some ⟨R, 0, none⟩), .int .i64 long, .int .i64 N] w fun e w' => ∃ A n c L, e = .returned (.slice A n c) ∧ L.length = n ∧ n ≤ 9 ∧ OS W w' R (K + 40) w.heap.size 31 2 (.slice A n c) n (pairsV L) := by
  obtain ⟨i0, hi, hz0, hz1, hz2⟩ := info_parts info_Stretch
  have lt := st.lt
  have sW := st.gr.size
  have os0 : OS W (w.alloc (.cells #[] 31)) R K w.heap.size 31 2 (.slice (some ⟨w.heap.size, 0, none⟩) 0 0) 0 (pairsV []) := OS.made st _ _
  go_enter Tryd.func77, Tryd.ntmps77
  go_wp2_with (fail)
  refine (pick_os os0 (by omega)).mono ?_
  rintro e w1 ⟨at0, rfl, a00, a01, os1, -⟩
  go_wp2_with (fail)
  refine (pick_os os1 (by omega)).mono ?_
  rintro e w2 ⟨k0, rfl, k00, k01, os2, -⟩
  have ha0 : at0 ≤ 7 := by omega
  have hk0 : k0 ≤ 3 := by omega
  clear a01 k01 os0 os1 st
  go_wp2_with (fail)
  go_loopw [7, 8, 9, 10] (fun v a i t wr => ∃ (k m : Nat) (q : Int) (A' : Option Addr) (c' : Nat) (L : List (Int × Int)) (K' : Nat), k ≤ 3 ∧ m + k ≤ 3 ∧ i = .int .i64 k ∧ (∃ g', A' = some ⟨g', 0, none⟩) ∧ a = .int .i64 q ∧ 0 ≤ q ∧ q ≤ 7 + 30 * (3 - k) ∧ v = .slice A' m c' ∧ L.length = m ∧ OS W wr R K' w.heap.size 31 2 (.slice A' m c') m (pairsV L) ∧ K' + 2 * k ≤ K + 10) (fun _ _ i _ _ => (intOf i).toNat)
  case atStart => exact ⟨k0.toNat, 0, at0, _, _, [], K + 1 + 1, by omega, by omega, by rw [Int.toNat_of_nonneg k00], ⟨_, rfl⟩, rfl, by omega, by omega, rfl, rfl, os2, by omega⟩
  case round =>
    obtain ⟨k, m, q, A', c', L, K', hk, hkm, rfl, ⟨g', rfl⟩, rfl, q0, q1, rfl, hL, os, hK'⟩ := hrel
    have HL := Lib.hid hL
    clear hL os2
    by_cases hlt : 0 < k
    · go_wp2_with (fail)
      refine (pick_os os (by omega)).mono ?_
      rintro e w3 ⟨x, rfl, x0, x1, os3, -⟩
      have hx1 : x ≤ 4 := by omega
      clear x1
      by_cases hle : q + 1 + x ≤ long
      · have OS3 := Lib.hid os3
        have hs3 := os3.hs
        clear os os3
        go_wp2_with (at_builtin; go_must (refine wpList_append_own_w _ (by rfl) (.tmp 28) (.tmp 32) 23 rfl w.heap.size 31 i0 _ 2 16 Tryd.underlying23 hi hz0 hz1 hz2 rfl (by decide) (.slice (some ⟨g', 0, none⟩) m c') m (pairsV L) rfl (OS3.out.alloc _).own ⟨w3.heap.size, 0, none⟩ 1 1 (pairsV [(q, q + 1 + x)]) rfl rfl (cells_one2 (Newest.alloc_ rfl)) pairsV_one (by unfold maxLen; omega) (by omega) (by simp; omega) ?_); intro v9 w9 hown9 hgr9 hv9; have os9 := (OS3.out.alloc _).append hgr9 (fun k hk => own_ge OS3.out.own hk) hown9; rw [← pairsV_append] at os9; obtain ⟨g9, c9, rfl, -, -⟩ := own_form hown9 (by omega); clear hown9 hgr9 hv9)
        refine (pick_os os9 (by omega)).mono ?_
        rintro e w4 ⟨y, rfl, y0, y1, os4, -⟩
        clear os9
        go_wp2
        go_roundw
        case rel => exact ⟨k - 1, m + 1, q + 1 + x + 1 + y, _, _, _, _, by omega, by omega, by go_num, ⟨_, rfl⟩, by go_num, by omega, by omega, rfl, by rw [List.length_append, HL.out]; rfl, os4, by omega⟩
        case measure => simp [intOf] <;> omega
      · go_wp2_with (fail)
        refine (pick_os os3 (by omega)).mono ?_
        rintro e w4 ⟨y, rfl, y0, y1, os4, -⟩
        clear os3 os
        go_wp2
        go_roundw
        case rel => exact ⟨k - 1, m, q + 1 + x + 1 + y, _, _, _, _, by omega, by omega, by go_num, ⟨_, rfl⟩, by go_num, by omega, by omega, rfl, HL.out, os4, by omega⟩
        case measure => simp [intOf] <;> omega
    · go_wp2_with (fail)
      refine (odd_os os (by omega) (by omega)).mono ?_
      rintro e w3 ⟨o, rfl, os3⟩
      cases o
      · go_wp2
        go_ret
        exact ⟨_, m, _, L, rfl, HL.out, by omega, os3.more (by omega)⟩
      · have OS3 := Lib.hid os3
        have os3a : OS W (w3.alloc (.cells #[.int .i64 0, .int .i64 0, .int .i64 long, .int .i64 (long + 1), .int .i64 2, .int .i64 1] 31)) R (K' + 1) w.heap.size 31 2 (.slice (some ⟨g', 0, none⟩) m c') m (pairsV L) := os3.alloc _
        have lt3 := os3.st.lt
        clear os os3
        go_wp2_with (fail)
        refine (pick_os os3a (by omega)).mono ?_
        rintro e w4 ⟨u, rfl, u0, u1, os4, st4⟩
        obtain ⟨un, rfl⟩ := Int.eq_ofNat_of_zero_le u0
        have ul : un < 3 := by omega
        have ul2 : (un : Int) < 3 := by omega
        have hs4 := os4.hs
        obtain ⟨t1, t2⟩ := three_at w3 31 0 0 long (long + 1) 2 1 un ul
        have c1 := (st4.cell (p := ⟨w3.heap.size, un * 2, none⟩) (by simp) (Nat.ne_of_gt lt3)).trans t1
        have c2 := (st4.cell (p := ⟨w3.heap.size, un * 2 + 1, none⟩) (by simp) (Nat.ne_of_gt lt3)).trans t2
        generalize threeOf (0, 0) (long, long + 1) (2, 1) un = tq at c1 c2
        obtain ⟨ta, tb⟩ := tq
        simp only at c1 c2
        have OS4 := Lib.hid os4
        clear os4 os3a t1 t2 u1 st4
        go_wp2_with (at_builtin; go_must (refine wpList_append_own_w _ (by rfl) (.tmp 42) (.tmp 54) 23 rfl w.heap.size 31 i0 _ 2 16 Tryd.underlying23 hi hz0 hz1 hz2 rfl (by decide) (.slice (some ⟨g', 0, none⟩) m c') m (pairsV L) rfl (OS4.out.alloc _).own ⟨w4.heap.size, 0, none⟩ 1 1 (pairsV [(ta, tb)]) rfl rfl (cells_one2 (Newest.alloc_ rfl)) pairsV_one (by unfold maxLen; omega) (by omega) (by simp; omega) ?_); intro v9 w9 hown9 hgr9 hv9; have os9 := (OS4.out.alloc _).append hgr9 (fun k hk => own_ge OS4.out.own hk) hown9; rw [← pairsV_append] at os9; obtain ⟨g9, c9, rfl, -, -⟩ := own_form hown9 (by omega); clear hown9 hgr9 hv9)
        go_ret
        exact ⟨_, m + 1, _, L ++ [(ta, tb)], rfl, by rw [List.length_append, HL.out]; rfl, by omega, os9.more (by omega)⟩
end Go.Proofs.YtcegmlogjbnoeaaDoor
