/- What is drawn for the laws on strands: wants, and the length of strands. -/
import Derived.Test.YtcegmlogjbnoeaaDoorDrawL
import Derived.Test.YtcegmlogjbnoeaaDoorAppW
namespace Go.Proofs.YtcegmlogjbnoeaaDoor
open Go.RowKit
set_option linter.unusedVariables false
theorem OS.set {W w : World} {R K B g n c : Nat} {e : TypeId} {L : List Int} (h : OS W w R K B e 1 (.slice (some ⟨g, 0, none⟩) n c) n (intsV .i64 L)) (k : Nat) (x : Int) :
    OS W (w.setCell ⟨g, k, none⟩ (.int .i64 x)) R K B e 1 (.slice (some ⟨g, 0, none⟩) n c) n (intsV .i64 (L.set k x)) :=
  h.append (row := some g) (w9 := w.setCell ⟨g, k, none⟩ (.int .i64 x)) ⟨rfl, rfl, rfl, by simp, fun j _ hj => Below.heap_setCell w ⟨g, k, none⟩ (.int .i64 x) j (fun e => hj (by rw [e]))⟩ (fun k hk => by injection hk with hk; subst hk; exact own_ge h.own rfl) (own_set1 h.own)
def DrawnW (W : World) (R K : Nat) (w : World) (e : Ending) (w' : World) : Prop := ∃ (A : Option Addr) (n c : Nat) (L : List Int) (long : Int), e = .returned (.tuple #[.slice A n c, .int .i64 long]) ∧ L.length = n ∧ n ≤ 9 ∧ 0 ≤ long ∧ long ≤ 61 ∧ OS W w' R (K + 40) w.heap.size 3 1 (.slice A n c) n (intsV .i64 L)
set_option maxRecDepth 100000 in
set_option maxHeartbeats 1000000 in
theorem wants_st {W w : World} {R K : Nat} {N : Int} (st : St W w R K) (hK : K ≤ 10000) (hN : 0 < N) (hN' : N < 1000) :
    Calls Tryd.prog 78 #[.pointer (some ⟨R, 0, none⟩), .int .i64 N] w (DrawnW W R K w) := by
  obtain ⟨i0, hi, hz0, hz1, hz2⟩ := info_parts info_int
  have lt := st.lt
  have sW := st.gr.size
  go_enter Tryd.func78, Tryd.ntmps78
  go_wp2_with (fail)
  refine (pick_st st (by omega)).mono ?_
  rintro e w0 ⟨x, rfl, x0, x1, st0, hzz⟩
  have hx1 : x ≤ 29 := by omega
  have os0 : OS W (w0.alloc (.cells #[] 3)) R (K + 1) w.heap.size 3 1 (.slice (some ⟨w0.heap.size, 0, none⟩) 0 0) 0 (intsV .i64 []) := by have := OS.made st0 3 1; rw [hzz] at this ⊢; exact this
  rw [hzz] at os0
  clear x1 st st0
  go_wp2_with (fail)
  refine (pick_os os0 (by omega)).mono ?_
  rintro e w2 ⟨k0, rfl, k00, k01, os2, -⟩
  have hk0 : k0 ≤ 7 := by omega
  clear k01 os0
  go_wp2_with (fail)
  go_loopw [7, 8] (fun v i wr => ∃ (k m : Nat) (A' : Option Addr) (c' : Nat) (L : List Int) (K' : Nat), m + k ≤ 7 ∧ i = .int .i64 k ∧ (∃ g', A' = some ⟨g', 0, none⟩) ∧ v = .slice A' m c' ∧ L.length = m ∧ (∀ y ∈ L, 0 ≤ y ∧ y ≤ 40) ∧ OS W wr R K' w.heap.size 3 1 (.slice A' m c') m (intsV .i64 L) ∧ K' + k ≤ K + 10) (fun _ i _ => (intOf i).toNat)
  case atStart => exact ⟨k0.toNat, 0, _, _, [], K + 1 + 1, by omega, by rw [Int.toNat_of_nonneg k00], ⟨_, rfl⟩, rfl, rfl, by intro y hy; simp at hy, os2, by omega⟩
  case round =>
    obtain ⟨k, m, A', c', L, K', hkm, rfl, ⟨g', rfl⟩, rfl, hL, hall, os, hK'⟩ := hrel
    have HL := Lib.hid hL
    have HA := Lib.hid hall
    clear hL os2 hall
    by_cases hlt : 0 < k
    · go_wp2_with (fail)
      refine (pick_os os (by omega)).mono ?_
      rintro e w3 ⟨u, rfl, u0, u1, os3, -⟩
      have hu1 : u ≤ 36 := by omega
      have OS3 := Lib.hid os3
      have hs3 := os3.hs
      clear os os3 u1
      go_wp2_with (at_builtin; go_must (refine wpList_append_own_w _ (by rfl) (.tmp 20) (.tmp 25) 24 rfl w.heap.size 3 i0 _ 1 8 Tryd.underlying24 hi hz0 hz1 hz2 rfl (by decide) (.slice (some ⟨g', 0, none⟩) m c') m (intsV .i64 L) rfl (OS3.out.alloc _).own ⟨w3.heap.size, 0, none⟩ 1 1 (intsV .i64 [1 + u]) rfl rfl (cells_one1 (Newest.alloc_ rfl)) intsV_one (by unfold maxLen; omega) (by omega) (by simp; omega) ?_); intro v9 w9 hown9 hgr9 hv9; have os9 := (OS3.out.alloc _).append hgr9 (fun k hk => own_ge OS3.out.own hk) hown9; rw [← intsV_append] at os9; obtain ⟨g9, c9, rfl, -, -⟩ := own_form hown9 (by omega); clear hown9 hgr9 hv9)
      go_roundw
      case rel => exact ⟨k - 1, m + 1, _, _, L ++ [1 + u], _, by omega, by go_num, ⟨_, rfl⟩, rfl, by rw [List.length_append, HL.out]; rfl, (fun y hy => by rcases List.mem_append.1 hy with h | h; exact HA.out y h; simp at h; omega), os9, by omega⟩
      case measure => simp [intOf] <;> omega
    · go_wp2_with (fail)
      refine (pick_os os (by omega)).mono ?_
      rintro e w3 ⟨u, rfl, u0, u1, os3, -⟩
      clear os
      by_cases hu : u = 0
      · subst hu
        go_wp2_with (fail)
        have OS3 := Lib.hid os3
        clear os3
        go_loopw [9] (fun i wr => ∃ (j : Nat) (L' : List Int), j ≤ m ∧ i = .int .i64 j ∧ L'.length = m ∧ (∀ y ∈ L', 0 ≤ y ∧ y ≤ 40) ∧ OS W wr R (K' + 1) w.heap.size 3 1 (.slice (some ⟨g', 0, none⟩) m c') m (intsV .i64 L')) (fun i _ => m - (intOf i).toNat)
        case atStart => exact ⟨0, L, Nat.zero_le _, rfl, HL.out, HA.out, OS3.out⟩
        case round =>
          obtain ⟨j, L2, hj, rfl, hL2, hall2, os2⟩ := hrel
          have HLL := Lib.hid hL2
          by_cases hlt2 : j < m
          · obtain ⟨y, hy⟩ : ∃ y, L2[j]? = some y := ⟨_, List.getElem?_eq_getElem (by omega)⟩
            obtain ⟨y0, y1⟩ := hall2 y (List.mem_of_getElem? hy)
            have c1 := own_int os2.own hy
            have f1 := os2.own.frozenAt j
            have HA2 := Lib.hid hall2
            have OS2 := Lib.hid os2
            clear hL2 hall2 os2 hy
            go_wp2
            go_roundw
            case rel => exact ⟨j + 1, L2.set j (1 + y / 2), by omega, by go_num, by rw [List.length_set]; exact HLL.out, (fun z hz => by rcases List.mem_or_eq_of_mem_set hz with h | h; exact HA2.out z h; omega), OS2.out.set j (1 + y / 2)⟩
            case measure => simp [intOf] <;> omega
          · clear hL2 hall2
            go_wp2_with (fail)
            refine (odd_os os2 (by omega) (by omega)).mono ?_
            rintro e w4 ⟨o, rfl, os4⟩
            clear os2
            cases o
            · go_wp2
              go_ret2
              exact ⟨_, m, _, L2, 8 + x, rfl, HLL.out, by omega, by omega, by omega, os4.more (by omega)⟩
            · go_wp2_with (fail)
              refine (pick_os os4 (by omega)).mono ?_
              rintro e w5 ⟨s, rfl, s0, s1, os5, -⟩
              have hs5 := os5.hs
              have lt5 := os5.st.lt
              have OS5 := Lib.hid os5
              clear os4
              obtain rfl | rfl | rfl : s = 0 ∨ s = 1 ∨ s = 2 := by omega
              · have osa : OS W (w5.alloc (.cells #[.int .i64 0, .int .i64 (8 + x + 1)] 3)) R (K' + 1 + 1 + 1) w.heap.size 3 1 (.slice (some ⟨g', 0, none⟩) m c') m (intsV .i64 L2) := os5.alloc _
                clear os5
                go_wp2_with (fail)
                refine (pick_os osa (by omega)).mono ?_
                rintro e w6 ⟨u, rfl, u0, u1, os6, st6⟩
                obtain ⟨un, rfl⟩ := Int.eq_ofNat_of_zero_le u0
                have ul : un < 2 := by omega
                have ul2 : (un : Int) < 2 := by omega
                have hs6 := os6.hs
                have t1 := two_at w5 3 0 (8 + x + 1) un ul
                have c1 := (st6.cell (p := ⟨w5.heap.size, un, none⟩) (by simp) (Nat.ne_of_gt lt5)).trans t1
                generalize oneOf 0 (8 + x + 1) un = tq at c1
                have OS6 := Lib.hid os6
                clear os6 osa t1 u1 st6
                go_wp2_with (at_builtin; go_must (refine wpList_append_own_w _ (by rfl) (.tmp 54) (.tmp 62) 24 rfl w.heap.size 3 i0 _ 1 8 Tryd.underlying24 hi hz0 hz1 hz2 rfl (by decide) (.slice (some ⟨g', 0, none⟩) m c') m (intsV .i64 L2) rfl (OS6.out.alloc _).own ⟨w6.heap.size, 0, none⟩ 1 1 (intsV .i64 [tq]) rfl rfl (cells_one1 (Newest.alloc_ rfl)) intsV_one (by unfold maxLen; omega) (by omega) (by simp; omega) ?_); intro v9 w9 hown9 hgr9 hv9; have os9 := (OS6.out.alloc _).append hgr9 (fun k hk => own_ge OS6.out.own hk) hown9; rw [← intsV_append] at os9; obtain ⟨g9, c9, rfl, -, -⟩ := own_form hown9 (by omega); clear hown9 hgr9 hv9)
                go_ret2
                exact ⟨_, m + 1, _, L2 ++ [tq], 8 + x, rfl, by rw [List.length_append, HLL.out]; rfl, by omega, by omega, by omega, os9.more (by omega)⟩
              · go_wp2_with (fail)
                go_region_law (first
                  | (go_simp; go_at_call 80; refine (pick_os (by first | exact os5.drew | exact (os5.alloc _).drew | exact os5.drew.alloc _) (by omega)).mono ?_; rintro e w6 ⟨u, rfl, u0, u1, os6, st6⟩; obtain ⟨un, rfl⟩ := Int.eq_ofNat_of_zero_le u0; have ul : un < 2 := (by omega); have ul2 : (un : Int) < 2 := (by omega); have rO := oneOf_or 0 61 un; have rB := two_at w6 3 0 61 un ul; try (have rA : w6.cell? ⟨w5.heap.size, un, none⟩ = some (.int .i64 (oneOf 0 61 un)) := (st6.cell (by simp) (Nat.ne_of_gt lt5)).trans (two_at w5 3 0 61 un ul))))
                all_goals (go_wp2; go_ret2; first | exact ⟨_, m, _, L2, oneOf 0 61 un, rfl, HLL.out, by omega, by omega, by omega, os6.more (by omega)⟩ | exact ⟨_, m, _, L2, oneOf 0 61 un, rfl, HLL.out, by omega, by omega, by omega, (os6.alloc _).more (by omega)⟩)
              · clear os5
                go_wp2_with (at_make; refine wpList_make_full _ rfl _ _ 24 rfl w.heap.size 3 i0 _ 1 Tryd.underlying24 hi hz0 hz1 .i64 .i64 _ _ 9 rfl rfl rfl rfl (by rw [hz2]; omega) (by unfold maxLen; omega) hs5 ?_; intro w6 hown6 hgr6; have os6 := OS5.out.append hgr6 (fun k hk => by cases hk) hown6)
                rw [madeI] at os6
                go_ret2
                exact ⟨_, _, _, List.replicate 9 0, 8 + x, rfl, by simp, by omega, by omega, by omega, os6.more (by omega)⟩
      · have hub : (u == 0) = false := by simp [hu]
        have HLL := HL
        go_wp2_with (fail)
        refine (odd_os os3 (by omega) (by omega)).mono ?_
        rintro e w4 ⟨o, rfl, os4⟩
        clear os3
        cases o
        · go_wp2
          go_ret2
          exact ⟨_, m, _, L, 8 + x, rfl, HLL.out, by omega, by omega, by omega, os4.more (by omega)⟩
        · go_wp2_with (fail)
          refine (pick_os os4 (by omega)).mono ?_
          rintro e w5 ⟨s, rfl, s0, s1, os5, -⟩
          have hs5 := os5.hs
          have lt5 := os5.st.lt
          have OS5 := Lib.hid os5
          clear os4
          obtain rfl | rfl | rfl : s = 0 ∨ s = 1 ∨ s = 2 := by omega
          · have osa : OS W (w5.alloc (.cells #[.int .i64 0, .int .i64 (8 + x + 1)] 3)) R (K' + 1 + 1 + 1) w.heap.size 3 1 (.slice (some ⟨g', 0, none⟩) m c') m (intsV .i64 L) := os5.alloc _
            clear os5
            go_wp2_with (fail)
            refine (pick_os osa (by omega)).mono ?_
            rintro e w6 ⟨u, rfl, u0, u1, os6, st6⟩
            obtain ⟨un, rfl⟩ := Int.eq_ofNat_of_zero_le u0
            have ul : un < 2 := by omega
            have ul2 : (un : Int) < 2 := by omega
            have hs6 := os6.hs
            have t1 := two_at w5 3 0 (8 + x + 1) un ul
            have c1 := (st6.cell (p := ⟨w5.heap.size, un, none⟩) (by simp) (Nat.ne_of_gt lt5)).trans t1
            generalize oneOf 0 (8 + x + 1) un = tq at c1
            have OS6 := Lib.hid os6
            clear os6 osa t1 u1 st6
            go_wp2_with (at_builtin; go_must (refine wpList_append_own_w _ (by rfl) (.tmp 54) (.tmp 62) 24 rfl w.heap.size 3 i0 _ 1 8 Tryd.underlying24 hi hz0 hz1 hz2 rfl (by decide) (.slice (some ⟨g', 0, none⟩) m c') m (intsV .i64 L) rfl (OS6.out.alloc _).own ⟨w6.heap.size, 0, none⟩ 1 1 (intsV .i64 [tq]) rfl rfl (cells_one1 (Newest.alloc_ rfl)) intsV_one (by unfold maxLen; omega) (by omega) (by simp; omega) ?_); intro v9 w9 hown9 hgr9 hv9; have os9 := (OS6.out.alloc _).append hgr9 (fun k hk => own_ge OS6.out.own hk) hown9; rw [← intsV_append] at os9; obtain ⟨g9, c9, rfl, -, -⟩ := own_form hown9 (by omega); clear hown9 hgr9 hv9)
            go_ret2
            exact ⟨_, m + 1, _, L ++ [tq], 8 + x, rfl, by rw [List.length_append, HLL.out]; rfl, by omega, by omega, by omega, os9.more (by omega)⟩
          · go_wp2_with (fail)
            go_region_law (first
              | (go_simp; go_at_call 80; refine (pick_os (by first | exact os5.drew | exact (os5.alloc _).drew | exact os5.drew.alloc _) (by omega)).mono ?_; rintro e w6 ⟨u, rfl, u0, u1, os6, st6⟩; obtain ⟨un, rfl⟩ := Int.eq_ofNat_of_zero_le u0; have ul : un < 2 := (by omega); have ul2 : (un : Int) < 2 := (by omega); have rO := oneOf_or 0 61 un; have rB := two_at w6 3 0 61 un ul; try (have rA : w6.cell? ⟨w5.heap.size, un, none⟩ = some (.int .i64 (oneOf 0 61 un)) := (st6.cell (by simp) (Nat.ne_of_gt lt5)).trans (two_at w5 3 0 61 un ul))))
            all_goals (go_wp2; go_ret2; first | exact ⟨_, m, _, L, oneOf 0 61 un, rfl, HLL.out, by omega, by omega, by omega, os6.more (by omega)⟩ | exact ⟨_, m, _, L, oneOf 0 61 un, rfl, HLL.out, by omega, by omega, by omega, (os6.alloc _).more (by omega)⟩)
          · clear os5
            go_wp2_with (at_make; refine wpList_make_full _ rfl _ _ 24 rfl w.heap.size 3 i0 _ 1 Tryd.underlying24 hi hz0 hz1 .i64 .i64 _ _ 9 rfl rfl rfl rfl (by rw [hz2]; omega) (by unfold maxLen; omega) hs5 ?_; intro w6 hown6 hgr6; have os6 := OS5.out.append hgr6 (fun k hk => by cases hk) hown6)
            rw [madeI] at os6
            go_ret2
            exact ⟨_, _, _, List.replicate 9 0, 8 + x, rfl, by simp, by omega, by omega, by omega, os6.more (by omega)⟩
end Go.Proofs.YtcegmlogjbnoeaaDoor
