/- The charges that are drawn (written by gendrawc.py). -/
import Derived.Test.YtiddlpgpbafdmaaDoorDrawCS
namespace Go.Proofs.YtiddlpgpbafdmaaDoor
open Go.RowKit
set_option linter.unusedVariables false
set_option maxRecDepth 100000 in
set_option maxHeartbeats 4000000 in
theorem charges_st {W w : World} {R K : Nat} {M N : Int} (st : St W w R K) (hK : K ≤ 1000) (hM : 0 ≤ M) (hM8 : M ≤ 8) (hN : 0 < N) (hN' : N < 1000) :
    Calls Tryd.prog 62 #[.pointer (some ⟨R, 0, none⟩), .int .i64 M, .int .i64 N] w fun e w' => ∃ A n c L, e = .returned (.slice A n c) ∧ L.length = n ∧ n ≤ 9 ∧ CS W w' R (K + 40) w.heap.size 39 (.slice A n c) n L := by
  obtain ⟨i0, hi, hz0, hz1, hz2⟩ := info_parts info_Charge
  have lt := st.lt
  have HO := Lib.hid (World.ownsRow_made (e := 39) (size := 2) (base := w.heap.size) w #[] 0 (Nat.le_refl _) (Nat.zero_le _) rfl)
  have cs0 : CS W (w.alloc (.cells #[] 39)) R K w.heap.size 39 (.slice (some ⟨w.heap.size, 0, none⟩) 0 0) 0 [] :=
    ⟨st.step ((Below.refl _ w).alloc (Nat.le_refl _) _) (Nat.le_refl _), by simpa [pairsV] using HO.out, lt, st.gr.size, by simp⟩
  go_enter Tryd.func62, Tryd.ntmps62
  go_wp2_with (fail)
  refine (pick_cs cs0 (by omega)).mono ?_
  rintro e w1 ⟨k0, rfl, k00, k01, cs1, -⟩
  have hk0 : k0 ≤ 8 := by omega
  clear cs0 HO k01
  go_wp2_with (fail)
  go_loopw [7, 8, 9] (fun v a i wr => ∃ (k m : Nat) (q : Int) (A' : Option Addr) (c' : Nat) (L : List (Int × Int)) (K' : Nat), k + m ≤ 8 ∧ i = .int .i64 k ∧ (∃ g', A' = some ⟨g', 0, none⟩) ∧ a = .int .i64 q ∧ 0 ≤ q ∧ q ≤ 12 * m ∧ v = .slice A' m c' ∧ L.length = m ∧ CS W wr R K' w.heap.size 39 (.slice A' m c') m L ∧ K' ≤ K + 1 + 3 * m) (fun _ _ i _ => (intOf i).toNat)
  case atStart => exact ⟨k0.toNat, 0, 0, _, _, [], K + 1, by omega, by rw [Int.toNat_of_nonneg k00], ⟨_, rfl⟩, rfl, by omega, by omega, rfl, rfl, cs1, by omega⟩
  case round =>
    obtain ⟨k, m, q, A', c', L, K', hkm, rfl, ⟨g', rfl⟩, rfl, q0, q1, rfl, hL, cs, hK'⟩ := hrel
    have HL := Lib.hid hL
    clear hL cs1 st
    by_cases hlt : 0 < k
    · go_wp2_with (fail)
      refine (pick_cs cs (by omega)).mono ?_
      rintro e w2 ⟨x, rfl, x0, x1, cs2, -⟩
      go_wp2_with (fail)
      refine (pick_cs cs2 (by omega)).mono ?_
      rintro e w3 ⟨y, rfl, y0, y1, cs3, -⟩
      by_cases hq : 0 ≤ q + x - y
      · have hw : 0 ≤ q + x - y := by omega
        go_wp2_with (fail)
        refine (pick_cs cs3 (by omega)).mono ?_
        rintro e w4 ⟨z, rfl, z0, z1, cs4, -⟩
        have hs4 := cs4.hs
        have CS4 := Lib.hid cs4
        clear cs cs2 cs3 cs4 z1 y1
        go_wp2_with (at_builtin; go_must (refine wpList_append_pair _ rfl (.tmp 23) (.tmp 33) 35 rfl w.heap.size 39 i0 Tryd.underlying35 hi hz0 hz1 hz2 (.slice (some ⟨g', 0, none⟩) m c') m L rfl (CS4.out.alloc _).own w4.heap.size (Newest.alloc_ rfl) rfl (by omega) (by simp; omega) ?_); intro A9 cc9 w9 hown9 hgr9)
        have CS9 := Lib.hid ((CS4.out.alloc _).append hgr9 (fun k hk => own_ge CS4.out.own hk) hown9)
        clear hgr9 hown9
        obtain ⟨g9, c9, e9, -, -⟩ := own_form CS9.out.own (by omega)
        injection e9 with e91 e92 e93
        subst e91 e93
        go_roundw
        case rel => exact ⟨k - 1, m + 1, q + x, _, _, _, _, by omega, by go_num, ⟨_, rfl⟩, by go_num, by omega, by omega, rfl, by rw [List.length_append, HL.out]; rfl, CS9.out, by omega⟩
        case measure => simp [intOf] <;> omega
      · have hw : q + x - y < 0 := by omega
        go_wp2_with (fail)
        refine (pick_cs cs3 (by omega)).mono ?_
        rintro e w4 ⟨z, rfl, z0, z1, cs4, -⟩
        have hs4 := cs4.hs
        have CS4 := Lib.hid cs4
        clear cs cs2 cs3 cs4 z1 y1
        go_wp2_with (at_builtin; go_must (refine wpList_append_pair _ rfl (.tmp 23) (.tmp 33) 35 rfl w.heap.size 39 i0 Tryd.underlying35 hi hz0 hz1 hz2 (.slice (some ⟨g', 0, none⟩) m c') m L rfl (CS4.out.alloc _).own w4.heap.size (Newest.alloc_ rfl) rfl (by omega) (by simp; omega) ?_); intro A9 cc9 w9 hown9 hgr9)
        have CS9 := Lib.hid ((CS4.out.alloc _).append hgr9 (fun k hk => own_ge CS4.out.own hk) hown9)
        clear hgr9 hown9
        obtain ⟨g9, c9, e9, -, -⟩ := own_form CS9.out.own (by omega)
        injection e9 with e91 e92 e93
        subst e91 e93
        go_roundw
        case rel => exact ⟨k - 1, m + 1, q + x, _, _, _, _, by omega, by go_num, ⟨_, rfl⟩, by go_num, by omega, by omega, rfl, by rw [List.length_append, HL.out]; rfl, CS9.out, by omega⟩
        case measure => simp [intOf] <;> omega
    · go_wp2_with (fail)
      refine (odd_cs cs (by omega) (by omega)).mono ?_
      rintro e w2 ⟨o, rfl, cs2⟩
      cases o
      · go_wp2
        go_ret
        exact ⟨_, _, _, L, rfl, HL.out, by omega, ⟨cs2.st.more (by omega), cs2.own, cs2.hB, cs2.hW, cs2.hs⟩⟩
      · go_wp2_with (fail)
        refine (pick_cs cs2 (by omega)).mono ?_
        rintro e w3 ⟨x, rfl, x0, x1, cs3, -⟩
        obtain rfl | rfl | rfl : x = 0 ∨ x = 1 ∨ x = 2 := by omega
        · go_wp2_with (at_make; refine wpList_make_full _ rfl _ _ 35 rfl w.heap.size 39 i0 _ 2 Tryd.underlying35 hi hz0 hz1 .i64 .i64 _ _ 9 rfl rfl rfl rfl (by rw [hz2]; omega) (by unfold maxLen; omega) cs3.hs ?_; intro w4 hown4 hgr4)
          rw [madeP] at hown4
          go_ret
          exact ⟨_, _, _, List.replicate 9 (0, 0), rfl, by simp, by omega, ((cs3.append hgr4 (fun k hk => by cases hk) hown4).more (by omega))⟩
        · have lt3 := cs3.st.lt
          have hcap := own_cap cs.own
          rcases (by omega : m = 0 ∨ (m ≠ 0 ∧ c' = 1) ∨ (m ≠ 0 ∧ ¬ c' = 1)) with hm | ⟨hm, hc1⟩ | ⟨hm, hc1⟩
          · subst hm
            clear x0 x1 cs cs2
            go_wp2_with (fail)
            go_region_law (first
              | (go_simp; go_at_call 61; refine (pick_cs (by first | exact cs3.drew | exact (cs3.alloc _).drew | exact cs3.drew.alloc _) (by omega)).mono ?_; rintro e w4 ⟨u, rfl, u0, u1, cs4, st4⟩; obtain ⟨un, rfl⟩ := Int.eq_ofNat_of_zero_le u0; have ul : un < 2 := (by omega); have hs4 := cs4.hs; have rB := two_at w4 3 (-1) 1000 un ul; try (have rA : w4.cell? ⟨w3.heap.size, un, none⟩ = some (.int .i64 (oneOf (-1) 1000 un)) := (st4.cell (by simp) (Nat.ne_of_gt lt3)).trans (two_at w3 3 (-1) 1000 un ul)))
              | (have CSW := cs4.alloc (.cells #[.int .i64 (oneOf (-1) 1000 un), .int .i64 1] 39); refine step_append_own rfl (.tmp 64) (.tmp 69) 35 rfl w.heap.size 39 i0 _ 2 16 Tryd.underlying35 hi hz0 hz1 hz2 rfl (by decide) (.slice (some ⟨w4.heap.size, 0, none⟩) 1 1) 1 (pairsV [((oneOf (-1) 1000 un), 1)]) rfl (own_one (Newest.alloc_ rfl) hs4) ⟨g', 0, none⟩ 0 c' (pairsV []) rfl rfl (by intro j u hu; simp [pairsV] at hu) pairsV_one (by unfold maxLen; omega) (by omega) CSW.hs ?_; intro v9 w9 hown9 hgr9; obtain ⟨g9, c9, rfl, -, -⟩ := own_form hown9 (by omega); have fin := CSW.append hgr9 (fun j hj => (by (have h9 : w4.heap.size = j := (by simpa [Value.ownBlock] using hj)); omega)) (by rw [← pairsV_append] at hown9; exact hown9); clear CSW hown9 hgr9)
              | (have CSW := (cs4.alloc (.cells #[.int .i64 (-1), .int .i64 1000] 3)).alloc (.cells #[.int .i64 (oneOf (-1) 1000 un), .int .i64 1] 39); refine step_append_own rfl (.tmp 64) (.tmp 69) 35 rfl w.heap.size 39 i0 _ 2 16 Tryd.underlying35 hi hz0 hz1 hz2 rfl (by decide) (.slice (some ⟨(w4.heap.size + 1), 0, none⟩) 1 1) 1 (pairsV [((oneOf (-1) 1000 un), 1)]) rfl (own_one (Newest.alloc_ (by simp)) (by omega)) ⟨g', 0, none⟩ 0 c' (pairsV []) rfl rfl (by intro j u hu; simp [pairsV] at hu) pairsV_one (by unfold maxLen; omega) (by omega) CSW.hs ?_; intro v9 w9 hown9 hgr9; obtain ⟨g9, c9, rfl, -, -⟩ := own_form hown9 (by omega); have fin := CSW.append hgr9 (fun j hj => (by (have h9 : (w4.heap.size + 1) = j := (by simpa [Value.ownBlock] using hj)); omega)) (by rw [← pairsV_append] at hown9; exact hown9); clear CSW hown9 hgr9))
            all_goals (go_wp2; go_ret; exact ⟨_, _, _, _, rfl, (by simp), (by omega), fin.more (by omega)⟩)
          · have hm1 : m = 1 := by omega
            subst hm1; subst hc1
            clear x0 x1 cs cs2
            go_wp2_with (fail)
            go_region_law (first
              | (go_simp; go_at_call 61; refine (pick_cs (by first | exact cs3.drew | exact (cs3.alloc _).drew | exact cs3.drew.alloc _) (by omega)).mono ?_; rintro e w4 ⟨u, rfl, u0, u1, cs4, st4⟩; obtain ⟨un, rfl⟩ := Int.eq_ofNat_of_zero_le u0; have ul : un < 2 := (by omega); have hs4 := cs4.hs; have rB := two_at w4 3 (-1) 1000 un ul; try (have rA : w4.cell? ⟨w3.heap.size, un, none⟩ = some (.int .i64 (oneOf (-1) 1000 un)) := (st4.cell (by simp) (Nat.ne_of_gt lt3)).trans (two_at w3 3 (-1) 1000 un ul)))
              | (have CSW := cs4.alloc (.cells #[.int .i64 (oneOf (-1) 1000 un), .int .i64 1] 39); refine step_append_own rfl (.tmp 64) (.tmp 69) 35 rfl w.heap.size 39 i0 _ 2 16 Tryd.underlying35 hi hz0 hz1 hz2 rfl (by decide) (.slice (some ⟨w4.heap.size, 0, none⟩) 1 1) 1 (pairsV [((oneOf (-1) 1000 un), 1)]) rfl (own_one (Newest.alloc_ rfl) hs4) ⟨g', 0, none⟩ 0 0 (pairsV []) rfl rfl (by intro j u hu; simp [pairsV] at hu) pairsV_one (by unfold maxLen; omega) (by omega) CSW.hs ?_; intro v9 w9 hown9 hgr9; obtain ⟨g9, c9, rfl, -, -⟩ := own_form hown9 (by omega); have fin := CSW.append hgr9 (fun j hj => (by (have h9 : w4.heap.size = j := (by simpa [Value.ownBlock] using hj)); omega)) (by rw [← pairsV_append] at hown9; exact hown9); clear CSW hown9 hgr9)
              | (have CSW := (cs4.alloc (.cells #[.int .i64 (-1), .int .i64 1000] 3)).alloc (.cells #[.int .i64 (oneOf (-1) 1000 un), .int .i64 1] 39); refine step_append_own rfl (.tmp 64) (.tmp 69) 35 rfl w.heap.size 39 i0 _ 2 16 Tryd.underlying35 hi hz0 hz1 hz2 rfl (by decide) (.slice (some ⟨(w4.heap.size + 1), 0, none⟩) 1 1) 1 (pairsV [((oneOf (-1) 1000 un), 1)]) rfl (own_one (Newest.alloc_ (by simp)) (by omega)) ⟨g', 0, none⟩ 0 0 (pairsV []) rfl rfl (by intro j u hu; simp [pairsV] at hu) pairsV_one (by unfold maxLen; omega) (by omega) CSW.hs ?_; intro v9 w9 hown9 hgr9; obtain ⟨g9, c9, rfl, -, -⟩ := own_form hown9 (by omega); have fin := CSW.append hgr9 (fun j hj => (by (have h9 : (w4.heap.size + 1) = j := (by simpa [Value.ownBlock] using hj)); omega)) (by rw [← pairsV_append] at hown9; exact hown9); clear CSW hown9 hgr9))
            all_goals (go_wp2; go_ret; exact ⟨_, _, _, _, rfl, (by simp), (by omega), fin.more (by omega)⟩)
          · have hm1 : 1 ≤ m := by omega
            clear x0 x1 cs cs2
            go_wp2_with (fail)
            have hm3 : (1 : Int) ≤ m := by omega
            go_region_law (first
              | (go_simp; go_at_call 61; refine (pick_cs (by first | exact cs3.drew | exact (cs3.alloc _).drew | exact cs3.drew.alloc _) (by omega)).mono ?_; rintro e w4 ⟨u, rfl, u0, u1, cs4, st4⟩; obtain ⟨un, rfl⟩ := Int.eq_ofNat_of_zero_le u0; have ul : un < 2 := (by omega); have hs4 := cs4.hs; have rB := two_at w4 3 (-1) 1000 un ul; try (have rA : w4.cell? ⟨w3.heap.size, un, none⟩ = some (.int .i64 (oneOf (-1) 1000 un)) := (st4.cell (by simp) (Nat.ne_of_gt lt3)).trans (two_at w3 3 (-1) 1000 un ul)))
              | (refine step_min rfl (.tmp 67) 3 rfl m rfl hm1 ?_)
              | (have CSW := cs4.alloc (.cells #[.int .i64 (oneOf (-1) 1000 un), .int .i64 1] 39); refine step_append_own rfl (.tmp 64) (.tmp 69) 35 rfl w.heap.size 39 i0 _ 2 16 Tryd.underlying35 hi hz0 hz1 hz2 rfl (by decide) (.slice (some ⟨w4.heap.size, 0, none⟩) 1 1) 1 (pairsV [((oneOf (-1) 1000 un), 1)]) rfl (own_one (Newest.alloc_ rfl) hs4) ⟨g', 2, none⟩ (m - 1) (c' - 1) (pairsV (L.drop 1)) rfl (by rw [pairsV_length, List.length_drop, HL.out]) (by intro j u hu; rw [pairsV_drop1, List.getElem?_drop] at hu; have hh := CSW.own.cells rfl (2 + j) u hu; rw [add_none] at hh ⊢; rw [Nat.zero_add] at hh; exact hh) pairsV_one (by unfold maxLen; omega) (by omega) CSW.hs ?_; intro v9 w9 hown9 hgr9; have hmm : 1 + (m - 1) = m := (by omega); rw [hmm] at hown9; obtain ⟨g9, c9, rfl, -, -⟩ := own_form hown9 (by omega); have fin := CSW.append hgr9 (fun j hj => (by (have h9 : w4.heap.size = j := (by simpa [Value.ownBlock] using hj)); omega)) (by rw [← pairsV_append] at hown9; exact hown9); clear CSW hown9 hgr9)
              | (have CSW := (cs4.alloc (.cells #[.int .i64 (-1), .int .i64 1000] 3)).alloc (.cells #[.int .i64 (oneOf (-1) 1000 un), .int .i64 1] 39); refine step_append_own rfl (.tmp 64) (.tmp 69) 35 rfl w.heap.size 39 i0 _ 2 16 Tryd.underlying35 hi hz0 hz1 hz2 rfl (by decide) (.slice (some ⟨(w4.heap.size + 1), 0, none⟩) 1 1) 1 (pairsV [((oneOf (-1) 1000 un), 1)]) rfl (own_one (Newest.alloc_ (by simp)) (by omega)) ⟨g', 2, none⟩ (m - 1) (c' - 1) (pairsV (L.drop 1)) rfl (by rw [pairsV_length, List.length_drop, HL.out]) (by intro j u hu; rw [pairsV_drop1, List.getElem?_drop] at hu; have hh := CSW.own.cells rfl (2 + j) u hu; rw [add_none] at hh ⊢; rw [Nat.zero_add] at hh; exact hh) pairsV_one (by unfold maxLen; omega) (by omega) CSW.hs ?_; intro v9 w9 hown9 hgr9; have hmm : 1 + (m - 1) = m := (by omega); rw [hmm] at hown9; obtain ⟨g9, c9, rfl, -, -⟩ := own_form hown9 (by omega); have fin := CSW.append hgr9 (fun j hj => (by (have h9 : (w4.heap.size + 1) = j := (by simpa [Value.ownBlock] using hj)); omega)) (by rw [← pairsV_append] at hown9; exact hown9); clear CSW hown9 hgr9))
            all_goals (go_wp2; go_ret; exact ⟨_, m, _, [((oneOf (-1) 1000 un), 1)] ++ L.drop 1, rfl, (by (have h2 : L.length = m := HL.out); simp only [List.length_append, List.length_drop, List.length_cons, List.length_nil]; omega), (by omega), fin.more (by omega)⟩)
        · have lt3 := cs3.st.lt
          have hcap := own_cap cs.own
          rcases (by omega : m = 0 ∨ (m ≠ 0 ∧ c' = 1) ∨ (m ≠ 0 ∧ ¬ c' = 1)) with hm | ⟨hm, hc1⟩ | ⟨hm, hc1⟩
          · subst hm
            clear x0 x1 cs cs2
            go_wp2_with (fail)
            go_region_law (first
              | (go_simp; go_at_call 61; refine (pick_cs (by first | exact cs3.drew | exact (cs3.alloc _).drew | exact cs3.drew.alloc _) (by omega)).mono ?_; rintro e w4 ⟨u, rfl, u0, u1, cs4, st4⟩; obtain ⟨un, rfl⟩ := Int.eq_ofNat_of_zero_le u0; have ul : un < 2 := (by omega); have hs4 := cs4.hs; have rB := two_at w4 3 (0) 100 un ul; try (have rA : w4.cell? ⟨w3.heap.size, un, none⟩ = some (.int .i64 (oneOf (0) 100 un)) := (st4.cell (by simp) (Nat.ne_of_gt lt3)).trans (two_at w3 3 (0) 100 un ul)))
              | (have CSW := cs4.alloc (.cells #[.int .i64 0, .int .i64 (oneOf 0 100 un)] 39); refine step_append_own rfl (.tmp 46) (.tmp 51) 35 rfl w.heap.size 39 i0 _ 2 16 Tryd.underlying35 hi hz0 hz1 hz2 rfl (by decide) (.slice (some ⟨w4.heap.size, 0, none⟩) 1 1) 1 (pairsV [(0, (oneOf 0 100 un))]) rfl (own_one (Newest.alloc_ rfl) hs4) ⟨g', 0, none⟩ 0 c' (pairsV []) rfl rfl (by intro j u hu; simp [pairsV] at hu) pairsV_one (by unfold maxLen; omega) (by omega) CSW.hs ?_; intro v9 w9 hown9 hgr9; obtain ⟨g9, c9, rfl, -, -⟩ := own_form hown9 (by omega); have fin := CSW.append hgr9 (fun j hj => (by (have h9 : w4.heap.size = j := (by simpa [Value.ownBlock] using hj)); omega)) (by rw [← pairsV_append] at hown9; exact hown9); clear CSW hown9 hgr9)
              | (have CSW := (cs4.alloc (.cells #[.int .i64 (0), .int .i64 100] 3)).alloc (.cells #[.int .i64 0, .int .i64 (oneOf 0 100 un)] 39); refine step_append_own rfl (.tmp 46) (.tmp 51) 35 rfl w.heap.size 39 i0 _ 2 16 Tryd.underlying35 hi hz0 hz1 hz2 rfl (by decide) (.slice (some ⟨(w4.heap.size + 1), 0, none⟩) 1 1) 1 (pairsV [(0, (oneOf 0 100 un))]) rfl (own_one (Newest.alloc_ (by simp)) (by omega)) ⟨g', 0, none⟩ 0 c' (pairsV []) rfl rfl (by intro j u hu; simp [pairsV] at hu) pairsV_one (by unfold maxLen; omega) (by omega) CSW.hs ?_; intro v9 w9 hown9 hgr9; obtain ⟨g9, c9, rfl, -, -⟩ := own_form hown9 (by omega); have fin := CSW.append hgr9 (fun j hj => (by (have h9 : (w4.heap.size + 1) = j := (by simpa [Value.ownBlock] using hj)); omega)) (by rw [← pairsV_append] at hown9; exact hown9); clear CSW hown9 hgr9))
            all_goals (go_wp2; go_ret; exact ⟨_, _, _, _, rfl, (by simp), (by omega), fin.more (by omega)⟩)
          · have hm1 : m = 1 := by omega
            subst hm1; subst hc1
            clear x0 x1 cs cs2
            go_wp2_with (fail)
            go_region_law (first
              | (go_simp; go_at_call 61; refine (pick_cs (by first | exact cs3.drew | exact (cs3.alloc _).drew | exact cs3.drew.alloc _) (by omega)).mono ?_; rintro e w4 ⟨u, rfl, u0, u1, cs4, st4⟩; obtain ⟨un, rfl⟩ := Int.eq_ofNat_of_zero_le u0; have ul : un < 2 := (by omega); have hs4 := cs4.hs; have rB := two_at w4 3 (0) 100 un ul; try (have rA : w4.cell? ⟨w3.heap.size, un, none⟩ = some (.int .i64 (oneOf (0) 100 un)) := (st4.cell (by simp) (Nat.ne_of_gt lt3)).trans (two_at w3 3 (0) 100 un ul)))
              | (have CSW := cs4.alloc (.cells #[.int .i64 0, .int .i64 (oneOf 0 100 un)] 39); refine step_append_own rfl (.tmp 46) (.tmp 51) 35 rfl w.heap.size 39 i0 _ 2 16 Tryd.underlying35 hi hz0 hz1 hz2 rfl (by decide) (.slice (some ⟨w4.heap.size, 0, none⟩) 1 1) 1 (pairsV [(0, (oneOf 0 100 un))]) rfl (own_one (Newest.alloc_ rfl) hs4) ⟨g', 0, none⟩ 0 0 (pairsV []) rfl rfl (by intro j u hu; simp [pairsV] at hu) pairsV_one (by unfold maxLen; omega) (by omega) CSW.hs ?_; intro v9 w9 hown9 hgr9; obtain ⟨g9, c9, rfl, -, -⟩ := own_form hown9 (by omega); have fin := CSW.append hgr9 (fun j hj => (by (have h9 : w4.heap.size = j := (by simpa [Value.ownBlock] using hj)); omega)) (by rw [← pairsV_append] at hown9; exact hown9); clear CSW hown9 hgr9)
              | (have CSW := (cs4.alloc (.cells #[.int .i64 (0), .int .i64 100] 3)).alloc (.cells #[.int .i64 0, .int .i64 (oneOf 0 100 un)] 39); refine step_append_own rfl (.tmp 46) (.tmp 51) 35 rfl w.heap.size 39 i0 _ 2 16 Tryd.underlying35 hi hz0 hz1 hz2 rfl (by decide) (.slice (some ⟨(w4.heap.size + 1), 0, none⟩) 1 1) 1 (pairsV [(0, (oneOf 0 100 un))]) rfl (own_one (Newest.alloc_ (by simp)) (by omega)) ⟨g', 0, none⟩ 0 0 (pairsV []) rfl rfl (by intro j u hu; simp [pairsV] at hu) pairsV_one (by unfold maxLen; omega) (by omega) CSW.hs ?_; intro v9 w9 hown9 hgr9; obtain ⟨g9, c9, rfl, -, -⟩ := own_form hown9 (by omega); have fin := CSW.append hgr9 (fun j hj => (by (have h9 : (w4.heap.size + 1) = j := (by simpa [Value.ownBlock] using hj)); omega)) (by rw [← pairsV_append] at hown9; exact hown9); clear CSW hown9 hgr9))
            all_goals (go_wp2; go_ret; exact ⟨_, _, _, _, rfl, (by simp), (by omega), fin.more (by omega)⟩)
          · have hm1 : 1 ≤ m := by omega
            clear x0 x1 cs cs2
            go_wp2_with (fail)
            have hm3 : (1 : Int) ≤ m := by omega
            go_region_law (first
              | (go_simp; go_at_call 61; refine (pick_cs (by first | exact cs3.drew | exact (cs3.alloc _).drew | exact cs3.drew.alloc _) (by omega)).mono ?_; rintro e w4 ⟨u, rfl, u0, u1, cs4, st4⟩; obtain ⟨un, rfl⟩ := Int.eq_ofNat_of_zero_le u0; have ul : un < 2 := (by omega); have hs4 := cs4.hs; have rB := two_at w4 3 (0) 100 un ul; try (have rA : w4.cell? ⟨w3.heap.size, un, none⟩ = some (.int .i64 (oneOf (0) 100 un)) := (st4.cell (by simp) (Nat.ne_of_gt lt3)).trans (two_at w3 3 (0) 100 un ul)))
              | (refine step_min rfl (.tmp 49) 3 rfl m rfl hm1 ?_)
              | (have CSW := cs4.alloc (.cells #[.int .i64 0, .int .i64 (oneOf 0 100 un)] 39); refine step_append_own rfl (.tmp 46) (.tmp 51) 35 rfl w.heap.size 39 i0 _ 2 16 Tryd.underlying35 hi hz0 hz1 hz2 rfl (by decide) (.slice (some ⟨w4.heap.size, 0, none⟩) 1 1) 1 (pairsV [(0, (oneOf 0 100 un))]) rfl (own_one (Newest.alloc_ rfl) hs4) ⟨g', 2, none⟩ (m - 1) (c' - 1) (pairsV (L.drop 1)) rfl (by rw [pairsV_length, List.length_drop, HL.out]) (by intro j u hu; rw [pairsV_drop1, List.getElem?_drop] at hu; have hh := CSW.own.cells rfl (2 + j) u hu; rw [add_none] at hh ⊢; rw [Nat.zero_add] at hh; exact hh) pairsV_one (by unfold maxLen; omega) (by omega) CSW.hs ?_; intro v9 w9 hown9 hgr9; have hmm : 1 + (m - 1) = m := (by omega); rw [hmm] at hown9; obtain ⟨g9, c9, rfl, -, -⟩ := own_form hown9 (by omega); have fin := CSW.append hgr9 (fun j hj => (by (have h9 : w4.heap.size = j := (by simpa [Value.ownBlock] using hj)); omega)) (by rw [← pairsV_append] at hown9; exact hown9); clear CSW hown9 hgr9)
              | (have CSW := (cs4.alloc (.cells #[.int .i64 (0), .int .i64 100] 3)).alloc (.cells #[.int .i64 0, .int .i64 (oneOf 0 100 un)] 39); refine step_append_own rfl (.tmp 46) (.tmp 51) 35 rfl w.heap.size 39 i0 _ 2 16 Tryd.underlying35 hi hz0 hz1 hz2 rfl (by decide) (.slice (some ⟨(w4.heap.size + 1), 0, none⟩) 1 1) 1 (pairsV [(0, (oneOf 0 100 un))]) rfl (own_one (Newest.alloc_ (by simp)) (by omega)) ⟨g', 2, none⟩ (m - 1) (c' - 1) (pairsV (L.drop 1)) rfl (by rw [pairsV_length, List.length_drop, HL.out]) (by intro j u hu; rw [pairsV_drop1, List.getElem?_drop] at hu; have hh := CSW.own.cells rfl (2 + j) u hu; rw [add_none] at hh ⊢; rw [Nat.zero_add] at hh; exact hh) pairsV_one (by unfold maxLen; omega) (by omega) CSW.hs ?_; intro v9 w9 hown9 hgr9; have hmm : 1 + (m - 1) = m := (by omega); rw [hmm] at hown9; obtain ⟨g9, c9, rfl, -, -⟩ := own_form hown9 (by omega); have fin := CSW.append hgr9 (fun j hj => (by (have h9 : (w4.heap.size + 1) = j := (by simpa [Value.ownBlock] using hj)); omega)) (by rw [← pairsV_append] at hown9; exact hown9); clear CSW hown9 hgr9))
            all_goals (go_wp2; go_ret; exact ⟨_, m, _, [(0, (oneOf 0 100 un))] ++ L.drop 1, rfl, (by (have h2 : L.length = m := HL.out); simp only [List.length_append, List.length_drop, List.length_cons, List.length_nil]; omega), (by omega), fin.more (by omega)⟩)
end Go.Proofs.YtiddlpgpbafdmaaDoor
