/- What is drawn: rows of heats. -/
import Derived.Test.YtblbfgoifaddiaaDoorDrawH
namespace Go.Proofs.YtblbfgoifaddiaaDoor
open Go.RowKit
set_option linter.unusedVariables false
set_option linter.unusedSimpArgs false
theorem info_Heat : (Tryd.prog.info? 34).map (fun i => (i.zero, i.size, i.bytes)) = some (some (.agg #[.int .i64 0, .int .i64 0, .int .i64 0]), 3, 24) := by kernel_rfl
theorem own_one3 {w : World} {gl base : Nat} {e : TypeId} {p q r : Int} (h : Newest w gl e #[.int .i64 p, .int .i64 q, .int .i64 r]) (hb : base ≤ gl) : w.ownsRow base e 3 (.slice (some ⟨gl, 0, none⟩) 1 1) 1 (tripV [(p, q, r)]) :=
  ⟨by simp [tripV], .inr ⟨gl, 1, _, rfl, hb, h, Nat.le_refl _, by unfold maxLen; omega, by simp, by simp [tripV]⟩⟩
def DrawnHs (W : World) (R K : Nat) (w : World) (e : Ending) (w' : World) : Prop := ∃ (A : Option Addr) (n c : Nat) (L : List (Int × Int × Int)), e = .returned (.slice A n c) ∧ L.length = n ∧ n ≤ 7 ∧ OS W w' R (K + 60) w.heap.size 34 3 (.slice A n c) n (tripV L)
set_option maxRecDepth 100000 in
set_option maxHeartbeats 1000000 in
theorem heats_st {W w : World} {R K : Nat} {N : Int} (st : St W w R K) (hK : K ≤ 9000) (hN : 0 < N) (hN' : N < 1000) :
    Calls Tryd.prog 37 #[.pointer (some ⟨R, 0, none⟩), .int .i64 N] w (DrawnHs W R K w) := by
  obtain ⟨i0, hi, hz0, hz1, hz2⟩ := info_parts info_Heat
  have lt := st.lt
  have sW := st.gr.size
  have os0 : OS W (w.alloc (.cells #[] 34)) R K w.heap.size 34 3 (.slice (some ⟨w.heap.size, 0, none⟩) 0 0) 0 (tripV []) := OS.made st _ _
  clear st
  go_enter Tryd.func37, Tryd.ntmps37
  go_wp2_with (fail)
  refine (pick_os os0 (by omega)).mono ?_
  rintro e w2 ⟨k0, rfl, k00, k01, os2, -⟩
  have hk0 : k0 ≤ 5 := by omega
  clear k01 os0
  go_wp2_with (fail)
  go_loopw [5, 6] (fun v i wr => ∃ (k m : Nat) (A' : Option Addr) (c' : Nat) (L : List (Int × Int × Int)) (K' : Nat), m + k ≤ 5 ∧ i = .int .i64 k ∧ (∃ g', A' = some ⟨g', 0, none⟩) ∧ v = .slice A' m c' ∧ L.length = m ∧ OS W wr R K' w.heap.size 34 3 (.slice A' m c') m (tripV L) ∧ K' + 6 * k ≤ K + 40) (fun _ i _ => (intOf i).toNat)
  case atStart => exact ⟨k0.toNat, 0, _, _, [], K + 1, by omega, by rw [Int.toNat_of_nonneg k00], ⟨_, rfl⟩, rfl, rfl, os2, by omega⟩
  case round =>
    obtain ⟨k, m, A', c', L, K', hkm, rfl, ⟨g', rfl⟩, rfl, hL, os, hK'⟩ := hrel
    have HL := Lib.hid hL
    clear hL os2
    by_cases hlt : 0 < k
    · go_wp2_with (fail)
      refine (heat_st (N := 0) (os.st.self (Below.refl _ _)) (by omega) (by omega) (by omega)).mono ?_
      rintro e w3 ⟨a, b, c, rfl, st3⟩
      have OS3 := Lib.hid (os.draw st3)
      have hs3 := OS3.out.hs
      clear os st3
      go_wp2_with (at_builtin; go_must (refine wpList_append_own_w _ (by rfl) (.tmp 14) (.tmp 17) 23 rfl w.heap.size 34 i0 _ 3 24 Tryd.underlying23 hi hz0 hz1 hz2 rfl (by decide) (.slice (some ⟨g', 0, none⟩) m c') m (tripV L) rfl (OS3.out.alloc _).own ⟨w3.heap.size, 0, none⟩ 1 1 (tripV [(a, b, c)]) rfl rfl (news_trip (Newest.alloc_ rfl)) tripV_one (by unfold maxLen; omega) (by omega) (by simp; omega) ?_); intro v9 w9 hown9 hgr9 hv9; have os9 := (OS3.out.alloc _).append hgr9 (fun k hk => own_ge OS3.out.own hk) hown9; rw [← tripV_append] at os9; obtain ⟨g9, c9, rfl, -, -⟩ := own_form hown9 (by omega); clear hown9 hgr9 hv9)
      go_roundw
      case rel => exact ⟨k - 1, m + 1, _, _, L ++ [(a, b, c)], _, by omega, by go_num, ⟨_, rfl⟩, rfl, by rw [List.length_append, HL.out]; rfl, os9, by omega⟩
      case measure => simp [intOf] <;> omega
    · go_wp2_with (fail)
      refine (odd_os os (by omega) (by omega)).mono ?_
      rintro e w4 ⟨o, rfl, os4⟩
      clear os
      cases o
      · go_wp2
        go_ret
        exact ⟨_, m, _, L, rfl, HL.out, by omega, os4.more (by omega)⟩
      · go_wp2_with (fail)
        refine (pick_os os4 (by omega)).mono ?_
        rintro e w5 ⟨s, rfl, s0, s1, os5, -⟩
        have hs5 := os5.hs
        have OS5 := Lib.hid os5
        clear os4
        by_cases hs : s = 0
        · subst hs
          clear os5
          go_wp2_with (at_make; refine wpList_make_full _ rfl _ _ 23 rfl w.heap.size 34 i0 _ 3 Tryd.underlying23 hi hz0 hz1 .i64 .i64 _ _ 7 rfl rfl rfl rfl (by rw [hz2]; omega) (by unfold maxLen; omega) hs5 ?_; intro w6 hown6 hgr6; have os6 := OS5.out.append hgr6 (fun k hk => by cases hk) hown6)
          rw [madeT] at os6
          go_ret
          exact ⟨_, _, _, List.replicate 7 (0, 0, 0), rfl, by simp, by omega, os6.more (by omega)⟩
        · have hsb : (s == 0) = false := by simpa using hs
          go_wp2_with (fail)
          refine (heat_st (N := 1) (os5.st.self (Below.refl _ _)) (by omega) (by omega) (by omega)).mono ?_
          rintro e w6 ⟨a, b, c, rfl, st6⟩
          have OS6 := Lib.hid (os5.draw st6)
          have hs6 := OS6.out.hs
          clear os5 st6
          go_wp2_with (at_builtin; go_must (refine wpList_append_own_w _ (by rfl) (.tmp 28) (.tmp 29) 23 rfl w.heap.size 34 i0 _ 3 24 Tryd.underlying23 hi hz0 hz1 hz2 rfl (by decide) (.slice (some ⟨w6.heap.size, 0, none⟩) 1 1) 1 (tripV [(a, b, c)]) rfl (own_one3 (Newest.alloc_ rfl) hs6) ⟨g', 0, none⟩ m c' (tripV L) rfl (by rw [tripV_length, HL.out]) (own_cells (OS6.out.alloc _).own) tripV_one (by unfold maxLen; omega) (by omega) (by simp; omega) ?_); intro v9 w9 hown9 hgr9 hv9; have os9 := (OS6.out.alloc _).append hgr9 (fun k hk => by simp [Value.ownBlock] at hk; omega) hown9; rw [← tripV_append] at os9; obtain ⟨g9, c9, rfl, -, -⟩ := own_form hown9 (by omega); clear hown9 hgr9 hv9)
          go_ret
          exact ⟨_, 1 + m, _, [(a, b, c)] ++ L, rfl, by rw [List.length_append, HL.out]; rfl, by omega, os9.more (by omega)⟩
end Go.Proofs.YtblbfgoifaddiaaDoor
