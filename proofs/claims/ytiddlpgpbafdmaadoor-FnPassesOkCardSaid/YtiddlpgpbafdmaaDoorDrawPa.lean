/- What is drawn for the laws FnPassesOk, FnPassOver and FnPassInside. -/
import Derived.Test.YtiddlpgpbafdmaaDoorOS2
import Derived.Test.YtiddlpgpbafdmaaDoorPassSpec
import Derived.Test.YtiddlpgpbafdmaaDoorEndPlain
import Derived.Test.YtiddlpgpbafdmaaDoorSz
namespace Go.Proofs.YtiddlpgpbafdmaaDoor
open Go.RowKit
set_option linter.unusedVariables false
/-- drawn slabs, a furnace, and times -/
def DrawnPa (w : World) (e : Ending) (w' : World) : Prop := ∃ (A : Option Addr) (n c : Nat) (L : List (Int × Int)) (r p : Int) (A2 : Option Addr) (n2 c2 : Nat) (M : List (Int × Int)), e = .returned (.tuple #[.slice A n c, .agg #[.int .i64 r, .int .i64 p], .slice A2 n2 c2]) ∧ L.length = n ∧ n ≤ 9 ∧ M.length = n2 ∧ n2 ≤ 1001 ∧ w'.ownsRow w.heap.size 39 2 (.slice A n c) n (pairsV L) ∧ w'.ownsRow w.heap.size 47 2 (.slice A2 n2 c2) n2 (pairsV M)
set_option maxRecDepth 100000 in
set_option maxHeartbeats 2000000 in
theorem passes_st {W w : World} {R K : Nat} (st : St W w R K) (hK : K ≤ 100) :
    Calls Tryd.prog 63 #[.pointer (some ⟨R, 0, none⟩)] w fun e w' => DrawnPa w e w' ∧ ∃ K', K' ≤ 5000 ∧ St W w' R K' := by
  obtain ⟨i0, hi, hz0, hz1, hz2⟩ := info_parts info_Pass
  have lt := st.lt
  have sW := st.gr.size
  have b2 : Below w.heap.size w (w.alloc (.cells #[.int .i64 0, .int .i64 0] 24)) := (Below.refl _ w).alloc (Nat.le_refl _) _
  have st2 := st.self b2
  have hs2 : (w.alloc (.cells #[.int .i64 0, .int .i64 0] 24)).heap.size = w.heap.size + 1 := World.size_alloc _ _
  have d0 : (w.alloc (.cells #[.int .i64 0, .int .i64 0] 24)).cell? ⟨w.heap.size, 0, none⟩ = some (.int .i64 0) := by go_simp
  have d1 : (w.alloc (.cells #[.int .i64 0, .int .i64 0] 24)).cell? ⟨w.heap.size, 1, none⟩ = some (.int .i64 0) := by go_simp
  have g0 : (w.alloc (.cells #[.int .i64 0, .int .i64 0] 24)).frozen? ⟨w.heap.size, 0, none⟩ = false := by go_simp
  have g1 : (w.alloc (.cells #[.int .i64 0, .int .i64 0] 24)).frozen? ⟨w.heap.size, 1, none⟩ = false := by go_simp
  go_enter Tryd.func63, Tryd.ntmps63
  go_wp2_with (fail)
  generalize w.alloc (.cells #[.int .i64 0, .int .i64 0] 24) = w2 at st2 b2 hs2 d0 d1 g0 g1 ⊢
  refine (charges_st st2 (by omega) (by omega) (by omega) (by omega) (by omega)).mono ?_
  rintro e w4 ⟨A4, n4, c4, L, rfl, hL, hn9, cs4⟩
  go_wp2_with (fail)
  refine (furn_cs cs4 (by omega) (by omega) (by omega)).mono ?_
  rintro e w5 ⟨r, p, rfl, cs5⟩
  have HL := Lib.hid hL
  have hs5 := cs5.hs
  have cs6 := cs5.alloc (.cells #[.int .i64 r, .int .i64 p] 24)
  have hs6 : (w5.alloc (.cells #[.int .i64 r, .int .i64 p] 24)).heap.size = w5.heap.size + 1 := World.size_alloc _ _
  have q0 : (w5.alloc (.cells #[.int .i64 r, .int .i64 p] 24)).cell? ⟨w5.heap.size, 0, none⟩ = some (.int .i64 r) := by go_simp
  have q1 : (w5.alloc (.cells #[.int .i64 r, .int .i64 p] 24)).cell? ⟨w5.heap.size, 1, none⟩ = some (.int .i64 p) := by go_simp
  have u0 : (w5.alloc (.cells #[.int .i64 r, .int .i64 p] 24)).frozen? ⟨w5.heap.size, 0, none⟩ = false := by go_simp
  have u1 : (w5.alloc (.cells #[.int .i64 r, .int .i64 p] 24)).frozen? ⟨w5.heap.size, 1, none⟩ = false := by go_simp
  have hb0 := cs5.st.gr.block w.heap.size (by omega) (by simp; omega)
  have hb6 : (w5.alloc (.cells #[.int .i64 r, .int .i64 p] 24)).heap[w.heap.size]? = w5.heap[w.heap.size]? := Below.heap_alloc w5 _ _ (by omega)
  obtain ⟨D0, D1, G0, G1⟩ := cell2 (hb6.trans hb0) d0 d1 g0 g1
  clear cs4
  go_wp2_with (fail)
  generalize w5.alloc (.cells #[.int .i64 r, .int .i64 p] 24) = w6 at cs6 hs6 q0 q1 u0 u1 D0 D1 G0 G1 ⊢
  clear hb6 hb0
  refine (specTimes_any A4 n4 c4 L r p _ HL.out (RdP.of_own cs6.own) (by omega)).mono ?_
  intro e w7 hrow
  have hSl := timesOf_len L r p
  generalize timesOf L r p = M0 at hrow hSl
  obtain ⟨n7, hn7⟩ : ∃ k, M0.length = k := ⟨_, rfl⟩
  obtain ⟨A7, c7, rfl, own7, hb7⟩ := hrow.at_ hn7
  rw [hn7] at hSl
  have os7 : OS w6 w7 R (K + 40 + 3) w6.heap.size 47 2 (.slice A7 n7 c7) n7 (pairsV M0) := ⟨(cs6.st.self (Below.refl _ _)).step hb7 (Nat.le_refl _), own7, cs6.st.lt, Nat.le_refl _, hb7.size⟩
  clear own7 hb7 hrow hL st2
  go_wp2_with (fail)
  refine (pick_os os7 (by omega)).mono ?_
  rintro e w8 ⟨x, rfl, -, -, os8, -⟩
  clear os7
  go_wp2_with (fail)
  refine (pick_os os8 (by omega)).mono ?_
  rintro e w9 ⟨y, rfl, -, -, os9, -⟩
  clear os8
  obtain ⟨late, hlate⟩ : ∃ z, IntKind.i64.wrap (x * y) = z := ⟨_, rfl⟩
  go_wp2_with (fail)
  refine (pick_os os9 (by omega)).mono ?_
  rintro e w10 ⟨at0, rfl, a0, a1, os10, -⟩
  have ha7 : at0 ≤ 7 := by omega
  clear os9 a1
  go_wp2_with (fail)
  have OS10 := Lib.hid os10
  clear os10
  go_loopw [10] (fun i wr => ∃ (k : Nat) (M : List (Int × Int)) (K' : Nat), i = .int .i64 k ∧ k ≤ 3000 ∧ M.length = n7 ∧ OS w6 wr R K' w6.heap.size 47 2 (.slice A7 n7 c7) n7 (pairsV M) ∧ K' ≤ K + 60 + k) (fun i _ => n7 - (intOf i).toNat)
  case atStart => exact ⟨at0.toNat, M0, _, by rw [Int.toNat_of_nonneg a0], by omega, hn7, OS10.out, by omega⟩
  case round =>
    obtain ⟨k, M, K', rfl, hk3, hM, os, hK'⟩ := hrel
    have HM := Lib.hid hM
    clear hM OS10
    by_cases hlt : k < n7
    · obtain ⟨g, cc, hform, -, -⟩ := own_form os.own (by omega)
      injection hform with hA _ hC
      subst hA
      clear hC
      obtain ⟨⟨xx, yy⟩, hxy⟩ : ∃ q, M[k]? = some q := ⟨_, List.getElem?_eq_getElem (by rw [HM.out]; omega)⟩
      obtain ⟨c1, c2⟩ := own_pair os.own hxy
      have f1 := os.own.frozenAt (k * 2)
      obtain ⟨z, hz⟩ : ∃ z, IntKind.i64.wrap (xx + late) = z := ⟨_, rfl⟩
      obtain ⟨z2, hz2'⟩ : ∃ z, IntKind.i64.wrap (yy + late) = z := ⟨_, rfl⟩
      have os2 := os.set2 hxy z
      have hk2 : (M.set k (z, yy))[k]? = some (z, yy) := List.getElem?_set_self (by rw [HM.out]; exact hlt)
      have HK2 := Lib.hid hk2
      clear os hxy c2 hk2
      go_wp2_with (fail)
      generalize wr.setCell ⟨g, k * 2, none⟩ (.int .i64 z) = w11 at os2 ⊢
      have e2 := (own_pair os2.own HK2.out).2
      have f3 := os2.own.frozenAt (k * 2 + 1)
      clear c1 f1 hz
      go_region_law (first
        | (go_simp; go_at_call 61; refine (pick_os (by first | exact os2.drew | exact os2) (by omega)).mono ?_; rintro e w12 ⟨u, rfl, -, -, os9, -⟩; have e9 := (own_pair os9.own HK2.out).2; have f9 := os9.own.frozenAt (k * 2 + 1); obtain ⟨z3, hz3⟩ : ∃ z, IntKind.i64.wrap (z2 + u) = z := ⟨_, rfl⟩))
      all_goals
        clear hz3 hz2'
        go_wp2
        go_roundw
        case rel => exact ⟨k + 1, (M.set k (z, yy)).set k (z, z3), _, by go_num, by omega, by rw [List.length_set, List.length_set]; exact HM.out, os9.set3 HK2.out z3, by omega⟩
        case measure => simp [intOf] <;> omega
    · go_wp2_with (fail)
      refine (odd_os os (by omega) (by omega)).mono ?_
      rintro e w11 ⟨o, rfl, os11⟩
      clear os
      cases o
      · have cF := cell2 (os11.st.gr.block w5.heap.size (by omega) (by simp; omega)) q0 q1 u0 u1
        have cB := cell2 (os11.st.gr.block w.heap.size (by omega) (by simp; omega)) D0 D1 G0 G1
        obtain ⟨x0', x1', -, -⟩ := cF
        obtain ⟨y0', y1', z0', z1'⟩ := cB
        have ownL := own_lower (base' := w.heap.size) (own_two (b := w.heap.size) (own_other cs6.own os11.st.gr (fun k hk => by have := own_ge cs6.own hk; omega)) (by omega) (.int .i64 r) (.int .i64 p)) (by omega)
        have ownM := own_lower (base' := w.heap.size) (own_two (b := w.heap.size) os11.own (by omega) (.int .i64 r) (.int .i64 p)) (by omega)
        have stF := st.own b2 (cs6.st.own (Below.refl _ _) os11.st (Below.refl _ _)) (below_set2 _ _ (.int .i64 r) (.int .i64 p))
        clear os11 cs6 cs5 st b2 q0 q1 u0 u1 D0 D1 G0 G1 d0 d1 g0 g1
        go_wp2_with (fail)
        go_region_law (fail)
        all_goals
          go_wp2
          exact bodyPost_ret (v := .tuple #[.slice A4 n4 c4, .agg #[.int .i64 r, .int .i64 p], .slice A7 n7 c7]) (by simp [results, Tryd.results63, go_sem, y0', y1']) rfl ⟨⟨A4, n4, c4, L, r, p, _, n7, _, M, rfl, HL.out, hn9, HM.out, by omega, own_drew ownL, own_drew ownM⟩, K' + 1, by omega, stF.step (Below.refl _ _).drew (Nat.le_refl _)⟩
      · have hs11 := os11.hs
        have OS11 := Lib.hid os11
        clear os11
        go_wp2_with (at_builtin; go_must (refine wpList_append_own_w _ (by rfl) (.tmp 59) (.tmp 61) 43 rfl w6.heap.size 47 i0 _ 2 16 Tryd.underlying43 hi hz0 hz1 hz2 rfl (by decide) (.slice A7 n7 c7) n7 (pairsV M) rfl (OS11.out.alloc _).own ⟨w11.heap.size, 0, none⟩ 1 1 (pairsV [(5, 9)]) rfl rfl (cells_one2 (Newest.alloc_ rfl)) pairsV_one (by unfold maxLen; omega) (by omega) (by simp; omega) ?_); intro v9 w12 hown9 hgr9 hv9; have os12 := (OS11.out.alloc _).append hgr9 (fun k hk => own_ge OS11.out.own hk) hown9; rw [← pairsV_append] at os12; obtain ⟨g9, c9, rfl, -, -⟩ := own_form hown9 (by omega); clear hown9 hgr9 hv9)
        have cF := cell2 (os12.st.gr.block w5.heap.size (by omega) (by simp; omega)) q0 q1 u0 u1
        have cB := cell2 (os12.st.gr.block w.heap.size (by omega) (by simp; omega)) D0 D1 G0 G1
        obtain ⟨x0', x1', -, -⟩ := cF
        obtain ⟨y0', y1', z0', z1'⟩ := cB
        have ownL := own_lower (base' := w.heap.size) (own_two (b := w.heap.size) (own_other cs6.own os12.st.gr (fun k hk => by have := own_ge cs6.own hk; omega)) (by omega) (.int .i64 r) (.int .i64 p)) (by omega)
        have ownM := own_lower (base' := w.heap.size) (own_two (b := w.heap.size) os12.own (by omega) (.int .i64 r) (.int .i64 p)) (by omega)
        have stF := st.own b2 (cs6.st.own (Below.refl _ _) os12.st (Below.refl _ _)) (below_set2 _ _ (.int .i64 r) (.int .i64 p))
        clear os12 cs6 cs5 st b2 q0 q1 u0 u1 D0 D1 G0 G1 d0 d1 g0 g1
        try go_wp2_with (fail)
        go_region_law (fail)
        all_goals
          go_wp2
          exact bodyPost_ret (v := .tuple #[.slice A4 n4 c4, .agg #[.int .i64 r, .int .i64 p], .slice (some ⟨g9, 0, none⟩) (n7 + 1) c9]) (by simp [results, Tryd.results63, go_sem, y0', y1']) rfl ⟨⟨A4, n4, c4, L, r, p, _, n7 + 1, _, M ++ [(5, 9)], rfl, HL.out, hn9, by rw [List.length_append, HM.out]; rfl, by omega, own_drew ownL, own_drew ownM⟩, K' + 1, by omega, stF.step (Below.refl _ _).drew (Nat.le_refl _)⟩
end Go.Proofs.YtiddlpgpbafdmaaDoor
