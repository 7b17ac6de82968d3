/- What is drawn for the laws on strands: a length, and wanted lengths. -/
import Derived.Test.YtcegmlogjbnoeaaDoorDrawOS
namespace Go.Proofs.YtcegmlogjbnoeaaDoor
open Go.RowKit
set_option linter.unusedVariables false
theorem step_append_os {P : Program} {ops : Array Oper} {o : Oper} {a : Act} {W w : World} {C : Act → World → Prop} {Q : Exit → Act → World → Prop} {E : Prop} {R K B : Nat}
    (hg : o.guard = none) (s x : Operand) (t : TypeId) (hop : o.op = Op.call { callee := Callee.builtin Builtin.append, args := #[s, x], argTypes := #[t, t] })
    (e : TypeId) (i : TypeInfo) (z : Value) (size bytes : Nat) (h1 : P.underlying t = some (.slice e)) (h2 : P.info? e = some i) (h3 : i.zero = some z) (h4 : i.size = size) (h5 : i.bytes = bytes) (h6 : z.cells.size = size) (h7 : 0 < size)
    (v : Value) (n : Nat) (xs : List Value) (hs : a.eval s = v) (h : OS W w R K B e size v n xs)
    (ad : Addr) (m c : Nat) (news : List Value) (hx : a.eval x = .slice (some ad) m c) (hn : news.length = m * size) (hc : ∀ j u, news[j]? = some u → w.cell? (ad.add j) = some u) (h1c : ∀ u ∈ news, u.oneCell' = true)
    (b1 : n + m ≤ maxLen) (b2 : (n + m) * bytes ≤ 140737488355328)
    (hK : ∀ v' w', OS W w' R K B e size v' (n + m) (xs ++ news) → C (a.put o.dst v') w') :
    if Region.wanted o (yielded ops a.tmps) = true then Oper.wp P o a w C Q else E :=
  step_append_own hg s x t hop B e i z size bytes h1 h2 h3 h4 h5 h6 h7 v n xs hs h.own ad m c news hx hn hc h1c b1 b2 h.hs fun v' w' ho hgr => hK v' w' (h.append hgr (fun k hk => own_ge h.own hk) ho)
theorem new_int {w : World} {gl : Nat} {e : TypeId} {p : Int} (h : Newest w gl e #[.int .i64 p]) : ∀ j u, (intsV .i64 [p])[j]? = some u → w.cell? ((⟨gl, 0, none⟩ : Addr).add j) = some u :=
  news_int (by
    have hg : w.heap[gl]? = some (.cells #[.int .i64 p] e (0, 0)) := h
    rw [cell_of_row w _ 0 _ e (0, 0) hg]; rfl)
theorem own_int {w : World} {base g n c : Nat} {e : TypeId} {xs : List Int} (h : w.ownsRow base e 1 (.slice (some ⟨g, 0, none⟩) n c) n (intsV .i64 xs)) {j : Nat} {x : Int} (hj : xs[j]? = some x) : w.cell? ⟨g, j, none⟩ = some (.int .i64 x) := by
  have hl := h.1
  have hlt := (List.getElem?_eq_some_iff.1 hj).1
  simp only [intsV, List.length_map] at hl
  rw [h.cellAt j (by omega)]
  simp [intsV, hj]
theorem intsV_drop (k : IntKind) (xs : List Int) (m : Nat) : intsV k (xs.drop m) = (intsV k xs).drop m := by simp [intsV, List.map_drop]
theorem tail_cells {w : World} {base g n c : Nat} {e : TypeId} {xs : List Int} (h : w.ownsRow base e 1 (.slice (some ⟨g, 0, none⟩) n c) n (intsV .i64 xs)) (i : Nat) : ∀ j u, (intsV .i64 (xs.drop i))[j]? = some u → w.cell? ((⟨g, i, none⟩ : Addr).add j) = some u := by
  intro j u hu
  rw [intsV_drop, List.getElem?_drop] at hu
  have hh := h.cells rfl (i + j) u hu
  rw [add_none] at hh ⊢
  rw [Nat.zero_add] at hh
  exact hh
theorem own_new1 (base : Nat) (e : TypeId) (x : Int) (w : World) (hb : base ≤ w.heap.size) : (w.alloc (.cells #[.int .i64 x] e)).ownsRow base e 1 (.slice (some ⟨w.heap.size, 0, none⟩) 1 1) 1 (intsV .i64 [x]) :=
  ⟨by simp [intsV], .inr ⟨w.heap.size, 1, #[.int .i64 x], rfl, hb, heap_alloc_new w _, Nat.le_refl _, by decide, rfl, by simp [intsV]⟩⟩
set_option maxHeartbeats 1000000 in
theorem long_st {W w : World} {R K : Nat} (st : St W w R K) (hK : K ≤ 10000) :
    Calls Tryd.prog 76 #[.pointer (some ⟨R, 0, none⟩)] w fun e w' => ∃ v : Int, e = .returned (.int .i64 v) ∧ -70 ≤ v ∧ v ≤ 121 ∧ St W w' R (K + 3) ∧ w'.heap.size = w.heap.size := by
  go_enter Tryd.func76, Tryd.ntmps76
  go_wp2_with (fail)
  refine (pick_st st (by omega)).mono ?_
  rintro e w1 ⟨x, rfl, x0, x1, st1, hz1⟩
  go_wp2_with (fail)
  refine (pick_st st1 (by omega)).mono ?_
  rintro e w2 ⟨y, rfl, y0, y1, st2, hz2⟩
  go_wp2_with (fail)
  refine (pick_st st2 (by omega)).mono ?_
  rintro e w3 ⟨z, rfl, z0, z1, st3, hz3⟩
  go_wp2
  go_ret
  exact ⟨_, rfl, by omega, by omega, st3, by omega⟩
set_option maxRecDepth 100000 in
set_option maxHeartbeats 4000000 in
theorem lengths_st {W w : World} {R K : Nat} {N : Int} (st : St W w R K) (hK : K ≤ 10000) (hN : 0 < N) (hN' : N < 1000) :
    Calls Tryd.prog 74 #[.pointer (some ⟨R, 0, none⟩), .int .i64 N] w fun e w' => ∃ A n c L, e = .returned (.slice A n c) ∧ L.length = n ∧ n ≤ 9 ∧ OS W w' R (K + 40) w.heap.size 3 1 (.slice A n c) n (intsV .i64 L) := by
  obtain ⟨i0, hi, hz0, hz1, hz2⟩ := info_parts info_int
  have lt := st.lt
  have sW := st.gr.size
  go_enter Tryd.func74, Tryd.ntmps74
  go_wp2_with (fail)
  refine (pick_st st (by omega)).mono ?_
  rintro e w1 ⟨x, rfl, x0, x1, st1, hzz⟩
  have os0 : OS W (w1.alloc (.cells #[.int .i64 (3 + x)] 3)) R (K + 1) w.heap.size 3 1 (.slice (some ⟨w1.heap.size, 0, none⟩) 1 1) 1 (intsV .i64 [3 + x]) :=
    ⟨st1.step ((Below.refl _ _).alloc (Nat.le_refl _) _) (Nat.le_refl _), own_one1 (Newest.alloc_ rfl) (by omega), lt, sW, by simp; omega⟩
  go_wp2_with (fail)
  refine (pick_os os0 (by omega)).mono ?_
  rintro e w2 ⟨k0, rfl, k00, k01, os1, -⟩
  have hk0 : k0 ≤ 3 := by omega
  have hx1 : x ≤ 7 := by omega
  rw [hzz] at os1
  clear k01 os0 st st1 x1
  go_wp2_with (fail)
  go_loopw [5, 6] (fun v i wr => ∃ (k m : Nat) (A' : Option Addr) (c' : Nat) (L : List Int) (l : Int) (K' : Nat), k + m ≤ 3 ∧ i = .int .i64 k ∧ (∃ g', A' = some ⟨g', 0, none⟩) ∧ v = .slice A' (m + 1) c' ∧ L.length = m + 1 ∧ L[m]? = some l ∧ 0 ≤ l ∧ l ≤ 10 + 9 * m ∧ OS W wr R K' w.heap.size 3 1 (.slice A' (m + 1) c') (m + 1) (intsV .i64 L) ∧ K' ≤ K + 2 + m) (fun _ i _ => (intOf i).toNat)
  case atStart => exact ⟨k0.toNat, 0, _, _, [3 + x], 3 + x, K + 2, by omega, by rw [Int.toNat_of_nonneg k00], ⟨_, rfl⟩, rfl, rfl, rfl, by omega, by omega, os1, by omega⟩
  case round =>
    obtain ⟨k, m, A', c', L, l, K', hkm, rfl, ⟨g', rfl⟩, rfl, hL, hl, l0, l1, os, hK'⟩ := hrel
    have HL := Lib.hid hL
    have HLL := Lib.hid hl
    have hc1 := own_int os.own hl
    have cap := own_cap os.own
    clear hL hl os1
    by_cases hlt : 0 < k
    · have W1 : IntKind.i64.wrap (m : Int) = m := IntWalk.i64_in _ (by omega)
      have W2 : IntKind.i64.wrap (l + 1) = l + 1 := IntWalk.i64_in _ (by omega)
      have B1 : (m : Int) < m + 1 := by omega
      go_wp2_with (fail)
      go_region_law (first
        | (go_simp; go_at_call 80; refine (pick_os (by first | exact os | exact os.drew) (by omega)).mono ?_; rintro e w4 ⟨u, rfl, u0, u1, os4, st4⟩; have hc4 := own_int os4.own HLL.out; have hs4 := os4.hs; have hu : u < 8 := (by omega); have W3 : IntKind.i64.wrap (l + 1 + u) = l + 1 + u := IntWalk.i64_in _ (by omega))
        | (refine step_append_os rfl (.tmp 17) (.tmp 28) 24 rfl 3 i0 _ 1 8 Tryd.underlying24 hi hz0 hz1 hz2 rfl (by decide) (.slice (some ⟨g', 0, none⟩) (m + 1) c') (m + 1) (intsV .i64 L) rfl (by first | exact os4.alloc _ | exact os4.drew.alloc _) ⟨w4.heap.size, 0, none⟩ 1 1 (intsV .i64 [l + 1 + u]) rfl rfl (new_int (Newest.alloc_ rfl)) intsV_one (by unfold maxLen; omega) (by omega) ?_; intro v9 w9 os9))
      all_goals
        obtain ⟨g9, c9, rfl, -, -⟩ := own_form os9.own (by omega)
        rw [← intsV_append] at os9
        clear W1 W2 W3
        go_wp2
        go_roundw
        case rel => exact ⟨k - 1, m + 1, _, _, _, l + 1 + u, _, by omega, by go_num, ⟨_, rfl⟩, rfl, by rw [List.length_append, HL.out]; rfl, by rw [List.getElem?_append_right (by rw [HL.out]; omega), HL.out, Nat.sub_self]; rfl, by omega, by omega, os9, by omega⟩
        case measure => simp [intOf] <;> omega
    · go_wp2_with (fail)
      refine (odd_os os (by omega) (by omega)).mono ?_
      rintro e w2 ⟨o, rfl, os2⟩
      cases o
      · go_wp2
        go_ret
        exact ⟨_, _, _, L, rfl, HL.out, by omega, os2.more (by omega)⟩
      · go_wp2_with (fail)
        refine (pick_os os2 (by omega)).mono ?_
        rintro e w3 ⟨x, rfl, x0, x1, os3, -⟩
        have hs3 := os3.hs
        obtain rfl | rfl | rfl : x = 0 ∨ x = 1 ∨ x = 2 := by omega
        · have osE : OS W (w3.alloc (.cells #[] 3)) R (K' + 2) w.heap.size 3 1 (.slice (some ⟨w3.heap.size, 0, none⟩) 0 0) 0 (intsV .i64 []) :=
            ⟨(os3.alloc _).st, by simpa [intsV] using (World.ownsRow_made (e := 3) (size := 1) (base := w.heap.size) w3 #[] 0 os3.hs (Nat.zero_le _) (by simp)), os3.hB, os3.hW, (os3.alloc _).hs⟩
          go_wp2
          go_ret
          exact ⟨_, _, _, [], rfl, rfl, by omega, osE.more (by omega)⟩
        · obtain ⟨y, hy⟩ : ∃ y, L[0]? = some y := ⟨_, List.getElem?_eq_getElem (by rw [HL.out]; omega)⟩
          have hc3 := own_int os3.own hy
          have OS3 := Lib.hid os3
          clear os os2 os3 hy hc1
          go_wp2_with (at_builtin; go_must (refine wpList_append_int _ rfl (.tmp 44) (.tmp 48) 24 rfl w.heap.size 3 i0 Tryd.underlying24 hi hz0 hz1 hz2 (.slice (some ⟨g', 0, none⟩) (m + 1) c') (m + 1) L rfl (OS3.out.alloc _).own w3.heap.size (Newest.alloc_ rfl) rfl (by omega) (by simp; omega) ?_); intro A9 cc9 w9 hown9 hgr9)
          have os9 := (OS3.out.alloc _).append hgr9 (fun k hk => own_ge OS3.out.own hk) hown9
          go_ret
          exact ⟨_, _, _, _, rfl, by rw [List.length_append, HL.out]; rfl, by omega, os9.more (by omega)⟩
        · have OS3 := Lib.hid os3
          have hone := own_new1 w.heap.size 3 0 w3 hs3
          have hone2 : OS W (w3.alloc (.cells #[.int .i64 0] 3)) R (K' + 2) w.heap.size 3 1 (.slice (some ⟨w3.heap.size, 0, none⟩) 1 1) 1 (intsV .i64 [0]) := ⟨(os3.alloc _).st, hone, os3.hB, os3.hW, (os3.alloc _).hs⟩
          clear os os2 os3 hc1 hone
          by_cases hc1 : c' = 1
          · subst hc1
            obtain rfl : m = 0 := by omega
            go_wp2_with (at_builtin; go_must (refine wpList_append_own _ rfl (.tmp 35) (.tmp 37) 24 rfl w.heap.size 3 i0 _ 1 8 Tryd.underlying24 hi hz0 hz1 hz2 rfl (by decide) (.slice (some ⟨w3.heap.size, 0, none⟩) 1 1) 1 (intsV .i64 [0]) rfl hone2.own ⟨g', 0, none⟩ 0 0 (intsV .i64 []) rfl rfl (by intro j u hu; simp [intsV] at hu) intsV_one (by unfold maxLen; omega) (by omega) hone2.hs ?_); intro v9 w9 hown9 hgr9 hx9)
            obtain ⟨g9, c9, rfl, -, -⟩ := own_form hown9 (by omega)
            have os9 := hone2.append hgr9 (fun k hk => own_ge hone2.own hk) hown9
            rw [← intsV_append] at os9
            go_ret
            exact ⟨_, 1 + 0, _, rfl, [0] ++ [], rfl, by omega, os9.more (by omega)⟩
          · have hc2 : 1 < c' := by omega
            go_wp2_with (at_builtin; go_must (refine wpList_append_own _ rfl (.tmp 35) (.tmp 37) 24 rfl w.heap.size 3 i0 _ 1 8 Tryd.underlying24 hi hz0 hz1 hz2 rfl (by decide) (.slice (some ⟨w3.heap.size, 0, none⟩) 1 1) 1 (intsV .i64 [0]) rfl hone2.own ⟨g', 1, none⟩ m (c' - 1) (intsV .i64 (L.drop 1)) rfl (by rw [intsV_length, List.length_drop, HL.out]; omega) (tail_cells (OS3.out.alloc _).own 1) intsV_one (by unfold maxLen; omega) (by omega) hone2.hs ?_); intro v9 w9 hown9 hgr9 hx9)
            obtain ⟨g9, c9, rfl, -, -⟩ := own_form hown9 (by omega)
            have os9 := hone2.append hgr9 (fun k hk => own_ge hone2.own hk) hown9
            rw [← intsV_append] at os9
            go_ret
            exact ⟨_, 1 + m, _, [0] ++ L.drop 1, rfl, by rw [List.length_append, List.length_drop, HL.out]; simp, by omega, os9.more (by omega)⟩
end Go.Proofs.YtcegmlogjbnoeaaDoor
