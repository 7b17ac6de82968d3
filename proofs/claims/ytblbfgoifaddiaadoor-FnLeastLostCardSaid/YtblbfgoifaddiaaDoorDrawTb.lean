/- What is drawn: a table of losses. -/
import Derived.Test.YtblbfgoifaddiaaDoorTab
import Derived.Test.YtblbfgoifaddiaaDoorDrawHs
import Derived.Test.YtblbfgoifaddiaaDoorDrawLate
namespace Go.Proofs.YtblbfgoifaddiaaDoor
open Go.RowKit
set_option linter.unusedVariables false
set_option linter.unusedSimpArgs false
theorem info_Row : (Tryd.prog.info? 26).map (fun i => (i.zero, i.size, i.bytes)) = some (some (.slice none 0 0), 1, 24) := by kernel_rfl
theorem tagTE : (26 : Nat) ≠ 3 := by decide
/-- block k is the table's -/
def TabBlk (v : Value) (vs : List Value) (k : Nat) : Prop := v.ownBlock = some k ∨ ∃ (j : Nat) (u : Value), vs[j]? = some u ∧ u.ownBlock = some k
theorem news_val {w : World} {gl : Nat} {e : TypeId} {v : Value} (h : Newest w gl e #[v]) : ∀ (j : Nat) (u : Value), [v][j]? = some u → w.cell? ((⟨gl, 0, none⟩ : Addr).add j) = some u := by
  have h0 : w.cell? ⟨gl, 0, none⟩ = some v := by rw [cell_of_row w _ 0 _ e (0, 0) h]; rfl
  intro j u hu
  rw [add_none]
  match j, hu with
  | 0, hu => simp at hu; subst hu; simpa using h0
  | j + 1, hu => simp at hu
/-- a drawing world in which the caller has a table of its own, from block B on -/
structure TS (W w : World) (R K B : Nat) (v : Value) (N : Nat) (vs : List Value) (rows : List (List Int)) : Prop where
  st : St W w R K
  tab : Tab w B 26 3 v N vs rows
  hB : R < B
  hW : W.heap.size ≤ B
  hs : B ≤ w.heap.size
section
variable {W w w' w9 : World} {R K K' B N N9 : Nat} {v v9 : Value} {vs vs9 : List Value} {rows rows9 : List (List Int)}
theorem TS.ge (h : TS W w R K B v N vs rows) {k : Nat} (hk : TabBlk v vs k) : B ≤ k ∧ k < w.heap.size := by
  rcases hk with hk | ⟨j, u, hu, hk⟩
  · exact h.tab.own.lt k hk
  · have hj : j < N := by rw [← h.tab.vlen]; exact (List.getElem?_eq_some_iff.1 hu).1
    obtain ⟨u', r, hu', hr⟩ := h.tab.get hj
    exact (h.tab.row j u r hu hr).lt k hk
theorem TS.draw (h : TS W w R K B v N vs rows) (st1 : St w w' R K') : TS W w' R K' B v N vs rows :=
  ⟨h.st.chain st1, h.tab.kept st1.gr (fun k hk e => by injection hk with hk; have := (h.ge (.inl e)).1; have := h.hB; omega) (fun k hk j u hu e => by injection hk with hk; have := (h.ge (.inr ⟨j, u, hu, e⟩)).1; have := h.hB; omega), h.hB, h.hW, Nat.le_trans h.hs st1.gr.size⟩
theorem TS.alloc (h : TS W w R K B v N vs rows) (o : Obj) : TS W (w.alloc o) R K B v N vs rows := ⟨h.st.allocs o, h.tab.alloc o, h.hB, h.hW, by have := h.hs; simp; omega⟩
theorem TS.drew (h : TS W w R K B v N vs rows) : TS W w.drew R K B v N vs rows := ⟨h.st.drew, h.tab.drew, h.hB, h.hW, h.hs⟩
theorem TS.more (h : TS W w R K B v N vs rows) (hK : K ≤ K') : TS W w R K' B v N vs rows := ⟨h.st.more hK, h.tab, h.hB, h.hW, h.hs⟩
/-- a later world in which the table is another one -/
theorem TS.step (h : TS W w R K B v N vs rows) {row : Option Nat} (hg : w.grownBy w9 row) (hrow : ∀ k, row = some k → B ≤ k) (tab : Tab w9 B 26 3 v9 N9 vs9 rows9) : TS W w9 R K B v9 N9 vs9 rows9 := by
  have hB := h.hB
  have hW := h.hW
  have lt := h.st.lt
  have gr := h.st.gr
  have hs := h.hs
  have hb : ∀ k, k < w.heap.size → k < B → w9.heap[k]? = w.heap[k]? := fun k hk hk2 => hg.block k hk (fun e => by have := hrow k e.symm; omega)
  exact ⟨⟨h.st.rd.keep hg.size (fun k hk => hb k (by omega) (by omega)), ⟨hg.os.trans gr.os, hg.tape.trans gr.tape, hg.output.trans gr.output, Nat.le_trans gr.size hg.size, fun k hk hr => (hb k (Nat.lt_of_lt_of_le hk gr.size) (by omega)).trans (gr.block k hk hr)⟩⟩, tab, h.hB, h.hW, Nat.le_trans h.hs hg.size⟩
/-- a row of the caller's own that is none of the table's -/
theorem TS.apart (h : TS W w R K B v N vs rows) {row : Option Nat} (hg : w.grownBy w9 row) (hrow : ∀ k, row = some k → B ≤ k) (hn : ∀ k, row = some k → ¬ TabBlk v vs k) : TS W w9 R K B v N vs rows :=
  h.step hg hrow (h.tab.kept hg (fun k hk e => hn k hk (.inl e)) (fun k hk j u hu e => hn k hk (.inr ⟨j, u, hu, e⟩)))
end
theorem pick_ts {W w : World} {R K B N : Nat} {v : Value} {vs : List Value} {rows : List (List Int)} {M : Int} (h : TS W w R K B v N vs rows) (hK : K ≤ 1000000) :
    Calls Tryd.prog 49 #[.pointer (some ⟨R, 0, none⟩), .int .i64 M] w fun e' w' => ∃ u : Int, e' = .returned (.int .i64 u) ∧ 0 ≤ u ∧ (1 ≤ M → u < M) ∧ TS W w' R (K + 1) B v N vs rows ∧ St w w' R (K + 1) := by
  refine (pick_st (h.st.self (Below.refl _ _)) hK).mono ?_
  rintro e' w' ⟨u, rfl, h0, h1, st1, -⟩
  exact ⟨u, rfl, h0, h1, h.draw st1, st1⟩
theorem tab_surv {w w2 : World} {R B K2 N : Nat} {T E : TypeId} {v : Value} {vs : List Value} {rows : List (List Int)} (h : Tab w B T E v N vs rows) (hB : R < B) (st1 : St w w2 R K2) : Tab w2 B T E v N vs rows :=
  h.kept st1.gr (fun k hk e => by injection hk with hk; have := (h.own.lt k e).1; omega) (fun k hk j u hu e => by
    injection hk with hk
    have hj : j < N := by rw [← h.vlen]; exact (List.getElem?_eq_some_iff.1 hu).1
    obtain ⟨u', r, hu', hr'⟩ := h.get hj
    have := ((h.row j u r hu hr').lt k e).1
    omega)
def DrawnTb (W : World) (R K : Nat) (w : World) (e : Ending) (w' : World) : Prop := ∃ (A : Option Addr) (n c : Nat) (rows : List (List Int)), e = .returned (.slice A n c) ∧ rows.length = n ∧ n ≤ 4 ∧ (∀ (w2 : World) (K2 : Nat), St w' w2 R K2 → RdR w2 w2.heap.size A rows) ∧ St W w' R (K + 60)
set_option maxRecDepth 100000 in
set_option maxHeartbeats 1000000 in
theorem lost_st {W w : World} {R K : Nat} {N : Int} (st : St W w R K) (hK : K ≤ 9000) (hN : 0 < N) (hN' : N < 1000) :
    Calls Tryd.prog 38 #[.pointer (some ⟨R, 0, none⟩), .int .i64 N] w (DrawnTb W R K w) := by
  obtain ⟨i0, hi, hz0, hz1, hz2⟩ := info_parts info_int
  obtain ⟨i1, hj, hy0, hy1, hy2⟩ := info_parts info_Row
  have lt := st.lt
  have sW := st.gr.size
  have ts0 : TS W (w.alloc (.cells #[] 26)) R K w.heap.size (.slice (some ⟨w.heap.size, 0, none⟩) 0 0) 0 [] [] :=
    ⟨st.allocs _, ⟨own_made0 (Nat.le_refl _) _ _, rfl, fun j u r hu => by simp at hu, fun i j u u' _ hu => by simp at hu⟩, lt, sW, by simp⟩
  clear st
  go_enter Tryd.func38, Tryd.ntmps38
  go_wp2_with (fail)
  go_loopw [5, 6] (fun v i wr => ∃ (k : Nat) (g c : Nat) (vs : List Value) (rows : List (List Int)) (K' : Nat), k ≤ 4 ∧ i = .int .i64 k ∧ v = .slice (some ⟨g, 0, none⟩) k c ∧ TS W wr R K' w.heap.size (.slice (some ⟨g, 0, none⟩) k c) k vs rows ∧ (∀ (j : Nat) (r : List Int), rows[j]? = some r → r.length = 4) ∧ K' ≤ K + 10 * k) (fun _ i _ => 4 - (intOf i).toNat)
  case atStart => exact ⟨0, _, _, [], [], K, Nat.zero_le _, rfl, rfl, ts0, (by intro j r h; simp at h), by omega⟩
  case round =>
    clear ts0
    obtain ⟨k, g, c, vs, rows, K', hk, rfl, rfl, ts, hr4, hK'⟩ := hrel
    have HR4 := Lib.hid hr4
    have hrl := ts.tab.len
    clear hr4
    by_cases hlt : k < 4
    · have hs := ts.hs
      have hall : ∀ q, TabBlk (Value.slice (some ⟨g, 0, none⟩) k c) vs q → q < wr.heap.size := fun q hq => (ts.ge hq).2
      have HALL := Lib.hid hall
      have tsA := ts.alloc (.cells #[] 3)
      have hoA := own_made0 (w := wr) (base := wr.heap.size) (Nat.le_refl _) 3 1
      have hszA : wr.heap.size ≤ (wr.alloc (.cells #[] 3)).heap.size := by simp
      clear ts hall
      go_wp2_with (fail)
      have D4 : decide ((k : Int) < 4) = true := by simp; omega
      simp only [D4]
      generalize wr.alloc (.cells #[] 3) = wB at *
      generalize wr.heap.size = Bc at *
      go_loopw [7, 8] (fun v i wr => ∃ (j : Nat) (A7 : Option Addr) (c7 : Nat) (L : List Int) (K2 : Nat), j ≤ 4 ∧ i = .int .i64 j ∧ v = .slice A7 j c7 ∧ L.length = j ∧ TS W wr R K2 w.heap.size (.slice (some ⟨g, 0, none⟩) k c) k vs rows ∧ wr.ownsRow Bc 3 1 (.slice A7 j c7) j (intsV .i64 L) ∧ Bc ≤ wr.heap.size ∧ K2 ≤ K' + 2 * j) (fun _ i _ => 4 - (intOf i).toNat)
      case atStart => exact ⟨0, _, _, [], K', Nat.zero_le _, rfl, rfl, rfl, tsA, hoA, hszA, by omega⟩
      case round =>
        clear tsA hoA hszA
        obtain ⟨j, A7, c7, L, K2, hj4, rfl, rfl, hL, ts, own7, hsz, hK2⟩ := hrel
        have HL := Lib.hid hL
        clear hL
        by_cases hltj : j < 4
        · go_wp2_with (fail)
          refine (pick_ts ts (by omega)).mono ?_
          rintro e w3 ⟨x, rfl, x0, x1, ts3, st3⟩
          have own3 := own_other own7 st3.gr (fun q hq => by have := own_ge own7 hq; have := ts.hB; omega)
          have hsz3 := Nat.le_trans hsz st3.gr.size
          clear ts own7 st3 x1
          by_cases hjk : j = k
          · subst hjk
            have D0 : ((j : Int) == (j : Int)) = true := by simp
            go_wp2_with (fail)
            refine (pick_ts ts3 (by omega)).mono ?_
            rintro e w4 ⟨y, rfl, y0, y1, ts4, st4⟩
            have own4 := own_other own3 st4.gr (fun q hq => by have := own_ge own3 hq; have := ts3.hB; omega)
            have hsz4 := Nat.le_trans hsz3 st4.gr.size
            clear ts3 own3 st4 y1
            by_cases hy : 0 < y
            · skip
              have TSH := Lib.hid ts4
              have OWN := Lib.hid own4
              clear ts4 own4
              go_wp2_with (at_builtin; go_must (refine wpList_append_own_w _ (by rfl) (.tmp 30) (.tmp 32) 26 rfl Bc 3 i0 _ 1 8 Tryd.underlying26 hi hz0 hz1 hz2 rfl (by decide) (.slice A7 j c7) j (intsV .i64 L) rfl (OWN.out.alloc _) ⟨w4.heap.size, 0, none⟩ 1 1 (intsV .i64 [0]) rfl rfl (cells_one1 (Newest.alloc_ rfl)) intsV_one (by unfold maxLen; omega) (by omega) (by simp; omega) ?_; intro v9 w9 hown9 hgr9 hv9; have ts9 := (TSH.out.alloc _).apart hgr9 (fun q hq => Nat.le_trans hs (own_ge OWN.out hq)) (fun q hq hb => by (have h1 := HALL.out q hb; have h2 := own_ge OWN.out hq; omega)); have hs9 := hgr9.size; rw [World.size_alloc] at hs9; rw [← intsV_append] at hown9; obtain ⟨g9, c9, rfl, -, -⟩ := own_form hown9 (by omega); clear hgr9 hv9))
              go_roundw
              case rel => exact ⟨j + 1, _, c9, L ++ [0], _, by omega, by go_num, rfl, by rw [List.length_append, HL.out]; rfl, ts9, hown9, by omega, by omega⟩
              case measure => simp [intOf] <;> omega
            · skip
              have TSH := Lib.hid ts4
              have OWN := Lib.hid own4
              clear ts4 own4
              go_wp2_with (at_builtin; go_must (refine wpList_append_own_w _ (by rfl) (.tmp 30) (.tmp 32) 26 rfl Bc 3 i0 _ 1 8 Tryd.underlying26 hi hz0 hz1 hz2 rfl (by decide) (.slice A7 j c7) j (intsV .i64 L) rfl (OWN.out.alloc _) ⟨w4.heap.size, 0, none⟩ 1 1 (intsV .i64 [x]) rfl rfl (cells_one1 (Newest.alloc_ rfl)) intsV_one (by unfold maxLen; omega) (by omega) (by simp; omega) ?_; intro v9 w9 hown9 hgr9 hv9; have ts9 := (TSH.out.alloc _).apart hgr9 (fun q hq => Nat.le_trans hs (own_ge OWN.out hq)) (fun q hq hb => by (have h1 := HALL.out q hb; have h2 := own_ge OWN.out hq; omega)); have hs9 := hgr9.size; rw [World.size_alloc] at hs9; rw [← intsV_append] at hown9; obtain ⟨g9, c9, rfl, -, -⟩ := own_form hown9 (by omega); clear hgr9 hv9))
              go_roundw
              case rel => exact ⟨j + 1, _, c9, L ++ [x], _, by omega, by go_num, rfl, by rw [List.length_append, HL.out]; rfl, ts9, hown9, by omega, by omega⟩
              case measure => simp [intOf] <;> omega
          · have D0 : ((j : Int) == (k : Int)) = false := by rw [beq_eq_false_iff_ne]; omega
            have TSH := Lib.hid ts3
            have OWN := Lib.hid own3
            clear ts3 own3
            go_wp2_with (at_builtin; go_must (refine wpList_append_own_w _ (by rfl) (.tmp 30) (.tmp 32) 26 rfl Bc 3 i0 _ 1 8 Tryd.underlying26 hi hz0 hz1 hz2 rfl (by decide) (.slice A7 j c7) j (intsV .i64 L) rfl (OWN.out.alloc _) ⟨w3.heap.size, 0, none⟩ 1 1 (intsV .i64 [x]) rfl rfl (cells_one1 (Newest.alloc_ rfl)) intsV_one (by unfold maxLen; omega) (by omega) (by simp; omega) ?_; intro v9 w9 hown9 hgr9 hv9; have ts9 := (TSH.out.alloc _).apart hgr9 (fun q hq => Nat.le_trans hs (own_ge OWN.out hq)) (fun q hq hb => by (have h1 := HALL.out q hb; have h2 := own_ge OWN.out hq; omega)); have hs9 := hgr9.size; rw [World.size_alloc] at hs9; rw [← intsV_append] at hown9; obtain ⟨g9, c9, rfl, -, -⟩ := own_form hown9 (by omega); clear hgr9 hv9))
            go_roundw
            case rel => exact ⟨j + 1, _, c9, L ++ [x], _, by omega, by go_num, rfl, by rw [List.length_append, HL.out]; rfl, ts9, hown9, by omega, by omega⟩
            case measure => simp [intOf] <;> omega
        · obtain rfl : j = 4 := by omega
          have TSH := Lib.hid ts
          have OWN := Lib.hid own7
          have hsW := ts.hs
          clear ts own7
          go_wp2_with (at_builtin; go_must (refine wpList_append_own_w _ (by rfl) (.tmp 34) (.tmp 36) 37 rfl w.heap.size 26 i1 _ 1 24 Tryd.underlying37 hj hy0 hy1 hy2 rfl (by decide) (.slice (some ⟨g, 0, none⟩) k c) k vs rfl (TSH.out.alloc _).tab.own ⟨wr.heap.size, 0, none⟩ 1 1 [.slice A7 4 c7] rfl rfl (news_val (Newest.alloc_ rfl)) (by intro u hu; simp at hu; subst hu; rfl) (by unfold maxLen; omega) (by omega) (by simp; omega) ?_; intro v9 w9 hown9 hgr9 hv9; have ts9 := (TSH.out.alloc (.cells #[.slice A7 4 c7] 26)).step hgr9 (fun q hq => ((TSH.out.alloc (.cells #[.slice A7 4 c7] 26)).ge (.inl hq)).1) ((TSH.out.alloc (.cells #[.slice A7 4 c7] 26)).tab.grow tagTE (r := L) hgr9 hown9 (by rw [HL.out]; exact own_lower (OWN.out.alloc _) hs) (fun q u' hu' a ha hb => by (have h1 := HALL.out a (.inr ⟨q, u', hu', ha⟩); have h2 := own_ge OWN.out hb; omega))); have hs9 := hgr9.size; rw [World.size_alloc] at hs9; obtain ⟨g9, c9, rfl, -, -⟩ := own_form hown9 (by omega); clear hown9 hgr9 hv9))
          go_roundw
          case rel => exact ⟨k + 1, g9, c9, _, _, _, by omega, by go_num, rfl, ts9, (fun q r hq => by
            by_cases e : q < rows.length
            · rw [List.getElem?_append_left e] at hq; exact HR4.out q r hq
            · rw [List.getElem?_append_right (by omega)] at hq
              have := (List.getElem?_eq_some_iff.1 hq).1
              simp at this
              rw [this] at hq
              simp at hq
              subst hq; exact HL.out), by omega⟩
          case measure => simp [intOf] <;> omega
    · obtain rfl : k = 4 := by omega
      have hs := ts.hs
      go_wp2_with (fail)
      refine (odd_st (ts.st.self (Below.refl _ _)) (by omega) (by omega)).mono ?_
      rintro e w4 ⟨o, rfl, st4⟩
      have ts4 := ts.draw st4
      clear ts st4
      cases o
      · go_wp2
        go_ret
        exact ⟨_, 4, c, rows, rfl, ts4.tab.len, by omega, (fun w2 K2 st2 => RdR.of_tab (tab_surv ts4.tab lt st2)), ts4.st.more (by omega)⟩
      · go_wp2_with (fail)
        refine (pick_ts ts4 (by omega)).mono ?_
        rintro e w5 ⟨s, rfl, s0, s1, ts5, -⟩
        clear ts4
        obtain rfl | rfl | rfl : s = 0 ∨ s = 1 ∨ s = 2 := by omega
        · have hcap := own_cap ts5.tab.own
          have hc1 : (1 : Int) ≤ c := by omega
          have hc1n : 1 < c := by omega
          have hc1' : (1 : Int) < c := by omega
          have TSH := Lib.hid ts5
          clear ts5
          go_wp2
          go_ret
          refine ⟨some ⟨g, 1, none⟩, 3, c - 1, rows.drop 1, rfl, by rw [List.length_drop, TSH.out.tab.len], by omega, ?_, TSH.out.st.more (by omega)⟩
          intro w2 K2 st2 j r hr
          obtain ⟨b, off, e1, hb, A', c', h1, h2⟩ := RdR.of_tab (tab_surv TSH.out.tab lt st2) (1 + j) r (by rw [← List.getElem?_drop]; exact hr)
          injection e1 with e1
          injection e1 with e2 e3
          subst e2 e3
          exact ⟨g, 1, rfl, hb, A', c', by rw [show 1 + j = 0 + (1 + j) by omega]; exact h1, h2⟩
        · obtain ⟨u2, r2, hu2, hr2⟩ := ts5.tab.get (j := 2) (by omega)
          have hc2 := ts5.tab.cell rfl hu2
          have hf2 := ts5.tab.own.frozenAt 2
          have hgw := (ts5.ge (.inl rfl : TabBlk (Value.slice (some ⟨g, 0, none⟩) 4 c) vs g)).2
          have hlow : ∀ (i : Nat) (u' : Value), vs[i]? = some u' → ApartV u' (.slice (some ⟨w5.heap.size, 0, none⟩) 2 2) := fun i u' hu' a ha hb => by
            have h1 := (ts5.ge (.inr ⟨i, u', hu', ha⟩)).2
            simp [Value.ownBlock] at hb
            omega
          have hnew : (w5.alloc (.cells #[.int .i64 1, .int .i64 2] 3)).ownsRow w.heap.size 3 1 (.slice (some ⟨w5.heap.size, 0, none⟩) 2 2) [1, 2].length (intsV .i64 [1, 2]) :=
            ⟨by simp [intsV], .inr ⟨w5.heap.size, 2, _, rfl, ts5.hs, heap_alloc_new w5 _, Nat.le_refl _, by unfold maxLen; omega, by simp, by simp [intsV]⟩⟩
          have tabN := (ts5.alloc (.cells #[.int .i64 1, .int .i64 2] 3)).tab.setRow tagTE (j := 2) (r := [1, 2]) hnew hlow
          rw [World.setCell_alloc_past _ _ _ _ hgw] at tabN
          have TABN := Lib.hid tabN
          have stN := (ts5.alloc (.cells #[.int .i64 1, .int .i64 2] 3)).st.setOwn (b := g) (by have := (ts5.ge (.inl rfl : TabBlk (Value.slice (some ⟨g, 0, none⟩) 4 c) vs g)).1; omega) (by have := (ts5.ge (.inl rfl : TabBlk (Value.slice (some ⟨g, 0, none⟩) 4 c) vs g)).1; omega) 2 (.slice (some ⟨w5.heap.size, 0, none⟩) 2 2)
          rw [World.setCell_alloc_past _ _ _ _ hgw] at stN
          have STN := Lib.hid stN
          clear ts5 tabN stN hnew hlow hu2 hr2
          go_wp2
          go_ret
          exact ⟨_, 4, c, _, rfl, TABN.out.len, by omega, (fun w2 K2 st2 => RdR.of_tab (tab_surv TABN.out lt st2)), STN.out.more (by omega)⟩
        · obtain ⟨u2, r2, hu2, hr2⟩ := ts5.tab.get (j := 1) (by omega)
          obtain ⟨A1, cc1, rfl⟩ := ts5.tab.form hu2 hr2
          have hr24 := HR4.out 1 r2 hr2
          have own1 := ts5.tab.row 1 _ r2 hu2 hr2
          rw [hr24] at hu2 own1
          obtain ⟨g1, cf, hform, -, -⟩ := own_form own1 (by omega)
          injection hform with hA _ hC
          subst hA
          clear hC cf
          have HU2 := Lib.hid hu2
          have HR2 := Lib.hid hr2
          have e2 := ts5.tab.cell rfl hu2
          obtain ⟨z2, hz2'⟩ : ∃ z, r2[1]? = some z := ⟨_, List.getElem?_eq_getElem (by omega)⟩
          have HZ2 := Lib.hid hz2'
          have HR24 := Lib.hid hr24
          have hg1 := (ts5.ge (.inr ⟨1, _, hu2, rfl⟩ : TabBlk (Value.slice (some ⟨g, 0, none⟩) 4 c) vs g1))
          have hs5 := ts5.hs
          have lt5 := ts5.st.lt
          have hgw5 := (ts5.ge (.inl rfl : TabBlk (Value.slice (some ⟨g, 0, none⟩) 4 c) vs g)).2
          clear hu2 hr2 own1 hz2' hr24
          go_wp2_with (fail)
          go_region_law (first
            | (go_simp; go_at_call 49; refine (pick_ts (by first | exact ts5.drew | exact (ts5.alloc _).drew | exact ts5.drew.alloc _) (by omega)).mono ?_; rintro e w6 ⟨u, rfl, u0, u1, ts6, st6⟩; obtain ⟨un, rfl⟩ := Int.eq_ofNat_of_zero_le u0; have ul : un < 2 := (by omega); have ul2 : (un : Int) < 2 := (by omega); have own6 := ts6.tab.row 1 _ r2 HU2.out HR2.out; rw [HR24.out] at own6; have e6 := ts6.tab.cell rfl HU2.out; have i6 := own_cellT own6 HZ2.out; have f6 := own6.frozenAt 1; have hs6 := ts6.hs; have hg6 := (ts6.ge (.inr ⟨1, _, HU2.out, rfl⟩ : TabBlk (Value.slice (some ⟨g, 0, none⟩) 4 c) vs g1)).2; have hgw6 := (ts6.ge (.inl rfl : TabBlk (Value.slice (some ⟨g, 0, none⟩) 4 c) vs g)).2; have rB := two_at w6 3 (-1) 100 un ul; try (have rA : w6.cell? ⟨w5.heap.size, un, none⟩ = some (.int .i64 (oneOf (-1) 100 un)) := (st6.cell (by simp) (Nat.ne_of_gt lt5)).trans (two_at w5 3 (-1) 100 un ul))))
          all_goals
            have tabP := Lib.hid (ts6.tab.put tagTE HU2.out HR2.out 1 (oneOf (-1) 100 un))
            have hb1 := (ts6.ge (.inr ⟨1, _, HU2.out, rfl⟩ : TabBlk (Value.slice (some ⟨g, 0, none⟩) 4 c) vs g1)).1
            have stP := Lib.hid (ts6.st.setOwn (b := g1) (by omega) (by omega) 1 (.int .i64 (oneOf (-1) 100 un)))
            clear ts6 st6 own6 e6 i6 f6 rB
            generalize oneOf (-1) 100 un = tq at *
            go_wp2
            go_ret
            first
              | exact ⟨_, 4, c, _, rfl, tabP.out.len, by omega, (fun w2 K2 st2 => RdR.of_tab (tab_surv tabP.out lt st2)), stP.out.more (by omega)⟩
              | exact ⟨_, 4, c, _, rfl, tabP.out.len, by omega, (fun w2 K2 st2 => RdR.of_tab (tab_surv (tabP.out.alloc _) lt st2)), (stP.out.allocs _).more (by omega)⟩
end Go.Proofs.YtblbfgoifaddiaaDoor
