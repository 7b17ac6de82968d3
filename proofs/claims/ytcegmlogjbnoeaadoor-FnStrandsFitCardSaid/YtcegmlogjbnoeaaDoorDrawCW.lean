/- What is drawn for the law FnCutWaste. -/
import Derived.Test.YtcegmlogjbnoeaaDoorRows2
import Derived.Test.YtcegmlogjbnoeaaDoorAppW
namespace Go.Proofs.YtcegmlogjbnoeaaDoor
open Go.RowKit
set_option linter.unusedVariables false
/-- a row of the caller's own, while another one grows -/
theorem OS.apart {W w w9 : World} {R K B sz n : Nat} {e : TypeId} {v : Value} {xs : List Value} (h : OS W w R K B e sz v n xs) {row : Option Nat} (hg : w.grownBy w9 row) (hrow : ∀ k, row = some k → B ≤ k ∧ v.ownBlock ≠ some k) : OS W w9 R K B e sz v n xs :=
  h.append hg (fun k hk => (hrow k hk).1) (h.own.kept hg (by
    cases hv : v.ownBlock with
    | none => exact .inl rfl
    | some k => exact .inr (fun e => (hrow k e.symm).2 hv)))
theorem own_lt {w : World} {base : Nat} {e : TypeId} {size n : Nat} {v : Value} {xs : List Value} (h : w.ownsRow base e size v n xs) {k : Nat} (hk : v.ownBlock = some k) : k < w.heap.size := (h.lt k hk).2
def DrawnCW (w : World) (e : Ending) (w' : World) : Prop := ∃ (v : Int) (A : Option Addr) (n c : Nat) (L : List Int) (A2 : Option Addr) (n2 c2 : Nat) (M : List Int), e = .returned (.tuple #[.int .i64 v, .slice A n c, .slice A2 n2 c2]) ∧ -70 ≤ v ∧ v ≤ 121 ∧ L.length = n ∧ n ≤ 9 ∧ M.length = n2 ∧ n2 ≤ 10 ∧ (∀ y ∈ M, -3 ≤ y ∧ y ≤ 2) ∧ w'.ownsRow w.heap.size 3 1 (.slice A n c) n (intsV .i64 L) ∧ w'.ownsRow w.heap.size 3 1 (.slice A2 n2 c2) n2 (intsV .i64 M) ∧ Below w.heap.size w w'
set_option maxRecDepth 100000 in
set_option maxHeartbeats 1000000 in
theorem drawCW_st {w : World} {A : Option Addr} {n c : Nat} {xs : List Int} (hl : xs.length = n) (hc : n ≤ c) (rd : RdI .u8 w w.heap.size A xs) (hn : n ≤ 1048576) (hx : ∀ x ∈ xs, 0 ≤ x ∧ x ≤ 255) :
    Calls Tryd.prog 41 #[.slice A n c] w (DrawnCW w) := by
  obtain ⟨i0, hi, hz0, hz1, hz2⟩ := info_parts info_int
  go_enter Tryd.func41, Tryd.ntmps41
  go_wp2_with (fail)
  refine (open_st hl hc rd hn hx).mono ?_
  rintro e w1 ⟨rfl, st1, hz1'⟩
  go_wp2_with (fail)
  refine (lengths_st st1 (by omega) (by omega) (by omega)).mono ?_
  rintro e w2 ⟨A4, m, c4, L, rfl, hL, hn9, os⟩
  have HL := Lib.hid hL
  have hs2 := os.hs
  have osl0 : OS w (w2.alloc (.cells #[] 3)) w.heap.size (0 + 40) w1.heap.size 3 1 (.slice A4 m c4) m (intsV .i64 L) := os.alloc _
  have osm0 : OS w (w2.alloc (.cells #[] 3)) w.heap.size (0 + 40) w2.heap.size 3 1 (.slice (some ⟨w2.heap.size, 0, none⟩) 0 0) 0 (intsV .i64 []) := OS.made os.st _ _
  have hlt0 : ∀ k, (Value.slice A4 m c4).ownBlock = some k → k < w2.heap.size := fun k hk => own_lt os.own hk
  have HLT := Lib.hid hlt0
  clear rd hx hl hc hL os st1 hlt0
  go_wp2_with (fail)
  go_loopw [7, 8] (fun v i wr => ∃ (k : Nat) (A' : Option Addr) (c' : Nat) (M : List Int) (K' : Nat), k ≤ m ∧ i = .int .i64 k ∧ (∃ g', A' = some ⟨g', 0, none⟩) ∧ v = .slice A' k c' ∧ M.length = k ∧ (∀ y ∈ M, -3 ≤ y ∧ y ≤ 2) ∧ OS w wr w.heap.size K' w1.heap.size 3 1 (.slice A4 m c4) m (intsV .i64 L) ∧ OS w wr w.heap.size K' w2.heap.size 3 1 (.slice A' k c') k (intsV .i64 M) ∧ K' ≤ 40 + 2 * k) (fun _ i _ => m - (intOf i).toNat)
  case atStart => exact ⟨0, _, _, [], 40, Nat.zero_le _, rfl, ⟨_, rfl⟩, rfl, rfl, (by intro y hy; simp at hy), osl0, osm0, by omega⟩
  case round =>
    obtain ⟨k, A', c', M, K', hk, rfl, ⟨g', rfl⟩, rfl, hM, hall, osl, osm, hK'⟩ := hrel
    have HM := Lib.hid hM
    have HA := Lib.hid hall
    clear hM hall osl0 osm0
    by_cases hlt : k < m
    · go_wp2_with (fail)
      refine (pick_st (osm.st.self (Below.refl _ _)) (by omega)).mono ?_
      rintro e w3 ⟨x, rfl, x0, x1, st3, hz3⟩
      have osl3 := osl.draw st3
      have osm3 := osm.draw st3
      have hx1 : x ≤ 2 := by omega
      clear osl osm x1
      go_wp2_with (fail)
      refine (pick_st (osm3.st.self (Below.refl _ _)) (by omega)).mono ?_
      rintro e w4 ⟨y, rfl, y0, y1, st4, hz4⟩
      have osl4 := Lib.hid (osl3.draw st4)
      have osm4 := Lib.hid (osm3.draw st4)
      have hs4 := osm4.out.hs
      clear osl3 osm3 st3 st4
      go_wp2_with (at_builtin; go_must (refine wpList_append_own_w _ (by rfl) (.tmp 20) (.tmp 28) 24 rfl w2.heap.size 3 i0 _ 1 8 Tryd.underlying24 hi hz0 hz1 hz2 rfl (by decide) (.slice (some ⟨g', 0, none⟩) k c') k (intsV .i64 M) rfl (osm4.out.alloc _).own ⟨wr.heap.size, 0, none⟩ 1 1 (intsV .i64 [x - y / 29 * 3]) rfl rfl (cells_one1 (Newest.alloc_ (by omega))) intsV_one (by unfold maxLen; omega) (by omega) (by simp; omega) ?_); intro v9 w9 hown9 hgr9 hv9; have osm9 := (osm4.out.alloc _).append hgr9 (fun k hk => own_ge osm4.out.own hk) hown9; have osl9 := (osl4.out.alloc _).apart hgr9 (fun k hk => ⟨Nat.le_trans hs2 (own_ge osm4.out.own hk), fun h => by (have h1 := HLT.out k h; have h2 := own_ge osm4.out.own hk; omega)⟩); rw [← intsV_append] at osm9; obtain ⟨g9, c9, rfl, -, -⟩ := own_form hown9 (by omega); clear hown9 hgr9 hv9)
      go_roundw
      case rel => exact ⟨k + 1, _, _, _, _, by omega, by go_num, ⟨_, rfl⟩, rfl, by rw [List.length_append, HM.out]; rfl, (fun z hz => by rcases List.mem_append.1 hz with h | h; exact HA.out z h; simp at h; omega), osl9, osm9, by omega⟩
      case measure => simp [intOf] <;> omega
    · obtain rfl : k = m := by omega
      go_wp2_with (fail)
      refine (odd_st (osm.st.self (Below.refl _ _)) (by omega) (by omega)).mono ?_
      rintro e w3 ⟨o, rfl, st3⟩
      have osl3 := Lib.hid (osl.draw st3)
      have osm3 := Lib.hid (osm.draw st3)
      have hs3 := osm3.out.hs
      clear osl osm st3
      cases o
      · go_wp2_with (fail)
        refine (long_st (osm3.out.st.self (Below.refl _ _)) (by omega)).mono ?_
        rintro e w4 ⟨v, rfl, v0, v1, st4, hz4⟩
        have osl4 := osl3.out.draw st4
        have osm4 := osm3.out.draw st4
        go_wp2
        go_ret3
        exact ⟨v, A4, _, c4, L, _, _, _, M, rfl, v0, v1, HL.out, hn9, HM.out, by omega, HA.out, own_lower osl4.own (by omega), own_lower osm4.own (by omega), osl4.st.below (Nat.le_refl _) (Nat.le_refl _)⟩
      · go_wp2_with (first
          | (at_builtin; go_must (refine wpList_append_own_w _ (by rfl) (.tmp 32) (.tmp 33) 24 rfl w2.heap.size 3 i0 _ 1 8 Tryd.underlying24 hi hz0 hz1 hz2 rfl (by decide) (.slice (some ⟨g', 0, none⟩) k c') k (intsV .i64 M) rfl (osm3.out.alloc _).own ⟨w3.heap.size, 0, none⟩ 1 1 (intsV .i64 [0]) rfl rfl (cells_one1 (Newest.alloc_ rfl)) intsV_one (by unfold maxLen; omega) (by omega) (by simp; omega) ?_); intro v9 w9 hown9 hgr9 hv9; have osm9 := (osm3.out.alloc _).append hgr9 (fun k hk => own_ge osm3.out.own hk) hown9; have osl9 := (osl3.out.alloc _).apart hgr9 (fun k hk => ⟨Nat.le_trans hs2 (own_ge osm3.out.own hk), fun h => by (have h1 := HLT.out k h; have h2 := own_ge osm3.out.own hk; omega)⟩); rw [← intsV_append] at osm9; obtain ⟨g9, c9, rfl, -, -⟩ := own_form hown9 (by omega); clear hown9 hgr9 hv9))
        refine (long_st (osm9.st.self (Below.refl _ _)) (by omega)).mono ?_
        rintro e w4 ⟨v, rfl, v0, v1, st4, hz4⟩
        have osl4 := osl9.draw st4
        have osm4 := osm9.draw st4
        clear osl9 osm9
        go_wp2
        go_ret3
        exact ⟨v, A4, _, c4, L, _, _, _, M ++ [0], rfl, v0, v1, HL.out, hn9, by rw [List.length_append, HM.out]; rfl, by omega, (fun z hz => by rcases List.mem_append.1 hz with h | h; exact HA.out z h; simp at h; omega), own_lower osl4.own (by omega), own_lower osm4.own (by omega), osl4.st.below (Nat.le_refl _) (Nat.le_refl _)⟩
end Go.Proofs.YtcegmlogjbnoeaaDoor
