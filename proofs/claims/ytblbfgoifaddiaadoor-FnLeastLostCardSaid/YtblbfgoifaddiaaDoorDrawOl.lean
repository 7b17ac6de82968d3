/- What is drawn: an order of so many indices. -/
/- What is drawn for the laws FnOrderLost, FnBestOrder and FnLeastLost: heats, a table of losses, and an order. -/
import Derived.Test.YtblbfgoifaddiaaDoorDrawTb
import Derived.Test.YtblbfgoifaddiaaDoorDrawLo
namespace Go.Proofs.YtblbfgoifaddiaaDoor
open Go.RowKit
set_option linter.unusedVariables false
set_option linter.unusedSimpArgs false
theorem own_take1 {w : World} {base g n c i : Nat} {e : TypeId} {k : IntKind} {xs : List Int} (h : w.ownsRow base e 1 (.slice (some ⟨g, 0, none⟩) n c) n (intsV k xs)) (hi : i ≤ n) : w.ownsRow base e 1 (.slice (some ⟨g, 0, none⟩) i c) i (intsV k (xs.take i)) := by
  have hl := h.1
  rw [intsV_length] at hl
  refine ⟨by rw [intsV_length, List.length_take]; omega, ?_⟩
  rcases h.2 with ⟨hv, h0⟩ | ⟨g', cap, cur, hv, hb, hg, hn, hm, hs, ht⟩
  · cases hv
  · injection hv with hA _ hC
    injection hA with hA
    injection hA with hA
    subst hA hC
    refine .inr ⟨g, c, cur, rfl, hb, hg, by omega, hm, hs, ?_⟩
    have e1 : intsV k (xs.take i) = (intsV k xs).take i := by simp [intsV, List.map_take]
    rw [e1, ← ht, List.take_take]
    congr 1
    omega
theorem drop_cells1 {w : World} {base g n c : Nat} {e : TypeId} {xs : List Int} (h : w.ownsRow base e 1 (.slice (some ⟨g, 0, none⟩) n c) n (intsV .i64 xs)) (i : Nat) : ∀ j u, (intsV .i64 (xs.drop i))[j]? = some u → w.cell? ((⟨g, i, none⟩ : Addr).add j) = some u := by
  intro j u hu
  have e1 : intsV .i64 (xs.drop i) = (intsV .i64 xs).drop i := by simp [intsV, List.map_drop]
  rw [e1, List.getElem?_drop] at hu
  have hh := h.cells rfl (i + j) u hu
  rw [add_none] at hh ⊢
  rw [Nat.zero_add] at hh
  exact hh
theorem own_some {w : World} {base : Nat} {e : TypeId} {size n m : Nat} {v v0 : Value} {xs : List Value} (h : w.ownsRow base e size v n xs) (hv : v = .slice none 0 0 ↔ v0 = .slice none 0 0 ∧ m = 0) (h0 : v0 ≠ .slice none 0 0) : ∃ g c, v = .slice (some ⟨g, 0, none⟩) n c ∧ base ≤ g ∧ g < w.heap.size := by
  rcases h.2 with ⟨h1, _⟩ | ⟨g, cap, cur, h1, hb, hg, _⟩
  · exact absurd (hv.1 h1).1 h0
  · exact ⟨g, cap, h1, hb, (Array.getElem?_eq_some_iff.1 hg).1⟩
def DrawnSh (W : World) (R K : Nat) (w : World) (e : Ending) (w' : World) : Prop := ∃ (A : Option Addr) (n c : Nat) (M : List Int), e = .returned (.slice A n c) ∧ M.length = n ∧ n ≤ 8 ∧ OS W w' R (K + 20) w.heap.size 3 1 (.slice A n c) n (intsV .i64 M)
set_option maxRecDepth 100000 in
set_option maxHeartbeats 1000000 in
theorem shuffle_st {W w : World} {R K m : Nat} {N : Int} (st : St W w R K) (hK : K ≤ 9000) (hm : m ≤ 7) (hN : 0 < N) (hN' : N < 1000) :
    Calls Tryd.prog 39 #[.pointer (some ⟨R, 0, none⟩), .int .i64 m, .int .i64 N] w (DrawnSh W R K w) := by
  obtain ⟨i0, hi, hz0, hz1, hz2⟩ := info_parts info_int
  have lt := st.lt
  have sW := st.gr.size
  have os0 : OS W (w.alloc (.cells #[] 3)) R K w.heap.size 3 1 (.slice (some ⟨w.heap.size, 0, none⟩) 0 0) 0 (intsV .i64 []) := OS.made st _ _
  clear st
  go_enter Tryd.func39, Tryd.ntmps39
  go_wp2_with (fail)
  go_loopw [7, 8] (fun v i wr => ∃ (k g c : Nat) (M : List Int) (K' : Nat), k ≤ m ∧ i = .int .i64 k ∧ v = .slice (some ⟨g, 0, none⟩) k c ∧ M.length = k ∧ OS W wr R K' w.heap.size 3 1 (.slice (some ⟨g, 0, none⟩) k c) k (intsV .i64 M) ∧ K' ≤ K + k) (fun _ i _ => m - (intOf i).toNat)
  case atStart => exact ⟨0, _, _, [], K, Nat.zero_le _, rfl, rfl, rfl, os0, by omega⟩
  case round =>
    clear os0
    obtain ⟨k, g, c, M, K', hk, rfl, rfl, hM, os, hK'⟩ := hrel
    have HM := Lib.hid hM
    clear hM
    by_cases hlt : k < m
    · go_wp2_with (fail)
      refine (pick_os os (by omega)).mono ?_
      rintro e w3 ⟨a, rfl, a0, a1, os3, -⟩
      obtain ⟨at0, rfl⟩ := Int.eq_ofNat_of_zero_le a0
      have hak : at0 ≤ k := by omega
      have hcap := own_cap os3.own
      have hs3 := os3.hs
      have hgs := (os3.own.lt g rfl)
      have OS3 := Lib.hid os3
      have hacI : (at0 : Int) ≤ (k : Int) := by omega
      have hlen : (M.drop at0).length = k - at0 := by rw [List.length_drop, HM.out]
      have HLN := Lib.hid hlen
      have hnews : ∀ (ad : Nat), (ad = at0 ∨ at0 = k) → ∀ j u, (intsV .i64 (M.drop at0))[j]? = some u → (w3.alloc (.cells #[] 3)).cell? ((⟨g, ad, none⟩ : Addr).add j) = some u := fun ad had j u hu => by
        rcases had with rfl | h2
        · exact drop_cells1 (OS3.out.own.alloc _) ad j u hu
        · have : (M.drop at0).length = 0 := by rw [hlen]; omega
          rw [List.eq_nil_of_length_eq_zero this] at hu
          simp [intsV] at hu
      have HNW := Lib.hid hnews
      clear os os3 a1 a0 hlen hnews
      by_cases hac : at0 < c
      · have hacI2 : (at0 : Int) < (c : Int) := by omega
        go_wp2_with (first
          | (at_builtin; refine wpList_append_own_w (w3.alloc (.cells #[] 3)) (by rfl) (.tmp 21) (.tmp 24) 26 rfl w3.heap.size 3 i0 _ 1 8 Tryd.underlying26 hi hz0 hz1 hz2 rfl (by decide) (.slice (some ⟨w3.heap.size, 0, none⟩) 0 0) 0 (intsV .i64 []) rfl (own_made0 (Nat.le_refl _) _ _) ⟨g, at0, none⟩ (k - at0) (c - at0) (intsV .i64 (M.drop at0)) rfl (by rw [intsV_length, HLN.out, Nat.mul_one]) (HNW.out at0 (.inl rfl)) intsV_one (by unfold maxLen; omega) (by omega) (by simp) ?_; intro v9 w9 hown9 hgr9 hv9; simp only [Nat.zero_add, intsV, List.map_nil, List.nil_append] at hown9; obtain ⟨g9, c9, rfl, hb9, hl9⟩ := own_some hown9 hv9 (by simp); have os9 := (OS3.out.alloc (.cells #[] 3)).apart' hgr9 (fun q hq => by (simp [Value.ownBlock] at hq ⊢; omega)); have OS9 := Lib.hid os9; have OW9 := Lib.hid hown9; have hs9 := os9.hs; clear os9 hown9 hgr9 hv9)
          | (at_builtin; refine wpList_append_own_w (w9.alloc (.cells #[.int .i64 (k : Int)] 3)) (by rfl) (.tmp 28) (.tmp 30) 26 rfl w.heap.size 3 i0 _ 1 8 Tryd.underlying26 hi hz0 hz1 hz2 rfl (by decide) (.slice (some ⟨g, 0, none⟩) at0 c) at0 (intsV .i64 (M.take at0)) rfl (own_take1 (OS9.out.own.alloc _) hak) ⟨w9.heap.size, 0, none⟩ 1 1 (intsV .i64 [(k : Int)]) rfl rfl (cells_one1 (Newest.alloc_ rfl)) intsV_one (by unfold maxLen; omega) (by omega) (by simp; omega) ?_; intro v10 w10 hown10 hgr10 hv10; have os10 := (OS9.out.alloc (.cells #[.int .i64 (k : Int)] 3)).append hgr10 (fun q hq => by (simp [Value.ownBlock] at hq; omega)) hown10; have ow10 := own_other (g := g) (OW9.out.alloc (.cells #[.int .i64 (k : Int)] 3)) hgr10 (fun q hq => by (simp [Value.ownBlock] at hq; omega)); rw [← intsV_append] at os10; have OS10 := Lib.hid os10; have OW10 := Lib.hid ow10; have hs10 := os10.hs; obtain ⟨g10, c10, rfl, -, -⟩ := own_form hown10 (by omega); clear os10 ow10 hown10 hgr10 hv10)
          | (at_builtin; refine wpList_append_own_w w10 (by rfl) (.tmp 31) (.tmp 32) 26 rfl w.heap.size 3 i0 _ 1 8 Tryd.underlying26 hi hz0 hz1 hz2 rfl (by decide) (.slice (some ⟨g10, 0, none⟩) (at0 + 1) c10) (at0 + 1) (intsV .i64 (M.take at0 ++ [(k : Int)])) rfl OS10.out.own ⟨g9, 0, none⟩ (k - at0) c9 (intsV .i64 (M.drop at0)) rfl (by rw [intsV_length, HLN.out, Nat.mul_one]) (own_cells OW10.out) intsV_one (by unfold maxLen; omega) (by omega) hs10 ?_; intro v11 w11 hown11 hgr11 hv11; have os11 := OS10.out.append hgr11 (fun q hq => own_ge OS10.out.own hq) hown11; rw [← intsV_append, show at0 + 1 + (k - at0) = k + 1 by omega] at os11; obtain ⟨g11, c11, rfl, -, -⟩ := own_form os11.own (by omega); clear hown11 hgr11 hv11))
        go_roundw
        case rel => exact ⟨k + 1, g11, c11, M.take at0 ++ [(k : Int)] ++ M.drop at0, _, by omega, by go_num, rfl, by rw [List.length_append, List.length_append, List.length_take, HLN.out, HM.out, List.length_singleton]; omega, os11, by omega⟩
        case measure => simp [intOf] <;> omega
      · have hacE : at0 = c := by omega
        have hkE : k = at0 := by omega
        subst hacE
        subst hkE
        go_wp2_with (first
          | (at_builtin; refine wpList_append_own_w (w3.alloc (.cells #[] 3)) (by rfl) (.tmp 21) (.tmp 24) 26 rfl w3.heap.size 3 i0 _ 1 8 Tryd.underlying26 hi hz0 hz1 hz2 rfl (by decide) (.slice (some ⟨w3.heap.size, 0, none⟩) 0 0) 0 (intsV .i64 []) rfl (own_made0 (Nat.le_refl _) _ _) ⟨g, 0, none⟩ 0 0 (intsV .i64 (M.drop k)) rfl (by rw [intsV_length, HLN.out, Nat.sub_self]) (HNW.out 0 (by simp)) intsV_one (by unfold maxLen; omega) (by omega) (by simp) ?_; intro v9 w9 hown9 hgr9 hv9; simp only [Nat.zero_add, intsV, List.map_nil, List.nil_append] at hown9; obtain ⟨g9, c9, rfl, hb9, hl9⟩ := own_some hown9 hv9 (by simp); have os9 := (OS3.out.alloc (.cells #[] 3)).apart' hgr9 (fun q hq => by (simp [Value.ownBlock] at hq ⊢; omega)); have OS9 := Lib.hid os9; have OW9 := Lib.hid hown9; have hs9 := os9.hs; clear os9 hown9 hgr9 hv9)
          | (at_builtin; refine wpList_append_own_w (w9.alloc (.cells #[.int .i64 (k : Int)] 3)) (by rfl) (.tmp 28) (.tmp 30) 26 rfl w.heap.size 3 i0 _ 1 8 Tryd.underlying26 hi hz0 hz1 hz2 rfl (by decide) (.slice (some ⟨g, 0, none⟩) k k) k (intsV .i64 (M.take k)) rfl (own_take1 (OS9.out.own.alloc _) hak) ⟨w9.heap.size, 0, none⟩ 1 1 (intsV .i64 [(k : Int)]) rfl rfl (cells_one1 (Newest.alloc_ rfl)) intsV_one (by unfold maxLen; omega) (by omega) (by simp; omega) ?_; intro v10 w10 hown10 hgr10 hv10; have os10 := (OS9.out.alloc (.cells #[.int .i64 (k : Int)] 3)).append hgr10 (fun q hq => by (simp [Value.ownBlock] at hq; omega)) hown10; have ow10 := own_other (g := g) (OW9.out.alloc (.cells #[.int .i64 (k : Int)] 3)) hgr10 (fun q hq => by (simp [Value.ownBlock] at hq; omega)); rw [← intsV_append] at os10; have OS10 := Lib.hid os10; have OW10 := Lib.hid ow10; have hs10 := os10.hs; obtain ⟨g10, c10, rfl, -, -⟩ := own_form hown10 (by omega); clear os10 ow10 hown10 hgr10 hv10)
          | (at_builtin; refine wpList_append_own_w w10 (by rfl) (.tmp 31) (.tmp 32) 26 rfl w.heap.size 3 i0 _ 1 8 Tryd.underlying26 hi hz0 hz1 hz2 rfl (by decide) (.slice (some ⟨g10, 0, none⟩) (k + 1) c10) (k + 1) (intsV .i64 (M.take k ++ [(k : Int)])) rfl OS10.out.own ⟨g9, 0, none⟩ 0 c9 (intsV .i64 (M.drop k)) rfl (by rw [intsV_length, HLN.out, Nat.sub_self]) (own_cells OW10.out) intsV_one (by unfold maxLen; omega) (by omega) hs10 ?_; intro v11 w11 hown11 hgr11 hv11; have os11 := OS10.out.append hgr11 (fun q hq => own_ge OS10.out.own hq) hown11; rw [← intsV_append, Nat.add_zero] at os11; obtain ⟨g11, c11, rfl, -, -⟩ := own_form os11.own (by omega); clear hown11 hgr11 hv11))
        go_roundw
        case rel => exact ⟨k + 1, g11, c11, M.take k ++ [(k : Int)] ++ M.drop k, _, by omega, by go_num, rfl, by rw [List.length_append, List.length_append, List.length_take, HLN.out, HM.out, List.length_singleton]; omega, os11, by omega⟩
        case measure => simp [intOf] <;> omega
    · obtain rfl : k = m := by omega
      go_wp2_with (fail)
      refine (odd_os os (by omega) (by omega)).mono ?_
      rintro e w4 ⟨o, rfl, os4⟩
      clear os
      cases o
      · go_wp2
        go_ret
        exact ⟨_, k, _, M, rfl, HM.out, by omega, os4.more (by omega)⟩
      · have osa : OS W (w4.alloc (.cells #[.int .i64 (k : Int), .int .i64 0] 3)) R (K' + 1) w.heap.size 3 1 (.slice (some ⟨g, 0, none⟩) k c) k (intsV .i64 M) := os4.alloc _
        have lt4 := os4.st.lt
        clear os4
        go_wp2_with (fail)
        refine (pick_os osa (by omega)).mono ?_
        rintro e w6 ⟨u, rfl, u0, u1, os6, st6⟩
        obtain ⟨un, rfl⟩ := Int.eq_ofNat_of_zero_le u0
        have ul : un < 2 := by omega
        have ul2 : (un : Int) < 2 := by omega
        have hs6 := os6.hs
        have t1 := two_at w4 3 (k : Int) 0 un ul
        have c1 := (st6.cell (p := ⟨w4.heap.size, un, none⟩) (by simp) (Nat.ne_of_gt lt4)).trans t1
        generalize oneOf (k : Int) 0 un = tq at c1
        have OS6 := Lib.hid os6
        clear os6 osa t1 u1 st6
        go_wp2_with (at_builtin; go_must (refine wpList_append_own_w _ (by rfl) (.tmp 37) (.tmp 44) 26 rfl w.heap.size 3 i0 _ 1 8 Tryd.underlying26 hi hz0 hz1 hz2 rfl (by decide) (.slice (some ⟨g, 0, none⟩) k c) k (intsV .i64 M) rfl (OS6.out.alloc _).own ⟨w6.heap.size, 0, none⟩ 1 1 (intsV .i64 [tq]) rfl rfl (cells_one1 (Newest.alloc_ rfl)) intsV_one (by unfold maxLen; omega) (by omega) (by simp; omega) ?_); intro v9 w9 hown9 hgr9 hv9; have os9 := (OS6.out.alloc _).append hgr9 (fun k hk => own_ge OS6.out.own hk) hown9; rw [← intsV_append] at os9; obtain ⟨g9, c9, rfl, -, -⟩ := own_form hown9 (by omega); clear hown9 hgr9 hv9)
        go_ret
        exact ⟨_, k + 1, _, M ++ [tq], rfl, by rw [List.length_append, HM.out]; rfl, by omega, os9.more (by omega)⟩
end Go.Proofs.YtblbfgoifaddiaaDoor
namespace Go.Proofs.YtblbfgoifaddiaaDoor
open Go.RowKit
set_option linter.unusedVariables false
set_option linter.unusedSimpArgs false
theorem OS.rebase' {V W w : World} {R K B sz n : Nat} {e : TypeId} {v : Value} {xs : List Value} (h : OS V w R K B e sz v n xs) (st : St W w R K) (hW : W.heap.size ≤ B) : OS W w R K B e sz v n xs := ⟨st, h.own, h.hB, hW, h.hs⟩
/-- heats and a table -/
def HsTb (w w' : World) (A : Option Addr) (n c : Nat) (L : List (Int × Int × Int)) (A2 : Option Addr) (rows : List (List Int)) : Prop :=
  L.length = n ∧ n ≤ 7 ∧ rows.length ≤ 4 ∧ w'.ownsRow w.heap.size 34 3 (.slice A n c) n (tripV L) ∧ RdR w' w'.heap.size A2 rows
def DrawnBo (w : World) (e : Ending) (w' : World) : Prop := ∃ (A : Option Addr) (n c : Nat) (L : List (Int × Int × Int)) (A2 : Option Addr) (n2 c2 : Nat) (rows : List (List Int)),
  e = .returned (.tuple #[.slice A n c, .slice A2 n2 c2]) ∧ rows.length = n2 ∧ HsTb w w' A n c L A2 rows ∧ Below w.heap.size w w'
def DrawnOl (w : World) (e : Ending) (w' : World) : Prop := ∃ (A : Option Addr) (n c : Nat) (L : List (Int × Int × Int)) (A2 : Option Addr) (n2 c2 : Nat) (rows : List (List Int)) (A3 : Option Addr) (n3 c3 : Nat) (M : List Int),
  e = .returned (.tuple #[.slice A n c, .slice A2 n2 c2, .slice A3 n3 c3]) ∧ rows.length = n2 ∧ HsTb w w' A n c L A2 rows ∧ M.length = n3 ∧ n3 ≤ 8 ∧ w'.ownsRow w.heap.size 3 1 (.slice A3 n3 c3) n3 (intsV .i64 M) ∧ Below w.heap.size w w'
set_option maxRecDepth 100000 in
set_option maxHeartbeats 1000000 in
theorem drawBo_st {w : World} {A : Option Addr} {n c : Nat} {xs : List Int} (hl : xs.length = n) (hc : n ≤ c) (rd : RdI .u8 w w.heap.size A xs) (hn : n ≤ 1048576) (hx : ∀ x ∈ xs, 0 ≤ x ∧ x ≤ 255) :
    Calls Tryd.prog 18 #[.slice A n c] w (DrawnBo w) := by
  go_enter Tryd.func18, Tryd.ntmps18
  go_wp2_with (fail)
  refine (open_st hl hc rd hn hx).mono ?_
  rintro e w2 ⟨rfl, st2, hz2⟩
  have lt2 := st2.lt
  clear rd hx hl hc
  go_wp2_with (fail)
  refine (heats_st st2 (by omega) (by omega) (by omega)).mono ?_
  rintro e w3 ⟨A4, m, c4, L, rfl, hL, hm7, os3⟩
  have hs3 := os3.hs
  go_wp2_with (fail)
  refine (lost_st (os3.st.self (Below.refl _ _)) (by omega) (by omega) (by omega)).mono ?_
  rintro e w4 ⟨A5, m5, c5, rows, rfl, hrows, hr4, hrd, st4⟩
  have os4 := os3.draw st4
  have OS4 := Lib.hid os4
  have HRD := Lib.hid (hrd _ _ (st4.self (Below.refl _ _)))
  clear hrd os3 st4 os4
  go_wp2
  go_ret2
  exact ⟨A4, m, c4, L, A5, m5, c5, rows, rfl, hrows, ⟨hL, hm7, by omega, own_lower OS4.out.own (Nat.le_of_lt (Nat.lt_of_lt_of_le lt2 (Nat.le_refl _))), HRD.out⟩, OS4.out.st.below (Nat.le_refl _) (Nat.le_refl _)⟩
set_option maxRecDepth 100000 in
set_option maxHeartbeats 1000000 in
theorem drawLl_st {w : World} {A : Option Addr} {n c : Nat} {xs : List Int} (hl : xs.length = n) (hc : n ≤ c) (rd : RdI .u8 w w.heap.size A xs) (hn : n ≤ 1048576) (hx : ∀ x ∈ xs, 0 ≤ x ∧ x ≤ 255) :
    Calls Tryd.prog 23 #[.slice A n c] w (DrawnBo w) := by
  go_enter Tryd.func23, Tryd.ntmps23
  go_wp2_with (fail)
  refine (drawBo_st hl hc rd hn hx).mono ?_
  rintro e w3 ⟨A4, m, c4, L, A5, m5, c5, rows, rfl, h1, h2, h3⟩
  go_wp2
  go_ret2
  exact ⟨A4, m, c4, L, A5, m5, c5, rows, rfl, h1, h2, h3⟩
set_option maxRecDepth 100000 in
set_option maxHeartbeats 1000000 in
theorem drawOl_st {w : World} {A : Option Addr} {n c : Nat} {xs : List Int} (hl : xs.length = n) (hc : n ≤ c) (rd : RdI .u8 w w.heap.size A xs) (hn : n ≤ 1048576) (hx : ∀ x ∈ xs, 0 ≤ x ∧ x ≤ 255) :
    Calls Tryd.prog 14 #[.slice A n c] w (DrawnOl w) := by
  go_enter Tryd.func14, Tryd.ntmps14
  go_wp2_with (fail)
  refine (open_st hl hc rd hn hx).mono ?_
  rintro e w2 ⟨rfl, st2, hz2⟩
  have lt2 := st2.lt
  clear rd hx hl hc
  go_wp2_with (fail)
  refine (heats_st st2 (by omega) (by omega) (by omega)).mono ?_
  rintro e w3 ⟨A4, m, c4, L, rfl, hL, hm7, os3⟩
  have hs3 := os3.hs
  go_wp2_with (fail)
  refine (lost_st (os3.st.self (Below.refl _ _)) (by omega) (by omega) (by omega)).mono ?_
  rintro e w4 ⟨A5, m5, c5, rows, rfl, hrows, hr4, hrd, st4⟩
  have os4 := os3.draw st4
  have hs4 := os4.hs
  clear os3 st4
  go_wp2_with (fail)
  refine (shuffle_st (os4.st.self (Below.refl _ _)) (by omega) hm7 (by omega) (by omega)).mono ?_
  rintro e w5 ⟨A6, m6, c6, M, rfl, hM, hm8, os5⟩
  have os6 := os4.draw os5.st
  have OS6 := Lib.hid os6
  have OM := Lib.hid os5.own
  have HRD := Lib.hid (hrd _ _ os5.st)
  clear hrd os4 os5 os6
  go_wp2
  go_ret3
  exact ⟨A4, m, c4, L, A5, m5, c5, rows, A6, m6, c6, M, rfl, hrows, ⟨hL, hm7, by omega, own_lower OS6.out.own (Nat.le_of_lt lt2), HRD.out⟩, hM, hm8, own_lower OM.out (by omega), OS6.out.st.below (Nat.le_refl _) (Nat.le_refl _)⟩
end Go.Proofs.YtblbfgoifaddiaaDoor
