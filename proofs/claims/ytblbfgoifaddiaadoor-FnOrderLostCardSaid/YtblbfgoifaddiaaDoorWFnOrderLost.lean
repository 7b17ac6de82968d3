/- The walk of the law FnOrderLost. -/
import Derived.Test.YtblbfgoifaddiaaDoorOrdLaws
import Derived.Test.YtblbfgoifaddiaaDoorDrawOl
import Derived.Test.YtblbfgoifaddiaaDoorSame
import Derived.Test.YtblbfgoifaddiaaDoorAlive
namespace Go.Proofs.YtblbfgoifaddiaaDoor
open Go.RowKit
set_option linter.unusedVariables false
set_option linter.unusedSimpArgs false
set_option maxRecDepth 100000 in
set_option maxHeartbeats 2000000 in
theorem walkFnOrderLost (w : World) (A : Option Addr) (n c : Nat) (xs : List Int) (hl : xs.length = n) (rd : RdI .u8 w w.heap.size A xs) (hc : n ≤ c) (hx : ∀ x ∈ xs, 0 ≤ x ∧ x ≤ 255) :
    Calls Tryd.prog 4 #[.slice A n c] w fun e w' => e = .returned (.bool true) ∧ Below w.heap.size w w' := by
  obtain ⟨i0, hi, hz0, hz1, hz2⟩ := info_parts info_int
  obtain ⟨i1, hj, hy0, hy1, hy2⟩ := info_parts info_Row
  by_cases hs0 : 1048576 < (n : Int)
  · go_enter Tryd.func4, Tryd.ntmps4
    go_wp2
    go_ret
    exact ⟨rfl, Below.refl _ _⟩
  have hn : n ≤ 1048576 := by omega
  go_enter Tryd.func4, Tryd.ntmps4
  go_wp2_with (fail)
  refine (drawOl_st hl hc rd hn hx).mono ?_
  rintro e w1 ⟨A4, m, c4, L, A5, m5, c5, rows, A6, p, c6, M, rfl, hrows, ⟨hL, hm7, hr4, oh, rt⟩, hM, hp8, oo, hb⟩
  clear rd hx hl hc
  have HL := Lib.hid hL
  have HR := Lib.hid hrows
  have HM := Lib.hid hM
  rw [hrows] at hr4
  have lb : LB w w1 (.slice A4 m c4) m L A5 rows (.slice A6 p c6) p M := ⟨hb, oh, rt, oo⟩
  have hc6 := own_cap oo
  clear oh rt hb oo hL hrows hM
  obtain ⟨x, hxx⟩ : ∃ x, orderLost L rows M = x := ⟨_, rfl⟩
  have HX := Lib.hid hxx
  clear hxx
  go_wp2_with (fail)
  refine (implOrderLost_any _ _ _ L _ _ _ rows _ _ _ M _ HL.out (RdT.of_own lb.oh) (by omega) HR.out lb.rt (by omega) HM.out (RdI.of_own lb.oo) ⟨by omega, hc6⟩).mono ?_
  rintro e w2 ⟨rfl, hb2⟩
  rw [HX.out]
  have lb2 := lb.next hb2
  clear lb hb2
  go_wp2_with (fail)
  refine (specOrderLost_any _ _ _ L _ _ _ rows _ _ _ M _ HL.out (RdT.of_own lb2.oh) (by omega) HR.out lb2.rt (by omega) HM.out (RdI.of_own lb2.oo) ⟨by omega, hc6⟩).mono ?_
  rintro e w3 ⟨rfl, hb3⟩
  rw [HX.out]
  have lb3 := lb2.next hb3
  clear lb2 hb3
  rcases orderLost_cases L rows M with hneg | ⟨h1, h2, h3, -, hx0⟩
  · obtain rfl : x = -1 := by rw [← HX.out]; exact hneg
    go_wp2_with (first
      | (go_at_call 12; refine (alive_any _).mono ?_; rintro e w7 ⟨rfl, hb7⟩; have lb3 := lb3.next hb7))
    go_ret
    exact ⟨rfl, lb3.be⟩
  rw [HX.out] at hx0
  have HLE : Hid (leastLost L rows ≤ x) := Lib.hid (by rw [← HX.out]; exact least_order h1 h2 h3)
  have HNN : Hid (0 ≤ leastLost L rows) := Lib.hid (least_nonneg h1 h2)
  have HTL : Hid (orderLost L (turnTo rows 4) M.reverse = x) := Lib.hid (by rw [← HX.out]; exact turn_lost h1 h2 h3)
  have H2 := Lib.hid h2
  obtain rfl : m5 = 4 := by rw [← HR.out]; exact (lostOk_facts h2).1
  have LB3 := Lib.hid lb3
  clear h1 h2 h3 lb3 hr4
  go_wp2_with (fail)
  go_loopw [7, 8] (fun v i wr => ∃ (z : Int) (k n7 : Nat) (A7 : Option Addr) (c7 : Nat), (k : Int) = z + 1 ∧ n7 + k = p ∧ i = .int .i64 z ∧ v = .slice A7 n7 c7 ∧ Below w3.heap.size w3 wr ∧ wr.ownsRow w3.heap.size 3 1 (.slice A7 n7 c7) n7 (intsV .i64 (M.drop k).reverse)) (fun _ i _ => (intOf i + 1).toNat)
  case atStart => exact ⟨(p : Int) - 1, p, 0, _, _, by omega, by omega, by go_num, rfl, (Below.refl _ _).alloc (Nat.le_refl _) _, by rw [List.drop_of_length_le (by rw [HM.out]; exact Nat.le_refl _)]; exact own_made0 (Nat.le_refl _) _ _⟩
  case round =>
    obtain ⟨z, k, n7, A7, c7, hkz, hnk, rfl, rfl, be, own7⟩ := hrel
    have hsz := be.size
    have lb := LB3.out.next be
    by_cases hz : 0 ≤ z
    · obtain ⟨q, rfl⟩ := Int.eq_ofNat_of_zero_le hz
      obtain rfl : k = q + 1 := by omega
      obtain ⟨g6, cc, hform, -, -⟩ := own_form lb.oo (by omega)
      injection hform with hA _ hC
      subst hA
      clear hC cc
      obtain ⟨y, hy⟩ : ∃ y, M[q]? = some y := ⟨_, List.getElem?_eq_getElem (by rw [HM.out]; omega)⟩
      have HST := Lib.hid (rev_step hy)
      have ca := own_cellT lb.oo hy
      have qp : (q : Int) < p := by omega
      clear lb hy LB3
      go_wp2_with (at_builtin; go_must (refine wpList_append_own_w _ (by rfl) (.tmp 48) (.tmp 53) 26 rfl w3.heap.size 3 i0 _ 1 8 Tryd.underlying26 hi hz0 hz1 hz2 rfl (by decide) (.slice A7 n7 c7) n7 (intsV .i64 (M.drop (q + 1)).reverse) rfl (own7.alloc (.cells #[.int .i64 y] 3)) ⟨wr.heap.size, 0, none⟩ 1 1 (intsV .i64 [y]) rfl rfl (cells_one1 (Newest.alloc_ rfl)) intsV_one (by unfold maxLen; omega) (by omega) (by simp; omega) ?_; intro v9 w9 hown9 hgr9 hv9; rw [← intsV_append, HST.out] at hown9; obtain ⟨g9, c9, rfl, -, -⟩ := own_form hown9 (by omega); have be9 : Below w3.heap.size w3 w9 := Below.grown (be.alloc hsz (.cells #[.int .i64 y] 3)) hgr9 (by simp; omega) (fun q hq => own_ge own7 hq); clear hgr9 hv9))
      go_roundw
      case rel => exact ⟨(q : Int) - 1, q, n7 + 1, _, c9, by omega, by omega, by go_num, rfl, be9, hown9⟩
      case measure => simp [intOf] <;> omega
    · rename World => wA
      obtain rfl : z = -1 := by omega
      obtain rfl : k = 0 := by omega
      obtain rfl : n7 = p := by omega
      rw [List.drop_zero] at own7
      have LBW := Lib.hid lb
      have OW7 := Lib.hid own7
      have hrl : M.reverse.length = n7 := by rw [List.length_reverse, HM.out]
      have HRL := Lib.hid hrl
      have hc7 := own_cap own7
      have tab0 : Tab (wA.alloc (.cells #[] 26)) wA.heap.size 26 3 (.slice (some ⟨wA.heap.size, 0, none⟩) 0 0) 0 [] (turnTo rows 0) := ⟨own_made0 (Nat.le_refl _) _ _, rfl, fun j u r hu => by simp at hu, fun i j u u' _ hu => by simp at hu⟩
      clear lb own7 LB3 hrl be hsz
      go_wp2_with (fail)
      go_loopw [9, 10] (fun v i wk => ∃ (k g c : Nat) (vs : List Value), k ≤ 4 ∧ i = .int .i64 k ∧ v = .slice (some ⟨g, 0, none⟩) k c ∧ Tab wk wA.heap.size 26 3 (.slice (some ⟨g, 0, none⟩) k c) k vs (turnTo rows k) ∧ Below wA.heap.size wA wk) (fun _ i _ => 4 - (intOf i).toNat)
      case atStart => exact ⟨0, _, _, [], Nat.zero_le _, rfl, rfl, tab0, (Below.refl _ _).alloc (Nat.le_refl _) _⟩
      case round =>
        clear tab0
        rename World => wk
        obtain ⟨k, g, ct, vs, hk, rfl, rfl, tab, be⟩ := hrel
        have hsz := be.size
        have lb := LBW.out.next be
        by_cases hlt : k < 4
        · have TAB := Lib.hid tab
          have LBK := Lib.hid lb
          have BEK := Lib.hid be
          have hall : ∀ (q : Nat) (u : Value) (a : Nat), vs[q]? = some u → u.ownBlock = some a → a < wk.heap.size := fun q u a hq ha => (tab.blk hq ha).2
          have HALL := Lib.hid hall
          have hoA := own_made0 (w := wk) (base := wk.heap.size) (Nat.le_refl _) 3 1
          have beA : Below wk.heap.size wk (wk.alloc (.cells #[] 3)) := (Below.refl _ _).alloc (Nat.le_refl _) _
          clear tab lb be hall LBW OW7
          go_wp2_with (fail)
          have D4 : decide ((k : Int) < 4) = true := by simp; omega
          simp only [D4]
          go_loopw [11, 12] (fun v i wi => ∃ (j : Nat) (A11 : Option Addr) (c11 : Nat), j ≤ 4 ∧ i = .int .i64 j ∧ v = .slice A11 j c11 ∧ wi.ownsRow wk.heap.size 3 1 (.slice A11 j c11) j (intsV .i64 (turnRow rows k j)) ∧ Below wk.heap.size wk wi) (fun _ i _ => 4 - (intOf i).toNat)
          case atStart => exact ⟨0, _, _, Nat.zero_le _, rfl, rfl, hoA, beA⟩
          case round =>
            clear hoA beA
            rename World => wi
            obtain ⟨j, A11, c11, hj4, rfl, rfl, own11, bei⟩ := hrel
            have hszi := bei.size
            by_cases hltj : j < 4
            · have lb := LBK.out.next bei
              obtain ⟨r, hr, hr4, hx, x0, x1⟩ := cost_get H2.out hltj hlt
              have HST : Hid (turnRow rows k j ++ [(rows.getD j []).getD k 0] = turnRow rows k (j + 1)) := Lib.hid (turnRow_succ _ _ _)
              generalize (rows.getD j []).getD k 0 = y at *
              obtain ⟨b, off, rfl, hbB, A', c', hc1, rd⟩ := lb.rt j r hr
              obtain ⟨b2, off2, rfl, hbB2, hc2⟩ := rd k y hx
              rw [hr4] at hc1
              have kI : (k : Int) < 4 := by omega
              have jI : (j : Int) < 4 := by omega
              clear hr hx lb rd
              go_wp2_with (at_builtin; go_must (refine wpList_append_own_w _ (by rfl) (.tmp 65) (.tmp 73) 26 rfl wk.heap.size 3 i0 _ 1 8 Tryd.underlying26 hi hz0 hz1 hz2 rfl (by decide) (.slice A11 j c11) j (intsV .i64 (turnRow rows k j)) rfl (own11.alloc (.cells #[.int .i64 y] 3)) ⟨wi.heap.size, 0, none⟩ 1 1 (intsV .i64 [y]) rfl rfl (cells_one1 (Newest.alloc_ rfl)) intsV_one (by unfold maxLen; omega) (by omega) (by simp; omega) ?_; intro v9 w9 hown9 hgr9 hv9; rw [← intsV_append, HST.out] at hown9; obtain ⟨g9, c9, rfl, -, -⟩ := own_form hown9 (by omega); have be9 : Below wk.heap.size wk w9 := Below.grown (bei.alloc hszi (.cells #[.int .i64 y] 3)) hgr9 (by simp; omega) (fun q hq => own_ge own11 hq); clear hgr9 hv9))
              go_roundw
              case rel => exact ⟨j + 1, _, c9, by omega, by go_num, rfl, hown9, be9⟩
              case measure => simp [intOf] <;> omega
            · obtain rfl : j = 4 := by omega
              have tabA := (TAB.out.next bei).alloc (.cells #[.slice A11 4 c11] 26)
              have TABA := Lib.hid tabA
              have OWN := Lib.hid own11
              have hseq : Hid (turnTo rows k ++ [turnRow rows k 4] = turnTo rows (k + 1)) := Lib.hid (turnTo_succ _ _)
              have bEI : Below wA.heap.size wA wi := BEK.out.trans (bei.mono hsz)
              clear own11 tabA
              go_wp2_with (at_builtin; go_must (refine wpList_append_own_w _ (by rfl) (.tmp 75) (.tmp 77) 37 rfl wA.heap.size 26 i1 _ 1 24 Tryd.underlying37 hj hy0 hy1 hy2 rfl (by decide) (.slice (some ⟨g, 0, none⟩) k ct) k vs rfl TABA.out.own ⟨wi.heap.size, 0, none⟩ 1 1 [.slice A11 4 c11] rfl rfl (news_val (Newest.alloc_ rfl)) (by intro u hu; simp at hu; subst hu; rfl) (by unfold maxLen; omega) (by omega) (by simp; omega) ?_; intro v9 w9 hown9 hgr9 hv9; have tab9 := TABA.out.grow tagTE (r := turnRow rows k 4) hgr9 hown9 (by rw [turnRow_len]; exact own_lower (OWN.out.alloc _) hsz) (fun q u' hu' a ha hb => by (have h1 := HALL.out q u' a hu' ha; have h2 := own_ge OWN.out hb; omega)); have be9 : Below wA.heap.size wA w9 := Below.grown (bEI.alloc (by omega) (.cells #[.slice A11 4 c11] 26)) hgr9 (by simp; omega) (fun q hq => own_ge TABA.out.own hq); rw [hseq.out] at tab9; obtain ⟨g9, c9, rfl, -, -⟩ := own_form hown9 (by omega); clear hown9 hgr9 hv9))
              go_roundw
              case rel => exact ⟨k + 1, g9, c9, _, by omega, by go_num, rfl, tab9, be9⟩
              case measure => simp [intOf] <;> omega
        · obtain rfl : k = 4 := by omega
          have own7 := own_below OW7.out be
          have rr := RdR.of_tab tab
          have RB := Lib.hid own7
          have TB := Lib.hid tab
          clear own7 rr tab be LBW OW7
          go_wp2_with (fail)
          refine (implLeastL_any _ _ _ L _ _ _ rows _ HL.out (RdT.of_own lb.oh) (by omega) HR.out lb.rt (by omega)).mono ?_
          rintro e w12 ⟨rfl, hb12⟩
          have lb12 := lb.next hb12
          have RB12 := Lib.hid (own_below RB.out hb12)
          have TB12 := Lib.hid (TB.out.next hb12)
          have hle := HLE.out
          have hnn := HNN.out
          generalize leastLost L rows = y at *
          clear lb hb12 RB TB
          go_wp2_with (fail)
          refine (implOrderLost_any _ _ _ L _ _ _ (turnTo rows 4) _ _ _ M.reverse _ HL.out (RdT.of_own lb12.oh) (by omega) (turnTo_len _ _) (RdR.of_tab TB12.out) (by omega) HRL.out (RdI.of_own RB12.out) ⟨by omega, hc7⟩).mono ?_
          rintro e w13 ⟨rfl, hb13⟩
          rw [HTL.out]
          have lb13 := lb12.next hb13
          clear lb12 hb13
          go_wp2
          go_ret
          exact ⟨rfl, lb13.be⟩
end Go.Proofs.YtblbfgoifaddiaaDoor
