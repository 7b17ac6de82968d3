/- The walk of the law FnBestOrder. -/
import Derived.Test.YtblbfgoifaddiaaDoorOrdLaws
import Derived.Test.YtblbfgoifaddiaaDoorDrawOl
import Derived.Test.YtblbfgoifaddiaaDoorSame
import Derived.Test.YtblbfgoifaddiaaDoorAlive
namespace Go.Proofs.YtblbfgoifaddiaaDoor
open Go.RowKit
set_option linter.unusedVariables false
set_option linter.unusedSimpArgs false
set_option maxRecDepth 100000 in
set_option maxHeartbeats 2000000 in
theorem walkFnBestOrder (w : World) (A : Option Addr) (n c : Nat) (xs : List Int) (hl : xs.length = n) (rd : RdI .u8 w w.heap.size A xs) (hc : n ≤ c) (hx : ∀ x ∈ xs, 0 ≤ x ∧ x ≤ 255) :
    Calls Tryd.prog 5 #[.slice A n c] w fun e w' => e = .returned (.bool true) ∧ Below w.heap.size w w' := by
  obtain ⟨i0, hi, hz0, hz1, hz2⟩ := info_parts info_int
  by_cases hs0 : 1048576 < (n : Int)
  · go_enter Tryd.func5, Tryd.ntmps5
    go_wp2
    go_ret
    exact ⟨rfl, Below.refl _ _⟩
  have hn : n ≤ 1048576 := by omega
  go_enter Tryd.func5, Tryd.ntmps5
  go_wp2_with (fail)
  refine (drawBo_st hl hc rd hn hx).mono ?_
  rintro e w1 ⟨A4, m, c4, L, A5, m5, c5, rows, rfl, hrows, ⟨hL, hm7, hr4, oh, rt⟩, hb⟩
  clear rd hx hl hc
  have hs1 := hb.size
  have HL := Lib.hid hL
  have HR := Lib.hid hrows
  rw [hrows] at hr4
  have hbl := bestRow_len L rows
  obtain ⟨M, hM⟩ : ∃ M, bestRow L rows = M := ⟨_, rfl⟩
  rw [hM] at hbl
  obtain ⟨p, hp⟩ : ∃ p, M.length = p := ⟨_, rfl⟩
  have HMR := Lib.hid hM
  have HP := Lib.hid hp
  have hp6 : p ≤ 6 := by omega
  clear hL hrows hbl hM hp
  go_wp2_with (fail)
  refine (implBest_any _ _ _ L _ _ _ rows _ HL.out (RdT.of_own oh) (by omega) HR.out rt (by omega)).mono ?_
  intro e w2 hrow
  rw [HMR.out] at hrow
  obtain ⟨A6, c6, rfl, own2, hb2⟩ := hrow
  rw [HP.out] at own2
  rw [HP.out]
  have lb : LB w w2 (.slice A4 m c4) m L A5 rows (.slice A6 p c6) p M := ⟨hb.trans (hb2.mono hs1), own_below oh hb2, rt.up hb2 hb2.size, own_lower own2 hs1⟩
  clear oh rt hb own2 hb2
  go_wp2_with (fail)
  refine (specBest_any _ _ _ L _ _ _ rows _ HL.out (RdT.of_own lb.oh) (by omega) HR.out lb.rt (by omega)).mono ?_
  intro e w3 hrow
  rw [HMR.out] at hrow
  obtain ⟨A7, c7, rfl, own3, hb3⟩ := hrow
  rw [HP.out] at own3
  rw [HP.out]
  have lb3 := lb.next hb3
  have rd7 := RdI.of_own own3
  clear lb own3 hb3
  go_wp2_with (fail)
  refine (sameInts_same _ _ _ _ _ M _ HP.out (RdI.of_own lb3.oo) rd7 (by omega)).mono ?_
  rintro e w4 ⟨rfl, hb4⟩
  have lb4 := lb3.next hb4
  clear lb3 rd7 hb4
  go_wp2_with (fail)
  refine (specHeats_any _ _ _ L _ HL.out (RdT.of_own lb4.oh) (by omega)).mono ?_
  rintro e w5 ⟨rfl, hb5⟩
  have lb5 := lb4.next hb5
  clear lb4 hb5
  cases h1 : heatsOk L
  · obtain rfl : p = 0 := by rw [← HP.out, ← HMR.out, bestRow_1 h1]; rfl
    go_wp2_with (first
      | (go_at_call 12; refine (alive_any _).mono ?_; rintro e w7 ⟨rfl, hb7⟩; have lb5 := lb5.next hb7))
    go_ret
    exact ⟨rfl, lb5.be⟩
  go_wp2_with (fail)
  refine (specLost_any _ _ _ rows _ HR.out lb5.rt (by omega)).mono ?_
  rintro e w6 ⟨rfl, hb6⟩
  have lb6 := lb5.next hb6
  clear lb5 hb6
  cases h2 : lostOk rows
  · obtain rfl : p = 0 := by rw [← HP.out, ← HMR.out, bestRow_2 h2]; rfl
    go_wp2_with (first
      | (go_at_call 12; refine (alive_any _).mono ?_; rintro e w7 ⟨rfl, hb7⟩; have lb6 := lb6.next hb7))
    go_ret
    exact ⟨rfl, lb6.be⟩
  have hc6 := own_cap lb6.oo
  go_wp2_with (fail)
  refine (implOrderLost_any _ _ _ L _ _ _ rows _ _ _ M _ HL.out (RdT.of_own lb6.oh) (by omega) HR.out lb6.rt (by omega) HP.out (RdI.of_own lb6.oo) ⟨by omega, hc6⟩).mono ?_
  rintro e w7 ⟨rfl, hb7⟩
  have lb7 := lb6.next hb7
  have hMB : M = castI (bestO (costF L rows) m) := by rw [← HMR.out, bestRow_3 h1 h2, HL.out]
  have hxv : orderLost L rows M = leastLost L rows := by rw [leastLost, HMR.out]
  have hx0 : 0 ≤ leastLost L rows := least_nonneg h1 h2
  rw [hxv]
  have H1 := Lib.hid h1
  have H2 := Lib.hid h2
  have HMB := Lib.hid hMB
  have n6 := (heatsOk_facts h1).1
  rw [HL.out] at n6
  have BST := Lib.hid ((bestO_lists (c := costF L rows) n6).get n6)
  obtain rfl : p = m := by rw [← HP.out, hMB]; simp [castI]; exact BST.out.2.2
  clear lb6 hb7 h1 h2 hMB hxv
  obtain ⟨x, hx⟩ : ∃ x, leastLost L rows = x := ⟨_, rfl⟩
  rw [hx] at hx0
  rw [hx]
  have HX := Lib.hid hx
  clear hx
  go_wp2_with (fail)
  have LB7 := Lib.hid lb7
  clear lb7
  go_loopw [7] (fun v wr => ∃ k : Nat, 1 ≤ k ∧ (k ≤ p ∨ p = 0 ∧ k = 1) ∧ v = .int .i64 k ∧ LB w wr (.slice A4 p c4) p L A5 rows (.slice A6 p c6) p M) (fun v _ => p + 1 - (intOf v).toNat)
  case atStart => exact ⟨1, Nat.le_refl _, by omega, rfl, LB7.out⟩
  case round =>
    clear LB7
    obtain ⟨k, hk1, hk, rfl, lb⟩ := hrel
    by_cases hlt : k < p
    · have LBH := Lib.hid lb
      obtain ⟨g6, cc, hform, -, -⟩ := own_form lb.oo (by omega)
      injection hform with hA _ hC
      subst hA
      clear hC cc
      obtain ⟨q, hq⟩ : ∃ q, k = q + 1 := ⟨k - 1, by omega⟩
      obtain ⟨a, ha⟩ : ∃ a, (bestO (costF L rows) p)[q]? = some a := ⟨_, List.getElem?_eq_getElem (by rw [BST.out.2.2]; omega)⟩
      obtain ⟨b, hb⟩ : ∃ b, (bestO (costF L rows) p)[k]? = some b := ⟨_, List.getElem?_eq_getElem (by rw [BST.out.2.2]; omega)⟩
      have hperm := exch_ok ha (by rw [← hq]; exact hb)
      have hao : M[q]? = some (a : Int) := by rw [HMB.out]; exact castI_get ha
      have hbo : M[k]? = some (b : Int) := by rw [HMB.out]; exact castI_get hb
      have HY : Hid (x ≤ orderLost L rows ((M.set q (b : Int)).set k (a : Int))) := Lib.hid (by
        have e : (M.set q (b : Int)).set k (a : Int) = castI (((bestO (costF L rows) p).set q b).set (q + 1) a) := by rw [castI_set, castI_set, ← HMB.out, hq]
        have hnd := hperm.nodup_iff.2 BST.out.1
        have hbd : ∀ j, j ∈ ((bestO (costF L rows) p).set q b).set (q + 1) a → j < L.length := fun j hj => by rw [HL.out]; exact BST.out.2.1 j (hperm.mem_iff.1 hj)
        have hln : (((bestO (costF L rows) p).set q b).set (q + 1) a).length = L.length := by rw [hperm.length_eq, HL.out]; exact BST.out.2.2
        rw [e, orderLost_4 H1.out H2.out (isOrd_castI hnd hbd hln), natO_castI, ← HX.out]
        exact least_le H1.out H2.out hnd hbd hln)
      have kq : (k : Int) - 1 = (q : Int) := by omega
      have qk : q < k := by omega
      have hszw := lb.be.size
      have CE := Lib.hid (own_cells lb.oo)
      have HAO := Lib.hid hao
      have HBO := Lib.hid hbo
      have HQ := Lib.hid hq
      clear lb hperm hao hbo ha hb hq
      go_wp2_with (at_builtin; go_must (refine wpList_append_own_w _ (by rfl) (.tmp 50) (.tmp 51) 26 rfl wr.heap.size 3 i0 _ 1 8 Tryd.underlying26 hi hz0 hz1 hz2 rfl (by decide) (.slice (some ⟨wr.heap.size, 0, none⟩) 0 0) 0 (intsV .i64 []) rfl (own_made0 (Nat.le_refl _) _ _) ⟨g6, 0, none⟩ p c6 (intsV .i64 M) rfl (by rw [intsV_length, HP.out, Nat.mul_one]) (own_cells (LBH.out.oo.alloc _)) intsV_one (by unfold maxLen; omega) (by omega) (by simp) ?_; intro v9 w9 hown9 hgr9 hv9; simp only [Nat.zero_add, intsV, List.map_nil, List.nil_append] at hown9; obtain ⟨g9, c9, rfl, hb9, hl9⟩ := own_some hown9 hv9 (by simp); have bel9 : Below wr.heap.size wr w9 := ((Below.refl _ wr).alloc (Nat.le_refl _) (.cells #[] 3)).grown hgr9 (by simp) (fun q hq => by (have h' : wr.heap.size = q := Option.some.inj hq; omega)); have lb9 := LBH.out.next bel9; have ca := own_cellT lb9.oo HAO.out; have cb := own_cellT lb9.oo HBO.out; have own9 : w9.ownsRow wr.heap.size 3 1 (.slice (some ⟨g9, 0, none⟩) p c9) p (intsV .i64 M) := hown9; have hg6 := (LBH.out.oo.lt g6 rfl).2; have hne : g6 ≠ g9 := (by omega); have hne2 : g9 ≠ g6 := (by omega); have da := own_cellT own9 HAO.out; have db := own_cellT own9 HBO.out; have fa := own9.frozenAt q; have fb := own9.frozenAt k; have qne : q ≠ k := (by omega); have hs9 := lb9.be.size; clear hgr9 hv9 hown9))
      have bel10 := (bel9.setCell (p := ⟨g9, q, none⟩) hb9 (.int .i64 (b : Int))).setCell (p := ⟨g9, k, none⟩) hb9 (.int .i64 (a : Int))
      have lb10 := LBH.out.next bel10
      have own10 := own_set1 (k := k) (x := (a : Int)) (own_set1 (k := q) (x := (b : Int)) own9)
      have hl10 : ((M.set q (b : Int)).set k (a : Int)).length = p := by rw [List.length_set, List.length_set, HP.out]
      have hc10 := own_cap own10
      clear ca cb da db fa fb hs9 hg6 hne hne2 qne hl9 own9 lb9 bel9
      have OWN10 := Lib.hid own10
      generalize (w9.setCell ⟨g9, q, none⟩ (.int .i64 (b : Int))).setCell ⟨g9, k, none⟩ (.int .i64 (a : Int)) = w10 at *
      clear own10
      refine (implOrderLost_any _ _ _ L _ _ _ rows _ _ _ ((M.set q (b : Int)).set k (a : Int)) _ HL.out (RdT.of_own lb10.oh) (by omega) HR.out lb10.rt (by omega) hl10 (RdI.of_own OWN10.out) ⟨by omega, hc10⟩).mono ?_
      rintro e w11 ⟨rfl, hb11⟩
      have lb11 := lb10.next hb11
      have hy := HY.out
      clear lb10 hb11 hl10 hc10 OWN10 HY CE bel10
      generalize orderLost L rows ((M.set q (b : Int)).set k (a : Int)) = y at *
      have D1 : decide (y < x) = false := decide_eq_false (by omega)
      go_wp2
      go_roundw
      case rel => exact ⟨k + 1, by omega, by omega, by go_num, lb11⟩
      case measure => simp [intOf] <;> omega
    · have D0 : (0 : Int) ≤ x := hx0
      go_wp2
      go_ret
      exact ⟨rfl, lb.be⟩
end Go.Proofs.YtblbfgoifaddiaaDoor
