/- The walk of the law FnLeastLost. -/
import Derived.Test.YtblbfgoifaddiaaDoorOrdLaws
import Derived.Test.YtblbfgoifaddiaaDoorAlive
namespace Go.Proofs.YtblbfgoifaddiaaDoor
open Go.RowKit
set_option linter.unusedVariables false
set_option linter.unusedSimpArgs false
set_option maxRecDepth 100000 in
set_option maxHeartbeats 2000000 in
theorem walkFnLeastLost (w : World) (A : Option Addr) (n c : Nat) (xs : List Int) (hl : xs.length = n) (rd : RdI .u8 w w.heap.size A xs) (hc : n ≤ c) (hx : ∀ x ∈ xs, 0 ≤ x ∧ x ≤ 255) :
    Calls Tryd.prog 6 #[.slice A n c] w fun e w' => e = .returned (.bool true) ∧ Below w.heap.size w w' := by
  obtain ⟨i0, hi, hz0, hz1, hz2⟩ := info_parts info_int
  obtain ⟨i1, hj, hy0, hy1, hy2⟩ := info_parts info_Row
  obtain ⟨i2, hh, hv0, hv1, hv2⟩ := info_parts info_Heat
  by_cases hs0 : 1048576 < (n : Int)
  · go_enter Tryd.func6, Tryd.ntmps6
    go_wp2
    go_ret
    exact ⟨rfl, Below.refl _ _⟩
  have hn : n ≤ 1048576 := by omega
  go_enter Tryd.func6, Tryd.ntmps6
  go_wp2_with (fail)
  refine (drawLl_st hl hc rd hn hx).mono ?_
  rintro e w1 ⟨A4, m, c4, L, A5, m5, c5, rows, rfl, hrows, ⟨hL, hm7, hr4, oh, rt⟩, hb⟩
  clear rd hx hl hc
  have HL := Lib.hid hL
  have HR := Lib.hid hrows
  rw [hrows] at hr4
  have lb : LB w w1 (.slice A4 m c4) m L A5 rows (.slice none 0 0) 0 [] := ⟨hb, oh, rt, World.ownsRow_nil _ _ _ _⟩
  clear oh rt hb hL hrows
  obtain ⟨x, hxx⟩ : ∃ x, leastLost L rows = x := ⟨_, rfl⟩
  have HX := Lib.hid hxx
  clear hxx
  go_wp2_with (fail)
  refine (implLeastL_any _ _ _ L _ _ _ rows _ HL.out (RdT.of_own lb.oh) (by omega) HR.out lb.rt (by omega)).mono ?_
  rintro e w2 ⟨rfl, hb2⟩
  rw [HX.out]
  have lb2 := lb.next hb2
  clear lb hb2
  go_wp2_with (fail)
  refine (specLeastL_any _ _ _ L _ _ _ rows _ HL.out (RdT.of_own lb2.oh) (by omega) HR.out lb2.rt (by omega)).mono ?_
  rintro e w3 ⟨rfl, hb3⟩
  rw [HX.out]
  have lb3 := lb2.next hb3
  clear lb2 hb3
  rcases leastLost_cases L rows with hneg | ⟨h1, h2, hx0⟩
  · obtain rfl : x = -1 := by rw [← HX.out]; exact hneg
    go_wp2_with (first
      | (go_at_call 12; refine (alive_any _).mono ?_; rintro e w7 ⟨rfl, hb7⟩; have lb3 := lb3.next hb7))
    go_ret
    exact ⟨rfl, lb3.be⟩
  rw [HX.out] at hx0
  have HFW : Hid (∀ k, leastLost (pickT L ((bestO (costF L rows) L.length).take k)) rows ≤ x) := Lib.hid (fun k => by rw [← HX.out]; exact fewer_least h1 h2 k)
  have HZ : Hid (leastLost L zeroRows = 0) := Lib.hid (zero_least h1)
  have HMR : Hid (bestRow L rows = castI (bestO (costF L rows) L.length)) := Lib.hid (bestRow_3 h1 h2)
  have n6 := (heatsOk_facts h1).1
  have BST := Lib.hid ((bestO_lists (c := costF L rows) n6).get n6)
  rw [HL.out] at n6
  obtain ⟨B, hB⟩ : ∃ B, bestO (costF L rows) L.length = B := ⟨_, rfl⟩
  rw [hB] at HFW HMR BST
  have hBl : B.length = m := by rw [BST.out.2.2, HL.out]
  have HBL := Lib.hid hBl
  have hcl : (castI B).length = m := by simp [castI, hBl]
  have HCL := Lib.hid hcl
  clear h1 h2 hB hBl hcl
  go_wp2_with (fail)
  refine (implBest_any _ _ _ L _ _ _ rows _ HL.out (RdT.of_own lb3.oh) (by omega) HR.out lb3.rt (by omega)).mono ?_
  intro e w4 hrow
  rw [HMR.out] at hrow
  obtain ⟨A6, c6, rfl, own4, hb4⟩ := hrow
  rw [HCL.out] at own4
  rw [HCL.out]
  have lb4 : LB w w4 (.slice A4 m c4) m L A5 rows (.slice A6 m c6) m (castI B) := by
    have h := lb3.next hb4
    exact ⟨h.be, h.oh, h.rt, own_lower own4 lb3.be.size⟩
  clear lb3 own4 hb4
  have LB4 := Lib.hid lb4
  clear lb4
  go_wp2_with (fail)
  go_loopw [7, 8] (fun v i wr => ∃ (k : Nat) (A7 : Option Addr) (c7 : Nat), k ≤ m - 1 ∧ i = .int .i64 k ∧ v = .slice A7 k c7 ∧ Below w4.heap.size w4 wr ∧ wr.ownsRow w4.heap.size 34 3 (.slice A7 k c7) k (tripV (pickT L (B.take k)))) (fun _ i _ => m - (intOf i).toNat)
  case atStart => exact ⟨0, _, _, Nat.zero_le _, rfl, rfl, (Below.refl _ _).alloc (Nat.le_refl _) _, own_made0 (Nat.le_refl _) _ _⟩
  case round =>
    obtain ⟨k, A7, c7, hk, rfl, rfl, be, own7⟩ := hrel
    have hsz := be.size
    have lb := LB4.out.next be
    by_cases hlt : k + 1 < m
    · obtain ⟨g6, cc, hform, -, -⟩ := own_form lb.oo (by omega)
      injection hform with hA _ hC
      subst hA
      clear hC cc
      obtain ⟨g4, cc, hform, -, -⟩ := own_form lb.oh (by omega)
      injection hform with hA _ hC
      subst hA
      clear hC cc
      obtain ⟨a, ha⟩ : ∃ a, B[k]? = some a := ⟨_, List.getElem?_eq_getElem (by rw [HBL.out]; omega)⟩
      have ham : a < m := by rw [← HL.out]; exact BST.out.2.1 a (List.mem_of_getElem? ha)
      obtain ⟨⟨x1, x2, x3⟩, hq⟩ : ∃ q, L[a]? = some q := ⟨_, List.getElem?_eq_getElem (by rw [HL.out]; exact ham)⟩
      have HST : Hid (pickT L (B.take k) ++ [(x1, x2, x3)] = pickT L (B.take (k + 1))) := Lib.hid (by
        rw [← pickT_succ ha]; simp [List.getD_eq_getElem?_getD, hq])
      have ca := own_cellT lb.oo (castI_get ha)
      obtain ⟨d1, d2, d3⟩ := own_trip lb.oh hq
      have D0 : decide ((a : Int) < 0) = false := decide_eq_false (by omega)
      have D1 : decide ((m : Int) ≤ (a : Int)) = false := decide_eq_false (by omega)
      have D2 : decide ((k : Int) < (m : Int) - 1) = true := decide_eq_true (by omega)
      have amI : (a : Int) < m := by omega
      have kmI : (k : Int) < m := by omega
      clear lb ha hq LB4
      go_wp2_with (at_builtin; go_must (refine wpList_append_own_w _ (by rfl) (.tmp 59) (.tmp 67) 23 rfl w4.heap.size 34 i2 _ 3 24 Tryd.underlying23 hh hv0 hv1 hv2 rfl (by decide) (.slice A7 k c7) k (tripV (pickT L (B.take k))) rfl (own7.alloc (.cells #[.int .i64 x1, .int .i64 x2, .int .i64 x3] 34)) ⟨wr.heap.size, 0, none⟩ 1 1 (tripV [(x1, x2, x3)]) rfl rfl (news_trip (Newest.alloc_ rfl)) tripV_one (by unfold maxLen; omega) (by omega) (by simp; omega) ?_; intro v9 w9 hown9 hgr9 hv9; rw [← tripV_append, HST.out] at hown9; obtain ⟨g9, c9, rfl, -, -⟩ := own_form hown9 (by omega); have be9 : Below w4.heap.size w4 w9 := Below.grown (be.alloc hsz (.cells #[.int .i64 x1, .int .i64 x2, .int .i64 x3] 34)) hgr9 (by simp; omega) (fun q hq => own_ge own7 hq); clear hgr9 hv9))
      go_roundw
      case rel => exact ⟨k + 1, _, c9, by omega, by go_num, rfl, be9, hown9⟩
      case measure => simp [intOf] <;> omega
    · rename World => wA
      obtain rfl : k = m - 1 := by omega
      have D2 : decide (((m - 1 : Nat) : Int) < (m : Int) - 1) = false := decide_eq_false (by omega)
      obtain ⟨f, hf⟩ : ∃ f, m - 1 = f := ⟨_, rfl⟩
      have hfl := HFW.out (m - 1)
      have hpl : (pickT L (B.take (m - 1))).length = m - 1 := by rw [pickT_len, List.length_take, HBL.out]; omega
      rw [hf] at own7 hfl D2 hpl
      have hf5 : f ≤ 5 := by omega
      generalize pickT L (B.take f) = F at *
      have HFL := Lib.hid hfl
      have HPL := Lib.hid hpl
      have LBW := Lib.hid lb
      have OW7 := Lib.hid own7
      rw [hf]
      clear hf hk hlt lb own7 LB4 hfl hpl be hsz
      have tab0 : Tab (wA.alloc (.cells #[] 26)) wA.heap.size 26 3 (.slice (some ⟨wA.heap.size, 0, none⟩) 0 0) 0 [] (List.replicate 0 (List.replicate 4 0)) := ⟨own_made0 (Nat.le_refl _) _ _, rfl, fun j u r hu => by simp at hu, fun i j u u' _ hu => by simp at hu⟩
      go_wp2_with (fail)
      go_loopw [9, 10] (fun v i wk => ∃ (k g c : Nat) (vs : List Value), k ≤ 4 ∧ i = .int .i64 k ∧ v = .slice (some ⟨g, 0, none⟩) k c ∧ Tab wk wA.heap.size 26 3 (.slice (some ⟨g, 0, none⟩) k c) k vs (List.replicate k (List.replicate 4 0)) ∧ Below wA.heap.size wA wk) (fun _ i _ => 4 - (intOf i).toNat)
      case atStart => exact ⟨0, _, _, [], Nat.zero_le _, rfl, rfl, tab0, (Below.refl _ _).alloc (Nat.le_refl _) _⟩
      case round =>
        clear tab0
        obtain ⟨k, g1, c1, vs, hk, rfl, rfl, tab, hbel⟩ := hrel
        have hsz := hbel.size
        have TAB := Lib.hid tab
        have BEL := Lib.hid hbel
        clear tab hbel
        by_cases hlt : k < 4
        · go_wp2_with (first
            | (at_make; refine wpList_make_full _ rfl _ _ 26 rfl wr.heap.size 3 i0 _ 1 Tryd.underlying26 hi hz0 hz1 .i64 .i64 _ _ 4 rfl rfl (by go_num) (by go_num) (by rw [hz2]; omega) (by unfold maxLen; omega) (Nat.le_refl _) ?_; intro w5 hown5 hgr5; rw [madeI] at hown5; have b5 : Below wr.heap.size wr w5 := (Below.refl _ _).grown hgr5 (Nat.le_refl _) (by simp); have hs5 := b5.size; have T5 := Lib.hid (TAB.out.next b5); have O5 := Lib.hid hown5; have AP := Lib.hid (TAB.out.apartNew (Nat.le_refl _) (n := 4) (c := 4)); have B5 := Lib.hid (BEL.out.trans (b5.mono hsz)); clear hown5 hgr5 b5)
            | (at_builtin; go_must (refine wpList_append_own_w _ (by rfl) (.tmp 74) (.tmp 76) 37 rfl wA.heap.size 26 i1 _ 1 24 Tryd.underlying37 hj hy0 hy1 hy2 rfl (by decide) (.slice (some ⟨g1, 0, none⟩) k c1) k vs rfl (T5.out.alloc _).own ⟨w5.heap.size, 0, none⟩ 1 1 [.slice (some ⟨wr.heap.size, 0, none⟩) 4 4] rfl rfl (news_val (Newest.alloc_ rfl)) (by intro u hu; simp at hu; subst hu; rfl) (by unfold maxLen; omega) (by omega) (by simp; omega) ?_; intro v9 w9 hown9 hgr9 hv9; have tab9 := (T5.out.alloc (.cells #[.slice (some ⟨wr.heap.size, 0, none⟩) 4 4] 26)).grow tagTE (r := List.replicate 4 0) hgr9 hown9 (by rw [List.length_replicate]; exact own_lower (O5.out.alloc _) hsz) AP.out; rw [← List.replicate_succ'] at tab9; have b9 : Below wA.heap.size wA w9 := (B5.out.alloc (by omega) (.cells #[.slice (some ⟨wr.heap.size, 0, none⟩) 4 4] 26)).grown hgr9 (by rw [World.size_alloc]; omega) (fun q hq => own_ge T5.out.own hq); obtain ⟨g9, c9, rfl, -, -⟩ := own_form hown9 (by omega); clear hown9 hgr9 hv9)))
          go_roundw
          case rel => exact ⟨k + 1, g9, c9, _, by omega, by go_num, rfl, tab9, b9⟩
          case measure => simp [intOf] <;> omega
        · obtain rfl : k = 4 := by omega
          have lb := LBW.out.next BEL.out
          have own7 := Lib.hid (own_below OW7.out BEL.out)
          have TB : Hid (Tab wr wA.heap.size 26 3 (.slice (some ⟨g1, 0, none⟩) 4 c1) 4 vs zeroRows) := Lib.hid TAB.out
          have hle := HFL.out
          have hzl : zeroRows.length = 4 := rfl
          clear LBW OW7 TAB BEL hsz
          go_wp2_with (fail)
          refine (implLeastL_any _ _ _ F _ _ _ rows _ HPL.out (RdT.of_own own7.out) (by omega) HR.out lb.rt (by omega)).mono ?_
          rintro e w12 ⟨rfl, hb12⟩
          have lb12 := lb.next hb12
          have TB12 := Lib.hid (TB.out.next hb12)
          generalize leastLost F rows = y at *
          clear lb hb12 TB own7
          go_wp2_with (fail)
          refine (implLeastL_any _ _ _ L _ _ _ zeroRows _ HL.out (RdT.of_own lb12.oh) (by omega) hzl (RdR.of_tab TB12.out) (by omega)).mono ?_
          rintro e w13 ⟨rfl, hb13⟩
          rw [HZ.out]
          have lb13 := lb12.next hb13
          clear lb12 hb13
          go_wp2
          go_ret
          exact ⟨rfl, lb13.be⟩
end Go.Proofs.YtblbfgoifaddiaaDoor
