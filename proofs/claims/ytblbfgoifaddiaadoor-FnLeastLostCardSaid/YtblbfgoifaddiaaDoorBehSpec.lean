/- The reference's table of what is lost at least behind a set: the walk. -/
import Derived.Test.YtblbfgoifaddiaaDoorBehImpl
namespace Go.Proofs.YtblbfgoifaddiaaDoor
open Go.RowKit
set_option linter.unusedVariables false
set_option linter.unusedSimpArgs false
theorem done_zeros {c : Nat → Nat → Int} {n N : Nat} (hn : n ≤ 6) (hN : 2 ^ n = N) : Done c n (List.replicate N (List.replicate n 0)) ((N : Int) - 2) := fun S h1 h0 h2 => by
  have e : S = 2 ^ n - 1 := by omega
  refine ⟨List.replicate n 0, List.getElem?_replicate_of_lt (by omega), by simp, fun l hl _ => ?_⟩
  rw [e, behind_full hn, zeros_get hl]
theorem all_set {T : List (List Int)} {n S k : Nat} {r : List Int} {x : Int} (h : ∀ (j : Nat) (r : List Int), T[j]? = some r → r.length = n) (hr : r.length = n) : ∀ (j : Nat) (r' : List Int), (T.set S (r.set k x))[j]? = some r' → r'.length = n := fun j r' hj => by
  rw [List.getElem?_set] at hj
  split at hj
  · split at hj
    · injection hj with hj; subst hj; rw [List.length_set]; exact hr
    · cases hj
  · exact h j r' hj
set_option maxRecDepth 100000 in
set_option maxHeartbeats 4000000 in
theorem specBehind_any (A : Option Addr) (n c : Nat) (L : List (Int × Int × Int)) (A2 : Option Addr) (n2 c2 : Nat) (rows : List (List Int)) (w : World)
    (hl : L.length = n) (hr : RdT w w.heap.size A L) (hl2 : rows.length = n2) (hr2 : RdR w w.heap.size A2 rows) (h1 : heatsOk L = true) (h2 : lostOk rows = true) :
    Calls Tryd.prog 45 #[.slice A n c, .slice A2 n2 c2] w (BehTab (costF L rows) n w) := by
  obtain ⟨i0, hi, hz0, hz1, hz2⟩ := info_parts info_int
  obtain ⟨i1, hj, hy0, hy1, hy2⟩ := info_parts info_Row
  have HL := Lib.hid hl
  have H1 := Lib.hid h1
  have H2 := Lib.hid h2
  have n6 := (heatsOk_facts h1).1
  rw [hl] at n6
  have r4 := (lostOk_facts h2).1
  rw [hl2] at r4
  subst r4
  have hcb : ∀ i j, i < n → j < n → 0 ≤ costF L rows i j ∧ costF L rows i j ≤ 99 := fun i j a b => costF_bounds h1 h2 i j (by omega) (by omega)
  have HCB := Lib.hid hcb
  clear hl hl2 h1 h2 hcb
  obtain ⟨N, hN⟩ : ∃ N, 2 ^ n = N := ⟨_, rfl⟩
  have hp : ((2 : Int) ^ n) = (N : Int) := by rw [pow2_nat, hN]
  have hN1 : N ≤ 64 ∧ 0 < N := by
    have := two_pow_le n6
    rw [hN] at this; exact this
  obtain ⟨hN2, hN1⟩ := hN1
  have HN := Lib.hid hN
  clear hN
  have tab0 : Tab (w.alloc (.cells #[] 26)) w.heap.size 26 3 (.slice (some ⟨w.heap.size, 0, none⟩) 0 0) 0 [] (List.replicate 0 (List.replicate n 0)) :=
    ⟨own_made0 (Nat.le_refl _) _ _, rfl, fun j u r hu => by simp at hu, fun i j u u' _ hu => by simp at hu⟩
  have b0 : Below w.heap.size w (w.alloc (.cells #[] 26)) := (Below.refl _ _).alloc (Nat.le_refl _) _
  go_enter Tryd.func45, Tryd.ntmps45
  go_wp2_with (fail)
  go_loopw [6, 7] (fun v i wr => ∃ (k g1 c1 : Nat) (vs : List Value), k ≤ N ∧ i = .int .i64 k ∧ v = .slice (some ⟨g1, 0, none⟩) k c1 ∧ Tab wr w.heap.size 26 3 (.slice (some ⟨g1, 0, none⟩) k c1) k vs (List.replicate k (List.replicate n 0)) ∧ Below w.heap.size w wr) (fun _ i _ => N - (intOf i).toNat)
  case atStart => exact ⟨0, _, _, [], Nat.zero_le _, rfl, rfl, tab0, b0⟩
  case round =>
    clear tab0 b0
    obtain ⟨k, g1, c1, vs, hk, rfl, rfl, tab, hbel⟩ := hrel
    have hsz := hbel.size
    have TAB := Lib.hid tab
    have BEL := Lib.hid hbel
    clear tab hbel
    by_cases hlt : k < N
    · go_wp2_with (first
        | (at_make; refine wpList_make_full _ rfl _ _ 26 rfl wr.heap.size 3 i0 _ 1 Tryd.underlying26 hi hz0 hz1 .i64 .i64 _ _ n rfl rfl (by go_num) (by go_num) (by rw [hz2]; omega) (by unfold maxLen; omega) (Nat.le_refl _) ?_; intro w4 hown4 hgr4; rw [madeI] at hown4; have b4 : Below wr.heap.size wr w4 := (Below.refl _ _).grown hgr4 (Nat.le_refl _) (by simp); have hs4 := b4.size; have T4 := Lib.hid (TAB.out.next b4); have O4 := Lib.hid hown4; have AP := Lib.hid (TAB.out.apartNew (Nat.le_refl _) (n := n) (c := n)); have B4 := Lib.hid (BEL.out.trans (b4.mono hsz)); clear hown4 hgr4 b4)
        | (at_builtin; go_must (refine wpList_append_own_w _ (by rfl) (.tmp 22) (.tmp 25) 37 rfl w.heap.size 26 i1 _ 1 24 Tryd.underlying37 hj hy0 hy1 hy2 rfl (by decide) (.slice (some ⟨g1, 0, none⟩) k c1) k vs rfl (T4.out.alloc _).own ⟨w4.heap.size, 0, none⟩ 1 1 [.slice (some ⟨wr.heap.size, 0, none⟩) n n] rfl rfl (news_val (Newest.alloc_ rfl)) (by intro u hu; simp at hu; subst hu; rfl) (by unfold maxLen; omega) (by omega) (by simp; omega) ?_; intro v9 w9 hown9 hgr9 hv9; have tab9 := (T4.out.alloc (.cells #[.slice (some ⟨wr.heap.size, 0, none⟩) n n] 26)).grow tagTE (r := List.replicate n 0) hgr9 hown9 (by rw [List.length_replicate]; exact own_lower (O4.out.alloc _) hsz) AP.out; rw [← List.replicate_succ'] at tab9; have b9 : Below w.heap.size w w9 := (B4.out.alloc (by omega) (.cells #[.slice (some ⟨wr.heap.size, 0, none⟩) n n] 26)).grown hgr9 (by rw [World.size_alloc]; omega) (fun q hq => own_ge T4.out.own hq); obtain ⟨g9, c9, rfl, -, -⟩ := own_form hown9 (by omega); clear hown9 hgr9 hv9)))
      go_roundw
      case rel => exact ⟨k + 1, g9, c9, _, by omega, by go_num, rfl, tab9, b9⟩
      case measure => simp [intOf] <;> omega
    · obtain rfl : k = N := by omega
      have hd0 : Done (costF L rows) n (List.replicate k (List.replicate n 0)) ((k : Int) - 2) := done_zeros n6 HN.out
      have hal0 : ∀ (j : Nat) (r : List Int), (List.replicate k (List.replicate n (0 : Int)))[j]? = some r → r.length = n := fun j r h => by
        obtain ⟨_, e⟩ := List.getElem?_eq_some_iff.1 h
        simp at e
        subst e; simp
      have hg1 := TAB.out.own.lt g1 rfl
      clear hlt
      go_wp2_with (fail)
      have TA0 := Lib.hid TAB.out
      have hgg := Nat.le_refl w.heap.size
      generalize List.replicate k (List.replicate n (0 : Int)) = T0 at *
      clear TAB
      have B0 := Lib.hid BEL.out
      clear BEL
      generalize hg : w.heap.size = g at *
      have HG := Lib.hid hg
      clear hg hgg
      go_loopw [8] (fun v wr => ∃ (s : Int) (T : List (List Int)), v = .int .i64 s ∧ -1 ≤ s ∧ s < k - 1 ∧ Tab wr g 26 3 (.slice (some ⟨g1, 0, none⟩) k c1) k vs T ∧ Done (costF L rows) n T s ∧ (∀ (j : Nat) (r : List Int), T[j]? = some r → r.length = n) ∧ Below g w wr) (fun v _ => (intOf v).toNat)
      case atStart => exact ⟨_, _, rfl, by omega, by omega, TA0.out, hd0, hal0, B0.out⟩
      case round =>
        clear TA0 hd0 hal0 B0 hg1 hsz
        obtain ⟨s, T, rfl, hs0, hsN, tab, hd, hal, hbel⟩ := hrel
        by_cases hlt : 0 < s
        · obtain ⟨S, rfl⟩ := Int.eq_ofNat_of_zero_le (Int.le_of_lt hlt)
          have hSN : S < k := by omega
          have HSN : Hid (S < 2 ^ n) := Lib.hid (by rw [HN.out]; exact hSN)
          obtain ⟨r, hTS⟩ : ∃ r, T[S]? = some r := ⟨_, List.getElem?_eq_getElem (by rw [tab.len]; exact hSN)⟩
          have hTl := tab.len
          have TAB := Lib.hid tab
          have HD := Lib.hid hd
          have BEL := Lib.hid hbel
          have HAL := Lib.hid hal
          have HTS := Lib.hid hTS
          clear tab hd hbel hal hTS
          by_cases hSa : S = 2 ^ n - 1
          · exact absurd hSa (by rw [HN.out]; omega)
          · have HSA := Lib.hid hSa
            clear hSa
            go_wp2_with (fail)
            have D4 : decide (0 < S) = true := by simp; omega
            simp only [D4]
            go_loopw [9] (fun v wr => ∃ (q : Nat) (T2 : List (List Int)) (r : List Int), q ≤ n ∧ v = .int .i64 q ∧ Tab wr g 26 3 (.slice (some ⟨g1, 0, none⟩) k c1) k vs T2 ∧ Done (costF L rows) n T2 S ∧ (∀ (j : Nat) (r : List Int), T2[j]? = some r → r.length = n) ∧ T2[S]? = some r ∧ (∀ l, l < q → r[l]? = some (behind (costF L rows) n S l)) ∧ Below g w wr) (fun v _ => n - (intOf v).toNat)
            case atStart => exact ⟨0, T, r, Nat.zero_le _, rfl, TAB.out, HD.out, HAL.out, HTS.out, (fun l hl => absurd hl (Nat.not_lt_zero _)), BEL.out⟩
            case round =>
              clear TAB HD HAL HTS BEL hTl
              obtain ⟨q, T2, r, hq, rfl, tab2, hd2, hal2, hTS, hv, hbel⟩ := hrel
              have TAB2 := Lib.hid tab2
              have HD2 := Lib.hid hd2
              have HTS := Lib.hid hTS
              have HV := Lib.hid hv
              have HAL2 := Lib.hid hal2
              have hrl := hal2 S r hTS
              have HRL := Lib.hid hrl
              have BEL2 := Lib.hid hbel
              clear tab2 hd2 hTS hv hrl hal2 hbel
              by_cases hltk : q < n
              · go_wp2_with (fail)
                go_loopw [10, 11] (fun f v wr => ∃ (j : Nat) (m : Int), j ≤ n ∧ v = .int .i64 j ∧ f = .int .i64 m ∧ (match mnTo (freeB S) (fun j => costF L rows q j + behind (costF L rows) n (S ||| 2 ^ j) j) j with | none => m = -1 | some b => m = b ∧ 0 ≤ b) ∧ Tab wr g 26 3 (.slice (some ⟨g1, 0, none⟩) k c1) k vs T2 ∧ Below g w wr) (fun _ v _ => n - (intOf v).toNat)
                case atStart => exact ⟨0, -1, Nat.zero_le _, rfl, rfl, rfl, TAB2.out, BEL2.out⟩
                case round =>
                  clear TAB2 BEL2
                  obtain ⟨j, m, hj, rfl, rfl, hm, tab3, hbel⟩ := hrel
                  have TAB3 := Lib.hid tab3
                  have BEL3 := Lib.hid hbel
                  by_cases hltj : j < n
                  · cases hbj : S.testBit j
                    · have hfj : freeB S j = true := by simp [freeB, hbj]
                      have hK2 : ((2 : Int) ^ j) = ((2 ^ j : Nat) : Int) := pow2_nat j
                      have d1 : (((S : Int) / 2 ^ j).tmod 2 == 0) = true := by rw [tmod_bit j (by omega), bit_zero hbj]; rfl
                      obtain ⟨e1, e2, e5, r2, hr2S, hr2l, hr2j⟩ := HD2.out.at_ n6 rfl HSN.out hltj hfj
                      obtain ⟨gs2, cs2, -, p1, p2, -, -, -, -⟩ := tab3.at_ hr2S hr2l hr2j
                      obtain ⟨z0, z1⟩ := behind_small n6 HCB.out (S := S ||| 2 ^ j) (l := j) e2 hltj
                      obtain ⟨d2, f1, d3, f2, d4, f3, g3, ki, kj, rfl, rfl, q1, q2, q3, q4, q5, q6, q7, q8, q9, v0, v1⟩ := cost_at H1.out H2.out hr hr2 (i := q) (j := j) (by rw [HL.out]; omega) (by rw [HL.out]; omega)
                      rw [← hbel.cell (by assumption)] at q6 q7 q8 q9
                      rw [HN.out] at e2
                      have hK64 : 2 ^ j < 64 := by omega
                      have hSum : (S : Int) + ((2 ^ j : Nat) : Int) = ((S ||| 2 ^ j : Nat) : Int) := by rw [e1]; omega
                      have HFJ := Lib.hid hfj
                      have HXQ : Hid ((fun j => costF L rows q j + behind (costF L rows) n (S ||| 2 ^ j) j) j = costF L rows q j + behind (costF L rows) n (S ||| 2 ^ j) j) := Lib.hid rfl
                      have iK : (0 : Int) ≤ (ki : Int) := by omega
                      have jK : (0 : Int) ≤ (kj : Int) := by omega
                      have ki4 : (ki : Int) < 4 := by omega
                      have kj4 : (kj : Int) < 4 := by omega
                      rw [hK2] at d1
                      clear tab3 hfj hbj hr2S hr2l hr2j hr hr2 e1 e5 hbel
                      generalize hx : (fun j => costF L rows q j + behind (costF L rows) n (S ||| 2 ^ j) j) = X at *
                      have HX := Lib.hid hx
                      clear hx
                      generalize costF L rows q j = cv at *
                      generalize behind (costF L rows) n (S ||| 2 ^ j) j = bv at *
                      generalize S ||| 2 ^ j = S2 at *
                      generalize 2 ^ j = K2 at *
                      cases hmn : mnTo (freeB S) X j with
                      | none =>
                        rw [hmn] at hm
                        obtain rfl : m = -1 := hm
                        have HN2 : Hid (mnTo (freeB S) X (j + 1) = some (cv + bv)) := Lib.hid (by rw [mn_first HFJ.out hmn, HXQ.out])
                        clear hmn
                        go_wp2_with (fail)
                        go_quiet (fail)
                        go_wp2
                        go_roundw
                        case rel => exact ⟨j + 1, cv + bv, by omega, by go_num, rfl, by rw [HN2.out]; exact ⟨rfl, by omega⟩, TAB3.out.drewN _, below_drawn BEL3.out _⟩
                        case measure => simp [intOf] <;> omega
                      | some b =>
                        rw [hmn] at hm
                        obtain ⟨rfl, hb0⟩ := hm
                        by_cases hxb : cv + bv < m
                        · have HN2 : Hid (mnTo (freeB S) X (j + 1) = some (cv + bv)) := Lib.hid (by rw [mn_take HFJ.out hmn (by rw [HXQ.out]; exact hxb), HXQ.out])
                          clear hmn
                          go_wp2_with (fail)
                          go_quiet (fail)
                          go_wp2
                          go_roundw
                          case rel => exact ⟨j + 1, cv + bv, by omega, by go_num, rfl, by rw [HN2.out]; exact ⟨rfl, by omega⟩, TAB3.out.drewN _, below_drawn BEL3.out _⟩
                          case measure => simp [intOf] <;> omega
                        · have HN2 : Hid (mnTo (freeB S) X (j + 1) = some m) := Lib.hid (by rw [mn_keep HFJ.out hmn (by rw [HXQ.out]; exact hxb)])
                          clear hmn
                          go_wp2_with (fail)
                          go_quiet (fail)
                          go_wp2
                          go_roundw
                          case rel => exact ⟨j + 1, m, by omega, by go_num, rfl, by rw [HN2.out]; exact ⟨rfl, by omega⟩, TAB3.out.drewN _, below_drawn BEL3.out _⟩
                          case measure => simp [intOf] <;> omega
                    · have d1 : (((S : Int) / 2 ^ j).tmod 2 == 0) = false := by rw [tmod_bit j (by omega), bit_one hbj]; rfl
                      have HFJ : Hid (freeB S j = false) := Lib.hid (by simp [freeB, hbj])
                      have HM := Lib.hid hm
                      clear hbj tab3 hbel hm
                      go_wp2_with (fail)
                      go_roundw
                      case rel => exact ⟨j + 1, m, by omega, by go_num, rfl, by rw [mn_skip HFJ.out]; exact HM.out, TAB3.out, BEL3.out⟩
                      case measure => simp [intOf] <;> omega
                  · obtain rfl : j = n := by omega
                    obtain ⟨b, hb1, hb2⟩ := mn_full (c := costF L rows) n6 (k := q) HSN.out HSA.out
                    rw [hb1] at hm
                    obtain ⟨rfl, hb0⟩ := hm
                    obtain ⟨y, hy⟩ : ∃ y, r[q]? = some y := ⟨_, List.getElem?_eq_getElem (by rw [HRL.out]; exact hltk)⟩
                    obtain ⟨gs, cs, hvsS, p3, p4, p5, p7, p6, -⟩ := tab3.at_ HTS.out HRL.out hy
                    have GS := Lib.hid p7
                    have HVS := Lib.hid hvsS
                    have HB2 := Lib.hid hb2
                    have HY := Lib.hid hy
                    clear hb1 hb2 hy hvsS tab3 hbel
                    go_wp2_with (fail)
                    go_roundw
                    case rel => exact ⟨q + 1, T2.set S (r.set q m), r.set q m, by omega, by go_num, TAB3.out.put tagTE HVS.out HTS.out q m, HD2.out.set (Int.le_refl _) _, all_set HAL2.out HRL.out, List.getElem?_set_self (List.getElem?_eq_some_iff.1 HTS.out).1, (fun l hl => by
                      by_cases e : l = q
                      · subst e; rw [List.getElem?_set_self (List.getElem?_eq_some_iff.1 HY.out).1, HB2.out]
                      · rw [List.getElem?_set_ne (by omega)]; exact HV.out l (by omega)), BEL3.out.setCell (p := ⟨gs, q, none⟩) (by simpa using GS.out) _⟩
                    case measure => simp [intOf] <;> omega
              · obtain rfl : q = n := by omega
                go_wp2
                go_roundw
                case rel => exact ⟨(S : Int) - 1, T2, rfl, by omega, by omega, TAB2.out, HD2.out.next HTS.out HRL.out (fun l hl _ => HV.out l hl), HAL2.out, BEL2.out⟩
                case measure => simp [intOf] <;> omega
        · have HDF : Hid (Done (costF L rows) n T 0) := Lib.hid (fun S h1 h0 h2 => hd S (by omega) h0 h2)
          have TAB := Lib.hid tab
          clear tab hd
          go_wp2
          go_ret
          exact ⟨some ⟨g1, 0, none⟩, c1, T, congrArg (fun q => Ending.returned (.slice (some ⟨g1, 0, none⟩) q c1)) HN.out.symm, by rw [TAB.out.len, HN.out], HDF.out, (fun w2 hf => TAB.out.far (by rw [← HG.out]; exact hf)), by rw [HG.out]; exact hbel⟩
end Go.Proofs.YtblbfgoifaddiaaDoor
