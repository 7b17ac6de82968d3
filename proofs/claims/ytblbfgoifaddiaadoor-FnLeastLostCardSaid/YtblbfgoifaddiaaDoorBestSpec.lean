/- 'BestOrder' of the reference: the walk. -/
import Derived.Test.YtblbfgoifaddiaaDoorBestImpl
namespace Go.Proofs.YtblbfgoifaddiaaDoor
open Go.RowKit
set_option linter.unusedVariables false
set_option linter.unusedSimpArgs false
set_option maxRecDepth 100000 in
set_option maxHeartbeats 4000000 in
theorem specBest_any (A : Option Addr) (n c : Nat) (L : List (Int × Int × Int)) (A2 : Option Addr) (n2 c2 : Nat) (rows : List (List Int)) (w : World)
    (hl : L.length = n) (hr : RdT w w.heap.size A L) (hn : n ≤ 7) (hl2 : rows.length = n2) (hr2 : RdR w w.heap.size A2 rows) (hn2 : n2 ≤ 100) :
    Calls Tryd.prog 20 #[.slice A n c, .slice A2 n2 c2] w (IntsRow 3 (bestRow L rows) w) := by
  obtain ⟨i0, hi, hz0, hz1, hz2⟩ := info_parts info_int
  have HL := Lib.hid hl
  have HL2 := Lib.hid hl2
  clear hl hl2
  have tA : Below w.heap.size w (w.alloc (.cells #[] 3)) := (Below.refl _ _).alloc (Nat.le_refl _) _
  have oA := own_made0 (w := w) (base := w.heap.size) (Nat.le_refl _) 3 1
  have sA : (w.alloc (.cells #[] 3)).heap.size = w.heap.size + 1 := by simp
  have hrA := hr.up tA tA.size
  have hr2A := hr2.up tA tA.size
  cases h1 : heatsOk L
  · have HE : Hid (bestRow L rows = []) := Lib.hid (bestRow_1 h1)
    go_enter Tryd.func20, Tryd.ntmps20
    go_wp2_with (fail)
    refine (specHeats_any _ _ _ L _ HL.out hrA (by omega)).mono ?_
    rintro e w1 ⟨rfl, hb1⟩
    rw [h1]
    have oB := own_below oA hb1
    have tB := below_next tA hb1
    go_wp2
    go_ret
    rw [HE.out]
    exact IntsRow.mk rfl (Nat.le_refl _) oB tB
  have H1 := Lib.hid h1
  cases h2 : lostOk rows
  · have HE : Hid (bestRow L rows = []) := Lib.hid (bestRow_2 h2)
    go_enter Tryd.func20, Tryd.ntmps20
    go_wp2_with (fail)
    refine (specHeats_any _ _ _ L _ HL.out hrA (by omega)).mono ?_
    rintro e w1 ⟨rfl, hb1⟩
    rw [h1]
    have hr2' := hr2A.up hb1 hb1.size
    go_wp2_with (fail)
    refine (specLost_any _ _ _ rows _ HL2.out hr2' (by omega)).mono ?_
    rintro e w2 ⟨rfl, hb2⟩
    rw [h2]
    have oB := own_below (own_below oA hb1) hb2
    have tB := below_next (below_next tA hb1) hb2
    go_wp2
    go_ret
    rw [HE.out]
    exact IntsRow.mk rfl (Nat.le_refl _) oB tB
  have H2 := Lib.hid h2
  have HE : Hid (bestRow L rows = castI (bestO (costF L rows) n)) := Lib.hid (by rw [bestRow_3 h1 h2, HL.out])
  have n6 := (heatsOk_facts h1).1
  rw [HL.out] at n6
  have r4 := (lostOk_facts h2).1
  rw [HL2.out] at r4
  subst r4
  have HCB : Hid (∀ i j, i < n → j < n → 0 ≤ costF L rows i j ∧ costF L rows i j ≤ 99) := Lib.hid (fun i j a b => costF_bounds h1 h2 i j (by have := HL.out; omega) (by have := HL.out; omega))
  obtain ⟨N, hN⟩ : ∃ N, 2 ^ n = N := ⟨_, rfl⟩
  have hp : ((2 : Int) ^ n) = (N : Int) := by rw [pow2_nat, hN]
  have hN1 : N ≤ 64 ∧ 0 < N := by
    have := two_pow_le n6
    rw [hN] at this; exact this
  obtain ⟨hN2, hN1⟩ := hN1
  have HN := Lib.hid hN
  go_enter Tryd.func20, Tryd.ntmps20
  go_wp2_with (fail)
  refine (specHeats_any _ _ _ L _ HL.out hrA (by omega)).mono ?_
  rintro e w1 ⟨rfl, hb1⟩
  rw [h1]
  have hr2' := hr2A.up hb1 hb1.size
  go_wp2_with (fail)
  refine (specLost_any _ _ _ rows _ HL2.out hr2' (by omega)).mono ?_
  rintro e w2 ⟨rfl, hb2⟩
  rw [h2]
  have hb2' := below_next hb1 hb2
  clear hr2' hb1 hb2
  have hrB := hrA.up hb2' hb2'.size
  have hr2B := hr2A.up hb2' hb2'.size
  have oB := own_below oA hb2'
  have tB := below_next tA hb2'
  have sB := hb2'.size
  rw [sA] at sB
  clear h1 h2 hrA hr2A oA tA hb2' sA
  go_wp2_with (fail)
  refine (specBehind_any _ n _ L _ _ _ rows _ HL.out hrB HL2.out hr2B H1.out H2.out).mono ?_
  rintro e w3 ⟨A4, c4, T, rfl, hTl, hd, hrd, hb3⟩
  have hown4 := own_below oB hb3
  have bw4 := below_next tB hb3
  have sC := hb3.size
  rw [hN]
  have HD := Lib.hid hd
  have HRD := Lib.hid hrd
  clear hTl hd hrd hrB hr2B hb3 oB tB hN
  have inv0 : BoInv (costF L rows) n [] 0 none 0 := BoInv.start n6
  clear hp
  go_wp2_with (fail)
  generalize hbc : w3.heap.size = Bc at *
  have HBC := Lib.hid hbc
  clear hbc
  generalize w2.heap.size = G0 at *
  go_loopw [5, 8, 9] (fun u v t wr => ∃ (k S c7 : Nat) (A7 : Nat) (o : List Nat) (l : Option Nat) (li : Int), k ≤ n ∧ v = .int .i64 S ∧ u = .slice (some ⟨A7, 0, none⟩) k c7 ∧ t = .int .i64 li ∧ (l = none ∧ li = -1 ∨ ∃ q : Nat, l = some q ∧ li = q) ∧ BoInv (costF L rows) n o S l k ∧ wr.ownsRow w.heap.size 3 1 (.slice (some ⟨A7, 0, none⟩) k c7) k (intsV .i64 (castI o)) ∧ (A7 = w.heap.size ∨ Bc ≤ A7) ∧ (∀ q, G0 ≤ q → q < Bc → wr.heap[q]? = w3.heap[q]?) ∧ Bc ≤ wr.heap.size ∧ Below w.heap.size w wr) (fun u _ _ _ => n - (match u with | .slice _ k _ => k | _ => 0))
  case atStart => exact ⟨0, 0, 0, w.heap.size, [], none, -1, Nat.zero_le _, rfl, rfl, rfl, .inl ⟨rfl, rfl⟩, inv0, hown4, .inl rfl, (fun _ _ _ => rfl), by rw [HBC.out]; exact Nat.le_refl _, bw4⟩
  case round =>
    clear inv0 hown4 bw4
    obtain ⟨k, S, c7, A7, o, l, li, hk, rfl, rfl, rfl, hli, inv, own, hA7, fr, hszB, bw⟩ := hrel
    have hSN : S < N := by rw [← HN.out]; exact inv.lt
    have INV := Lib.hid inv
    have OWN := Lib.hid own
    have FR := Lib.hid fr
    have BW := Lib.hid bw
    have HLI := Lib.hid hli
    have HA7 := Lib.hid hA7
    have hlen := inv.len
    have hszw := bw.size
    clear inv own fr bw hli hA7
    by_cases hkn : k = n
    · have HF := Lib.hid (INV.out.fin hkn)
      subst hkn
      go_wp2
      go_ret
      rw [HE.out, ← HF.out]
      exact IntsRow.mk (by simp [castI]; exact hlen) (Nat.le_refl _) OWN.out BW.out
    · have hkl : k < n := by omega
      obtain ⟨b, hnx, hbn, hbf⟩ := INV.out.next hkl
      have HNX := Lib.hid hnx
      have HBF := Lib.hid hbf
      have HKN := Lib.hid hkn
      have HSZ := Lib.hid hlen
      clear hkn hnx hbf hlen
      go_wp2_with (fail)
      go_loopw [10, 11, 12] (fun u x v wr => ∃ (j : Nat) (ui xi : Int), j ≤ n ∧ v = .int .i64 j ∧ u = .int .i64 ui ∧ x = .int .i64 xi ∧ BestIs (costF L rows) n l S j ui xi ∧ wr.ownsRow w.heap.size 3 1 (.slice (some ⟨A7, 0, none⟩) k c7) k (intsV .i64 (castI o)) ∧ (∀ q, G0 ≤ q → q < Bc → wr.heap[q]? = w3.heap[q]?) ∧ Bc ≤ wr.heap.size ∧ Below w.heap.size w wr) (fun _ _ v _ => n - (intOf v).toNat)
      case atStart => exact ⟨0, -1, 0, Nat.zero_le _, rfl, rfl, rfl, BestIs.start, OWN.out, FR.out, hszB, BW.out⟩
      case round =>
        clear OWN FR BW hszB hszw
        obtain ⟨j, ui, xi, hj, rfl, rfl, rfl, hbi, own, fr, hszB, bw⟩ := hrel
        have HBI := Lib.hid hbi
        have OWN := Lib.hid own
        have FR := Lib.hid fr
        have BW := Lib.hid bw
        have hszw := bw.size
        by_cases hltj : j < n
        · cases hbj : S.testBit j
          · have hfj : freeB S j = true := by simp [freeB, hbj]
            have hK2 : ((2 : Int) ^ j) = ((2 ^ j : Nat) : Int) := pow2_nat j
            have d1 : (((S : Int) / 2 ^ j).tmod 2 == 1) = false := by rw [tmod_bit j (by omega), bit_zero hbj]; rfl
            obtain ⟨e1, e2, -, e4, e5⟩ := add_bit n6 (by rw [HN.out]; exact hSN) hltj hfj
            rw [HN.out] at e2
            obtain ⟨z0, z1⟩ := behind_small n6 HCB.out (S := S ||| 2 ^ j) (l := j) (by rw [HN.out]; exact e2) hltj
            obtain ⟨b4, f4, b5, f5, c5, rfl, p1, p2⟩ := beh_at HD.out (HRD.out wr FR.out) HN.out (S := S ||| 2 ^ j) (j := j) (by omega) e2 hltj (by rw [e4 j (by omega)]; simp)
            have hK64 : 2 ^ j < 64 := by omega
            have hSum : (S : Int) + ((2 ^ j : Nat) : Int) = ((S ||| 2 ^ j : Nat) : Int) := by rw [e1]; omega
            have HFJ := Lib.hid hfj
            rw [hK2] at d1
            rcases INV.out.lastIs with ⟨rfl, rfl⟩ | ⟨q, rfl, hk0, hoq, hqn⟩
            · obtain rfl : li = -1 := by
                rcases HLI.out with ⟨-, h⟩ | ⟨q, h, -⟩
                · exact h
                · cases h
              have HXQ : Hid (behind (costF L rows) n (S ||| 2 ^ j) j = stepX (costF L rows) n none S j) := Lib.hid (by simp [stepX, cst])
              clear hbi own fr bw hbj hfj e1 e4 e5 hr hr2
              generalize behind (costF L rows) n (S ||| 2 ^ j) j = bv at *
              generalize S ||| 2 ^ j = S2 at *
              generalize 2 ^ j = K2 at *
              by_cases hu : ui < 0
              · have HT := Lib.hid (HBI.out.take HFJ.out HXQ.out (.inl hu))
                go_wp2
                go_roundw
                case rel => exact ⟨j + 1, j, bv, by omega, by go_num, rfl, rfl, HT.out, OWN.out, FR.out, hszB, BW.out⟩
                case measure => simp [intOf] <;> omega
              · by_cases hx : bv < xi
                · have HT := Lib.hid (HBI.out.take HFJ.out HXQ.out (.inr hx))
                  go_wp2
                  go_roundw
                  case rel => exact ⟨j + 1, j, bv, by omega, by go_num, rfl, rfl, HT.out, OWN.out, FR.out, hszB, BW.out⟩
                  case measure => simp [intOf] <;> omega
                · have HT := Lib.hid (HBI.out.keep HFJ.out HXQ.out hu hx)
                  go_wp2
                  go_roundw
                  case rel => exact ⟨j + 1, ui, xi, by omega, by go_num, rfl, rfl, HT.out, OWN.out, FR.out, hszB, BW.out⟩
                  case measure => simp [intOf] <;> omega
            · obtain rfl : li = (q : Int) := by
                rcases HLI.out with ⟨h, -⟩ | ⟨q', h, h2⟩
                · cases h
                · injection h with h; subst h; exact h2
              obtain ⟨d2, f1, d3, f2, d4, f3, g3, ki, kj, rfl, rfl, q1, q2, q3, q4, q5, q6, q7, q8, q9, v0, v1⟩ := cost_at H1.out H2.out hr hr2 (i := q) (j := j) (by rw [HL.out]; omega) (by rw [HL.out]; omega)
              rw [← bw.cell (by assumption)] at q6 q7 q8 q9
              have HXQ : Hid (behind (costF L rows) n (S ||| 2 ^ j) j + costF L rows q j = stepX (costF L rows) n (some q) S j) := Lib.hid (by simp only [stepX, cst]; omega)
              have qn : (q : Int) < (n : Int) := by omega
              have q0 : (0 : Int) ≤ (q : Int) := by omega
              have ki4 : (ki : Int) < 4 := by omega
              have kj4 : (kj : Int) < 4 := by omega
              clear hbi own fr bw hbj hfj e1 e4 e5 hr hr2 hoq
              generalize costF L rows q j = cv at *
              generalize behind (costF L rows) n (S ||| 2 ^ j) j = bv at *
              generalize S ||| 2 ^ j = S2 at *
              generalize 2 ^ j = K2 at *
              by_cases hu : ui < 0
              · have HT := Lib.hid (HBI.out.take HFJ.out HXQ.out (.inl hu))
                go_wp2_with (fail)
                go_quiet (fail)
                go_wp2
                go_roundw
                case rel => exact ⟨j + 1, j, bv + cv, by omega, by go_num, rfl, rfl, HT.out, own_drewN OWN.out _, FR.out, hszB, below_drawn BW.out _⟩
                case measure => simp [intOf] <;> omega
              · by_cases hx : bv + cv < xi
                · have HT := Lib.hid (HBI.out.take HFJ.out HXQ.out (.inr hx))
                  go_wp2_with (fail)
                  go_quiet (fail)
                  go_wp2
                  go_roundw
                  case rel => exact ⟨j + 1, j, bv + cv, by omega, by go_num, rfl, rfl, HT.out, own_drewN OWN.out _, FR.out, hszB, below_drawn BW.out _⟩
                  case measure => simp [intOf] <;> omega
                · have HT := Lib.hid (HBI.out.keep HFJ.out HXQ.out hu hx)
                  go_wp2_with (fail)
                  go_quiet (fail)
                  go_wp2
                  go_roundw
                  case rel => exact ⟨j + 1, ui, xi, by omega, by go_num, rfl, rfl, HT.out, own_drewN OWN.out _, FR.out, hszB, below_drawn BW.out _⟩
                  case measure => simp [intOf] <;> omega
          · have d1 : (((S : Int) / 2 ^ j).tmod 2 == 1) = true := by rw [tmod_bit j (by omega), bit_one hbj]; rfl
            have HT := Lib.hid (HBI.out.skip (by simp [freeB, hbj]))
            clear hbj hbi own fr bw
            go_wp2_with (fail)
            go_roundw
            case rel => exact ⟨j + 1, ui, xi, by omega, by go_num, rfl, rfl, HT.out, OWN.out, FR.out, hszB, BW.out⟩
            case measure => simp [intOf] <;> omega
        · obtain rfl : j = n := by omega
          obtain rfl : ui = (b : Int) := HBI.out.fin HNX.out
          have hK2 : ((2 : Int) ^ b) = ((2 ^ b : Nat) : Int) := pow2_nat b
          obtain ⟨e1, e2, -, e4, e5⟩ := add_bit n6 (by rw [HN.out]; exact hSN) hbn HBF.out
          rw [HN.out] at e2
          have hK64 : 2 ^ b < 64 := by omega
          have hSum : (S : Int) + ((2 ^ b : Nat) : Int) = ((S ||| 2 ^ b : Nat) : Int) := by rw [e1]; omega
          have HST := Lib.hid (INV.out.step n6 hkl HNX.out)
          have hgt : S < S ||| 2 ^ b := by omega
          have CA : Hid (castI o ++ [(b : Int)] = castI (o ++ [b])) := Lib.hid (by simp [castI])
          clear hbi own fr bw e1 e4 hr hr2
          generalize S ||| 2 ^ b = S2 at *
          generalize 2 ^ b = K2 at *
          go_wp2_with (at_builtin; go_must (refine wpList_append_own_at _ rfl (.tmp 81) (.tmp 83) 26 rfl w.heap.size 3 i0 _ 1 8 Tryd.underlying26 hi hz0 hz1 hz2 rfl (by decide) (.slice (some ⟨A7, 0, none⟩) k c7) k (intsV .i64 (castI o)) rfl (OWN.out.alloc _) ⟨wr.heap.size, 0, none⟩ 1 1 (intsV .i64 [(b : Int)]) rfl rfl (cells_one1 (Newest.alloc_ rfl)) intsV_one (by unfold maxLen; omega) (by omega) (by simp; omega) ?_; intro v9 w9 hown9 hgr9 hv9 hat9; rw [← intsV_append, CA.out] at hown9; have hs9 := hgr9.size; rw [World.size_alloc] at hs9; have fr9 : ∀ q, G0 ≤ q → q < Bc → w9.heap[q]? = w3.heap[q]? := (fun q h1 h2 => (hgr9.block q (by rw [World.size_alloc]; omega) (fun e => by (have e' : q = A7 := Option.some.inj e; have := HA7.out; omega))).trans ((Below.heap_alloc _ _ _ (by omega)).trans (FR.out q h1 h2))); have bw9 : Below w.heap.size w w9 := (BW.out.alloc (by omega) (.cells #[.int .i64 (b : Int)] 3)).grown hgr9 (by rw [World.size_alloc]; omega) (fun q hq => own_ge OWN.out hq); obtain ⟨g9, c9, rfl, -, -⟩ := own_form hown9 (by omega); have ha9 : g9 = w.heap.size ∨ Bc ≤ g9 := Or.elim hat9 (fun h => by (have h' : g9 = A7 := Option.some.inj h; have := HA7.out; omega)) (fun h => by (have h' : g9 = (wr.alloc (.cells #[.int .i64 (b : Int)] 3)).heap.size := Option.some.inj h; rw [World.size_alloc] at h'; omega)); clear hgr9 hv9 hat9))
          go_roundw
          case rel => exact ⟨k + 1, S2, c9, g9, _, _, b, by omega, rfl, rfl, rfl, .inr ⟨b, rfl, rfl⟩, HST.out, hown9, ha9, fr9, by omega, bw9⟩
          case measure => simp [intOf] <;> omega
end Go.Proofs.YtblbfgoifaddiaaDoor
