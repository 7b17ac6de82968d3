/- The program's table, walked. -/
import Derived.Test.YtcegmlogjbnoeaaDoorTable
import Derived.Test.YtcegmlogjbnoeaaDoorLenWalk
import Derived.Test.YtcegmlogjbnoeaaDoorSz
import Derived.RegionTactic
namespace Go.Proofs.YtcegmlogjbnoeaaDoor
open Go.RowKit
set_option linter.unusedVariables false
theorem tab_fill {ls : List Int} {j N : Nat} (hj : j ≤ N) (x : Int) : (table ls j ++ (x :: List.replicate (N - j) 0)).set j (bestOf ls (table ls j) j ls.length) = table ls (j + 1) ++ List.replicate (N - j) 0 := by
  rw [List.set_append_right _ _ (by rw [table_length]; exact Nat.le_refl _), table_length, Nat.sub_self, List.set_cons_zero, table]
  simp
theorem tab_set {ls T : List Int} {j : Nat} {x y : Int} {r : List Int} (hT : T.length = j) : (T ++ (x :: r)).set j y = T ++ (y :: r) := by
  rw [List.set_append_right _ _ (by omega), hT, Nat.sub_self, List.set_cons_zero]
set_option maxRecDepth 100000 in
set_option maxHeartbeats 4000000 in
theorem implTable_any (N : Nat) (A : Option Addr) (n c : Nat) (ls : List Int) (w : World) (hl : ls.length = n) (hr : RdI .i64 w w.heap.size A ls) (hN : N ≤ 60) (h2 : lengthsOk ls = true) :
    Calls Tryd.prog 73 #[.int .i64 N, .slice A n c] w (IntsRow 3 (table ls (N + 1)) w) := by
  obtain ⟨i0, hi, hz0, hz1, hz2⟩ := info_parts info_int
  have HL := Lib.hid hl
  have H2 := Lib.hid h2
  have HB : Hid (∀ (k : Nat) (l : Int), ls[k]? = some l → 1 ≤ l) := Lib.hid (fun k l h => (lengthsOk_get h2 h).1)
  have hn4 : n ≤ 4 := by have := (lengthsOk_len h2).2; omega
  clear hl h2
  go_enter Tryd.func73, Tryd.ntmps73
  go_wp2_with (at_make; refine wpList_make_full _ rfl _ _ 24 rfl w.heap.size 3 i0 _ 1 Tryd.underlying24 hi hz0 hz1 .i64 .i64 _ _ (N + 1) rfl rfl (by go_num) (by go_num) (by rw [hz2]; omega) (by unfold maxLen; omega) (Nat.le_refl _) ?_; intro w1 hown1 hgr1)
  rw [madeI] at hown1
  have t1 : Below w.heap.size w w1 := (Below.refl _ _).grown hgr1 (Nat.le_refl _) (by simp)
  clear hgr1
  generalize hg : w.heap.size = g at *
  have HG := Lib.hid hg
  clear hg
  go_loopw [14] (fun i wr => ∃ j : Nat, j ≤ N + 1 ∧ i = .int .i64 j ∧ wr.ownsRow g 3 1 (.slice (some ⟨g, 0, none⟩) (N + 1) (N + 1)) (N + 1) (intsV .i64 (table ls j ++ List.replicate (N + 1 - j) 0)) ∧ Below g w wr) (fun i _ => N + 1 - (intOf i).toNat)
  case atStart => exact ⟨0, Nat.zero_le _, rfl, by simpa [table] using hown1, t1⟩
  case round =>
    obtain ⟨j, hj, rfl, hown, hbel⟩ := hrel
    clear hown1 t1
    by_cases hlt : j < N + 1
    · have hdj : decide ((j : Int) < (N : Int) + 1) = true := by simp; omega
      have e1 : N + 1 - j = (N - j) + 1 := by omega
      have hown2 : wr.ownsRow g 3 1 (.slice (some ⟨g, 0, none⟩) (N + 1) (N + 1)) (N + 1) (intsV .i64 (table ls j ++ (0 :: List.replicate (N - j) 0))) := by rw [e1, List.replicate_succ] at hown; exact hown
      clear hown e1
      have f1 := hown2.frozenAt j
      obtain ⟨u1, g1⟩ : ∃ u, wr.cell? ⟨g, j, none⟩ = some u := ⟨_, (hown2.cellAt j (by omega)).trans (List.getElem?_eq_getElem (by have := hown2.1; omega))⟩
      have hown3 : (wr.setCell ⟨g, j, none⟩ (.int .i64 (j : Int))).ownsRow g 3 1 (.slice (some ⟨g, 0, none⟩) (N + 1) (N + 1)) (N + 1) (intsV .i64 (table ls j ++ ((j : Int) :: List.replicate (N - j) 0))) := by
        have := own_set1 (k := j) (x := (j : Int)) hown2
        rwa [tab_set (ls := ls) (table_length ls j)] at this
      have HO3 := Lib.hid hown3
      have t3 : Below g w (wr.setCell ⟨g, j, none⟩ (.int .i64 (j : Int))) := hbel.setCell (by simp) _
      have HT3 := Lib.hid t3
      clear hown2 hown3 t3
      go_wp2
      go_loopw [23] (fun i ww => ∃ k : Nat, k ≤ n ∧ i = .int .i64 k ∧ ww.ownsRow g 3 1 (.slice (some ⟨g, 0, none⟩) (N + 1) (N + 1)) (N + 1) (intsV .i64 (table ls j ++ (bestOf ls (table ls j) j k :: List.replicate (N - j) 0))) ∧ Below g w ww) (fun i _ => n - (intOf i).toNat)
      case atStart => exact ⟨0, Nat.zero_le _, rfl, HO3.out, HT3.out⟩
      case round =>
        obtain ⟨k, hk, rfl, hown, hbel2⟩ := hrel
        clear f1 g1
        obtain ⟨z0, z1⟩ := bestOf_bounds HB.out j k
        by_cases hltk : k < n
        · obtain ⟨l, hlk⟩ : ∃ q, ls[k]? = some q := ⟨_, List.getElem?_eq_getElem (by have := HL.out; omega)⟩
          obtain ⟨b, off, rfl, hbB, hc1⟩ := hr k l hlk
          obtain ⟨l0, l1⟩ := lengthsOk_get H2.out hlk
          rw [← hbel2.cell (by exact hbB)] at hc1
          have HLK := Lib.hid hlk
          clear hlk hr
          by_cases s1 : l ≤ (j : Int)
          · obtain ⟨L, rfl⟩ : ∃ L : Nat, l = (L : Int) := ⟨l.toNat, by omega⟩
            obtain ⟨v, hv⟩ : ∃ v, (table ls j)[j - L]? = some v := ⟨_, List.getElem?_eq_getElem (by rw [table_length]; omega)⟩
            have hd1 : wr.cell? ⟨g, j - L, none⟩ = some (.int .i64 v) := by
              rw [hown.cellAt (j - L) (by omega)]
              simp only [intsV, List.getElem?_map]
              rw [List.getElem?_append_left (by rw [table_length]; omega), hv]
              rfl
            have hd2 : wr.cell? ⟨g, j, none⟩ = some (.int .i64 (bestOf ls (table ls j) j k)) := by
              rw [hown.cellAt j (by omega)]
              simp only [intsV, List.getElem?_map]
              rw [List.getElem?_append_right (by rw [table_length]; exact Nat.le_refl _), table_length, Nat.sub_self]
              rfl
            have hf := hown.frozenAt j
            have HV := Lib.hid hv
            clear hv
            have HBT := Lib.hid (bestOf_take (T := table ls j) (n := j) HLK.out s1 (by simpa using HV.out))
            have HO := Lib.hid hown
            clear hown
            generalize hgb : bestOf ls (table ls j) j k = q at *
            have HGB := Lib.hid hgb
            clear hgb
            have hi1 : (0 : Int) ≤ (j : Int) - (L : Int) := by omega
            by_cases s2 : v < q
            · go_wp2
              go_region
              go_wp2
              go_roundw
              case rel =>
                refine ⟨k + 1, by omega, by go_num, ?_, (by repeat' (first | exact Below.refl _ _ | assumption | refine Below.alloc ?_ (by first | omega | (simp; done) | (simp; omega)) _ | refine Below.setCell ?_ (by first | omega | (simp; done) | (simp; omega)) _ | refine Below.drew ?_ | refine below_drawn ?_ _))⟩
                have := own_set1 (k := j) (x := v) HO.out
                rw [tab_set (ls := ls) (table_length ls j)] at this
                rw [HBT.out, show min q v = v by omega]
                exact own_drew this
              case measure => simp [intOf]; omega
            · go_wp2
              go_region
              go_wp2
              go_roundw
              case rel =>
                have R : (wr.setCell ⟨g, j, none⟩ (.int .i64 q)).drew.ownsRow g 3 1 (.slice (some ⟨g, 0, none⟩) (N + 1) (N + 1)) (N + 1) (intsV .i64 (table ls j ++ (bestOf ls (table ls j) j (k + 1) :: List.replicate (N - j) 0))) := by
                  have := own_set1 (k := j) (x := q) HO.out
                  rw [tab_set (ls := ls) (table_length ls j)] at this
                  rw [HBT.out, show min q v = q by omega]
                  exact own_drew this
                exact ⟨k + 1, by omega, by go_num, R, (by repeat' (first | exact Below.refl _ _ | assumption | refine Below.alloc ?_ (by first | omega | (simp; done) | (simp; omega)) _ | refine Below.setCell ?_ (by first | omega | (simp; done) | (simp; omega)) _ | refine Below.drew ?_ | refine below_drawn ?_ _))⟩
              case measure => simp [intOf]; omega
          · have HBS := Lib.hid (bestOf_skip (T := table ls j) HLK.out s1)
            have HO := Lib.hid hown
            clear hown
            go_wp2
            go_roundw
            case rel => exact ⟨k + 1, by omega, by go_num, by rw [HBS.out]; exact HO.out, hbel2⟩
            case measure => simp [intOf]; omega
        · have HKN : Hid (k = ls.length) := Lib.hid (by have := HL.out; omega)
          have HO := Lib.hid hown
          clear hown
          go_wp2
          go_roundw
          case rel =>
            refine ⟨j + 1, by omega, by go_num, ?_, hbel2⟩
            rw [table, ← HKN.out, show N + 1 - (j + 1) = N - j by omega, List.append_assoc]
            exact HO.out
          case measure => simp [intOf]; omega
    · have HO := Lib.hid hown
      clear hown
      go_wp2
      go_ret
      obtain rfl : j = N + 1 := by omega
      have h := HO.out
      rw [Nat.sub_self, List.replicate_zero, List.append_nil] at h
      have hG := HG.out
      subst hG
      exact IntsRow.mk (table_length _ _) (Nat.le_refl _) h hbel
end Go.Proofs.YtcegmlogjbnoeaaDoor
