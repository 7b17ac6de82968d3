/- The reference's table, walked. -/
import Derived.Test.YtcegmlogjbnoeaaDoorTable
import Derived.Test.YtcegmlogjbnoeaaDoorLenWalk
import Derived.Test.YtcegmlogjbnoeaaDoorAppend
import Derived.Test.YtcegmlogjbnoeaaDoorSz
import Derived.Outline
namespace Go.Proofs.YtcegmlogjbnoeaaDoor
open Go.RowKit
set_option linter.unusedVariables false
set_option maxRecDepth 100000 in
set_option maxHeartbeats 4000000 in
theorem specTable_any (N : Nat) (A : Option Addr) (n c : Nat) (ls : List Int) (w : World) (hl : ls.length = n) (hr : RdI .i64 w w.heap.size A ls) (hN : N ≤ 60) (h2 : lengthsOk ls = true) :
    Calls Tryd.prog 79 #[.int .i64 N, .slice A n c] w (IntsRow 3 (table ls (N + 1)) w) := by
  obtain ⟨i0, hi, hz0, hz1, hz2⟩ := info_parts info_int
  have HL := Lib.hid hl
  have H2 := Lib.hid h2
  have HB : Hid (∀ (k : Nat) (l : Int), ls[k]? = some l → 1 ≤ l) := Lib.hid (fun k l h => (lengthsOk_get h2 h).1)
  have hn4 : n ≤ 4 := by have := (lengthsOk_len h2).2; omega
  clear hl h2
  have hown0 := World.ownsRow_made (e := 3) (size := 1) (base := w.heap.size) w #[] 0 (Nat.le_refl _) (Nat.zero_le _) rfl
  have HO := Lib.hid hown0
  clear hown0
  go_enter Tryd.func79, Tryd.ntmps79
  go_wp2
  go_loopw [5, 6] (fun v i wr => ∃ (j : Nat) (A' : Option Addr) (c' : Nat), j ≤ N + 1 ∧ i = .int .i64 j ∧ v = .slice A' j c' ∧ wr.ownsRow w.heap.size 3 1 (.slice A' j c') j (intsV .i64 (table ls j)) ∧ Below w.heap.size w wr) (fun _ i _ => N + 1 - (intOf i).toNat)
  case atStart => exact ⟨0, _, _, Nat.zero_le _, rfl, rfl, HO.out, (by repeat' (first | exact Below.refl _ _ | assumption | refine Below.alloc ?_ (by first | omega | (simp; done) | (simp; omega)) _ | refine Below.setCell ?_ (by first | omega | (simp; done) | (simp; omega)) _ | refine Below.drew ?_ | refine below_drawn ?_ _))⟩
  case round =>
    obtain ⟨j, A', c', hj, rfl, rfl, hown, hbel⟩ := hrel
    have hsz := hbel.size
    by_cases hlt : j ≤ N
    · have hrd := RdI.of_own hown
      have HT := Lib.hid hrd
      clear hrd
      go_wp2
      obtain ⟨wo, rfl⟩ : ∃ wo : World, wo = wr := ⟨_, rfl⟩
      go_loop [7, 8] (fun b i => ∃ k : Nat, k ≤ n ∧ i = .int .i64 k ∧ b = .int .i64 (bestOf ls (table ls j) j k)) (fun _ i => n - (intOf i).toNat)
      case atStart => exact ⟨0, Nat.zero_le _, rfl, rfl⟩
      case round =>
        obtain ⟨k, hk, rfl, rfl⟩ := hrel
        obtain ⟨z0, z1⟩ := bestOf_bounds HB.out j k
        by_cases hltk : k < n
        · obtain ⟨l, hlk⟩ : ∃ q, ls[k]? = some q := ⟨_, List.getElem?_eq_getElem (by have := HL.out; omega)⟩
          obtain ⟨b, off, rfl, hbB, hc1⟩ := hr k l hlk
          obtain ⟨l0, l1⟩ := lengthsOk_get H2.out hlk
          rw [← hbel.cell (by exact hbB)] at hc1
          have HLK := Lib.hid hlk
          clear hlk hr
          by_cases s1 : l ≤ (j : Int)
          · obtain ⟨L, rfl⟩ : ∃ L : Nat, l = (L : Int) := ⟨l.toNat, by omega⟩
            obtain ⟨v, hv⟩ : ∃ v, (table ls j)[j - L]? = some v := ⟨_, List.getElem?_eq_getElem (by rw [table_length]; omega)⟩
            obtain ⟨b2, off2, rfl, hbB2, hd1⟩ := HT.out (j - L) v hv
            have HV := Lib.hid hv
            clear hv
            have HBT := Lib.hid (bestOf_take (T := table ls j) (n := j) HLK.out s1 (by simpa using HV.out))
            generalize hgb : bestOf ls (table ls j) j k = q at *
            have HGB := Lib.hid hgb
            clear hgb
            by_cases s2 : v < q
            · go_wp2
              go_round
              case rel => exact ⟨k + 1, by omega, by go_num, by rw [HBT.out]; congr 1; omega⟩
              case measure => simp [intOf]; omega
            · go_wp2
              go_round
              case rel => exact ⟨k + 1, by omega, by go_num, by rw [HBT.out]; congr 1; omega⟩
              case measure => simp [intOf]; omega
          · have HBS := Lib.hid (bestOf_skip (T := table ls j) HLK.out s1)
            go_wp2
            go_round
            case rel => exact ⟨k + 1, by omega, by go_num, by rw [HBS.out]⟩
            case measure => simp [intOf]; omega
        · have HKN : Hid (k = ls.length) := Lib.hid (by have := HL.out; omega)
          go_wp2_with (at_builtin; go_must (refine wpList_append_int _ rfl (.tmp 39) (.tmp 41) 24 rfl w.heap.size 3 i0 Tryd.underlying24 hi hz0 hz1 hz2 (.slice A' j c') j (table ls j) rfl (hown.alloc _) wo.heap.size (Newest.alloc_ rfl) rfl (by omega) (by simp; omega) ?_); intro A1 cc1 w1 hown1 hgr1)
          go_roundw
          case rel =>
            refine ⟨j + 1, A1, cc1, by omega, by go_num, rfl, ?_, ?_⟩
            · rw [table, ← HKN.out]; exact hown1
            · exact below_append (by repeat' (first | exact Below.refl _ _ | assumption | refine Below.alloc ?_ (by first | omega | (simp; done) | (simp; omega)) _ | refine Below.setCell ?_ (by first | omega | (simp; done) | (simp; omega)) _ | refine Below.drew ?_ | refine below_drawn ?_ _)) hgr1 (hown.alloc _) (by simp; omega) (Nat.le_refl _)
          case measure => simp [intOf]; omega
    · go_wp2
      go_ret
      have : j = N + 1 := by omega
      subst this
      exact IntsRow.mk (table_length _ _) (Nat.le_refl _) hown hbel
end Go.Proofs.YtcegmlogjbnoeaaDoor
