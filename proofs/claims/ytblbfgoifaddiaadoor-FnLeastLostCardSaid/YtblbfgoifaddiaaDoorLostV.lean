/- Tables of losses: what is valid, and the walks of the functions that say so. -/
import Derived.Test.YtblbfgoifaddiaaDoorTab
import Derived.Test.YtblbfgoifaddiaaDoorHeatsV
import Derived.Test.YtblbfgoifaddiaaDoorOrdPlain
namespace Go.Proofs.YtblbfgoifaddiaaDoor
open Go.RowKit
set_option linter.unusedVariables false
def rowOk (r : List Int) : Bool := decide (r.length = 4) && r.all fun x => inB x 0 99
def lostOk (rows : List (List Int)) : Bool := decide (rows.length = 4) && rows.all rowOk
theorem allRows_succ {rows : List (List Int)} {k : Nat} {r : List Int} (h : rows[k]? = some r) : (rows.take (k + 1)).all rowOk = ((rows.take k).all rowOk && rowOk r) := by
  rw [List.take_add_one, h]; simp
theorem allVals_succ {r : List Int} {k : Nat} {x : Int} (h : r[k]? = some x) : (r.take (k + 1)).all (fun x => inB x 0 99) = ((r.take k).all (fun x => inB x 0 99) && inB x 0 99) := by
  rw [List.take_add_one, h]; simp
theorem lostOk_bad {rows : List (List Int)} {k : Nat} {r : List Int} (h : rows[k]? = some r) (hq : rowOk r = false) : lostOk rows = false := by
  have : rows.all rowOk = false := by
    rw [List.all_eq_false]; exact ⟨r, List.mem_of_getElem? h, by rw [hq]; simp⟩
  simp only [lostOk, this, Bool.and_false]
theorem rowOk_len {r : List Int} (h : r.length ≠ 4) : rowOk r = false := by simp [rowOk, h]
theorem rowOk_bad {r : List Int} {k : Nat} {x : Int} (h : r[k]? = some x) (hx : inB x 0 99 = false) : rowOk r = false := by
  have : (r.all fun x => inB x 0 99) = false := by
    rw [List.all_eq_false]; exact ⟨x, List.mem_of_getElem? h, by rw [hx]; simp⟩
  simp only [rowOk, this, Bool.and_false]
theorem rowOk_mk {r : List Int} (h : r.length = 4) (ha : (r.all fun x => inB x 0 99) = true) : rowOk r = true := by simp only [rowOk, ha, decide_eq_true h, Bool.and_self]
theorem lostOk_len {rows : List (List Int)} (h : rows.length ≠ 4) : lostOk rows = false := by simp [lostOk, h]
theorem lostOk_mk {rows : List (List Int)} (h : rows.length = 4) (ha : rows.all rowOk = true) : lostOk rows = true := by simp only [lostOk, ha, decide_eq_true h, Bool.and_self]
theorem lostOk_facts {rows : List (List Int)} (h : lostOk rows = true) : rows.length = 4 ∧ ∀ (k : Nat) (r : List Int), rows[k]? = some r → r.length = 4 ∧ ∀ (j : Nat) (x : Int), r[j]? = some x → 0 ≤ x ∧ x ≤ 99 := by
  simp only [lostOk, Bool.and_eq_true, decide_eq_true_eq] at h
  refine ⟨h.1, fun k r hk => ?_⟩
  have := List.all_eq_true.1 h.2 _ (List.mem_of_getElem? hk)
  simp only [rowOk, Bool.and_eq_true, decide_eq_true_eq] at this
  exact ⟨this.1, fun j x hj => inB_iff.1 (List.all_eq_true.1 this.2 _ (List.mem_of_getElem? hj))⟩
set_option maxRecDepth 100000 in
set_option maxHeartbeats 1000000 in
theorem implLost_any (A : Option Addr) (n c : Nat) (rows : List (List Int)) (w : World) (hl : rows.length = n) (hr : RdR w w.heap.size A rows) (hn : n ≤ 100) :
    Calls Tryd.prog 41 #[.slice A n c] w fun e w' => e = .returned (.bool (lostOk rows)) ∧ Below w.heap.size w w' := by
  have HL := Lib.hid hl
  clear hl
  by_cases h4 : n = 4
  · subst h4
    go_enter Tryd.func41, Tryd.ntmps41
    go_wp2
    go_loopw [12] (fun i wr => ∃ k : Nat, k ≤ 4 ∧ i = .int .i64 k ∧ (rows.take k).all rowOk = true ∧ wr = w) (fun i _ => 4 - (intOf i).toNat)
    case atStart => exact ⟨0, Nat.zero_le _, rfl, by simp, rfl⟩
    case round =>
      obtain ⟨k, hk, rfl, hall, rfl⟩ := hrel
      have HA := Lib.hid hall
      clear hall
      by_cases hlt : k < 4
      · obtain ⟨r, hx⟩ : ∃ q, rows[k]? = some q := ⟨_, List.getElem?_eq_getElem (by have := HL.out; omega)⟩
        obtain ⟨b, off, rfl, hbB, A', c', hc1, rd⟩ := hr k r hx
        have HX := Lib.hid hx
        clear hx hr
        by_cases hr4 : r.length = 4
        · rw [hr4] at hc1
          have HR4 := Lib.hid hr4
          go_wp2_with (fail)
          have D4 : decide ((k : Int) < 4) = true := by simp; omega
          simp only [D4]
          go_loopw [21] (fun i wr2 => ∃ j : Nat, j ≤ 4 ∧ i = .int .i64 j ∧ (r.take j).all (fun x => inB x 0 99) = true ∧ wr2 = wr) (fun i _ => 4 - (intOf i).toNat)
          case atStart => exact ⟨0, Nat.zero_le _, rfl, by simp, rfl⟩
          case round =>
            obtain ⟨j, hj, rfl, hall2, rfl⟩ := hrel
            have HA2 := Lib.hid hall2
            clear hall2
            by_cases hltj : j < 4
            · obtain ⟨x, hxj⟩ : ∃ q, r[j]? = some q := ⟨_, List.getElem?_eq_getElem (by have := HR4.out; omega)⟩
              obtain ⟨b2, off2, rfl, hb2, hc2⟩ := rd j x hxj
              have HXJ := Lib.hid hxj
              clear hxj rd
              cases h2 : inB x 0 99
              · go_wp2_with (fail)
                refine (within_any _ _ _ _).mono ?_
                rintro e w2 ⟨rfl, rfl⟩
                go_wp2
                go_ret
                exact ⟨ret_bool (lostOk_bad HX.out (rowOk_bad HXJ.out h2)).symm, Below.refl _ _⟩
              · go_wp2_with (fail)
                refine (within_any _ _ _ _).mono ?_
                rintro e w2 ⟨rfl, rfl⟩
                go_wp2
                go_roundw
                case rel => exact ⟨j + 1, by omega, by go_num, by rw [allVals_succ HXJ.out, HA2.out, h2]; rfl, by trivial⟩
                case measure => simp [intOf] <;> omega
            · obtain rfl : j = 4 := by omega
              have HF : Hid (rowOk r = true) := Lib.hid (rowOk_mk HR4.out (by have h := HA2.out; rwa [List.take_of_length_le (by have := HR4.out; omega)] at h))
              go_wp2
              go_roundw
              case rel => exact ⟨k + 1, by omega, by go_num, by rw [allRows_succ HX.out, HA.out, HF.out]; rfl, by trivial⟩
              case measure => simp [intOf] <;> omega
        · have hr4i : ((r.length : Int) == 4) = false := by rw [beq_eq_false_iff_ne]; omega
          have HR4 := Lib.hid hr4
          clear hr4
          go_wp2
          go_ret
          exact ⟨ret_bool (lostOk_bad HX.out (rowOk_len HR4.out)).symm, Below.refl _ _⟩
      · obtain rfl : k = 4 := by omega
        have HF : Hid (rows.all rowOk = true) := Lib.hid (by have h := HA.out; rwa [List.take_of_length_le (by have := HL.out; omega)] at h)
        go_wp2
        go_ret
        exact ⟨ret_bool (lostOk_mk HL.out HF.out).symm, Below.refl _ _⟩
  · have hni : ((n : Int) == 4) = false := by rw [beq_eq_false_iff_ne]; omega
    go_enter Tryd.func41, Tryd.ntmps41
    go_wp2
    go_ret
    exact ⟨ret_bool (lostOk_len (by have := HL.out; omega)).symm, Below.refl _ _⟩
set_option maxRecDepth 100000 in
set_option maxHeartbeats 1000000 in
theorem specLost_any (A : Option Addr) (n c : Nat) (rows : List (List Int)) (w : World) (hl : rows.length = n) (hr : RdR w w.heap.size A rows) (hn : n ≤ 100) :
    Calls Tryd.prog 22 #[.slice A n c] w fun e w' => e = .returned (.bool (lostOk rows)) ∧ Below w.heap.size w w' := by
  have HL := Lib.hid hl
  clear hl
  go_enter Tryd.func22, Tryd.ntmps22
  go_wp2
  go_loopw [3] (fun i wr => ∃ k : Nat, k ≤ n ∧ i = .int .i64 k ∧ (rows.take k).all rowOk = true ∧ wr = w) (fun i _ => n - (intOf i).toNat)
  case atStart => exact ⟨0, Nat.zero_le _, rfl, by simp, rfl⟩
  case round =>
    obtain ⟨k, hk, rfl, hall, rfl⟩ := hrel
    have HA := Lib.hid hall
    clear hall
    by_cases hlt : k < n
    · obtain ⟨r, hx⟩ : ∃ q, rows[k]? = some q := ⟨_, List.getElem?_eq_getElem (by have := HL.out; omega)⟩
      obtain ⟨b, off, rfl, hbB, A', c', hc1, rd⟩ := hr k r hx
      have HX := Lib.hid hx
      clear hx hr
      by_cases hr4 : r.length = 4
      · rw [hr4] at hc1
        have HR4 := Lib.hid hr4
        go_wp2_with (fail)
        go_loopw [4] (fun i wr2 => ∃ j : Nat, j ≤ 4 ∧ i = .int .i64 j ∧ (r.take j).all (fun x => inB x 0 99) = true ∧ wr2 = wr) (fun i _ => 4 - (intOf i).toNat)
        case atStart => exact ⟨0, Nat.zero_le _, rfl, by simp, rfl⟩
        case round =>
          obtain ⟨j, hj, rfl, hall2, rfl⟩ := hrel
          have HA2 := Lib.hid hall2
          clear hall2
          by_cases hltj : j < 4
          · obtain ⟨x, hxj⟩ : ∃ q, r[j]? = some q := ⟨_, List.getElem?_eq_getElem (by have := HR4.out; omega)⟩
            obtain ⟨b2, off2, rfl, hb2, hc2⟩ := rd j x hxj
            have HXJ := Lib.hid hxj
            clear hxj rd
            cases h2 : inB x 0 99
            · go_wp2_with (fail)
              refine (in_any _ _ _ _).mono ?_
              rintro e w2 ⟨rfl, rfl⟩
              go_wp2
              go_ret
              exact ⟨ret_bool (lostOk_bad HX.out (rowOk_bad HXJ.out h2)).symm, Below.refl _ _⟩
            · go_wp2_with (fail)
              refine (in_any _ _ _ _).mono ?_
              rintro e w2 ⟨rfl, rfl⟩
              go_wp2
              go_roundw
              case rel => exact ⟨j + 1, by omega, by go_num, by rw [allVals_succ HXJ.out, HA2.out, h2]; rfl, by trivial⟩
              case measure => simp [intOf] <;> omega
          · obtain rfl : j = 4 := by omega
            have HF : Hid (rowOk r = true) := Lib.hid (rowOk_mk HR4.out (by have h := HA2.out; rwa [List.take_of_length_le (by have := HR4.out; omega)] at h))
            go_wp2
            go_roundw
            case rel => exact ⟨k + 1, by omega, by go_num, by rw [allRows_succ HX.out, HA.out, HF.out]; rfl, by trivial⟩
            case measure => simp [intOf] <;> omega
      · have hr4i : ((r.length : Int) == 4) = false := by rw [beq_eq_false_iff_ne]; omega
        have HR4 := Lib.hid hr4
        clear hr4
        go_wp2
        go_ret
        exact ⟨ret_bool (lostOk_bad HX.out (rowOk_len HR4.out)).symm, Below.refl _ _⟩
    · have HF : Hid (rows.all rowOk = true) := Lib.hid (by have h := HA.out; rwa [List.take_of_length_le (by have := HL.out; omega)] at h)
      by_cases h4 : n = 4
      · subst h4
        go_wp2
        go_ret
        exact ⟨ret_bool (lostOk_mk HL.out HF.out).symm, Below.refl _ _⟩
      · have hni : ((n : Int) == 4) = false := by rw [beq_eq_false_iff_ne]; omega
        have HN : Hid (lostOk rows = false) := Lib.hid (lostOk_len (by have := HL.out; omega))
        go_wp2
        go_ret
        exact ⟨ret_bool HN.out.symm, Below.refl _ _⟩
end Go.Proofs.YtblbfgoifaddiaaDoor
