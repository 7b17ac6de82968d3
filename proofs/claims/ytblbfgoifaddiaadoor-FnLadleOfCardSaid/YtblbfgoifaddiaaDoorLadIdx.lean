/- 'slices.IndexFunc' by the closure of the program's 'LadleOf': the least ladle that is free. -/
import Derived.Test.YtblbfgoifaddiaaDoorLadSort
namespace Go.Proofs.YtblbfgoifaddiaaDoor
open Go.RowKit
set_option linter.unusedVariables false
def idxV (es : List Int) (T : Int) : Int := if llS es T < es.length then (llS es T : Int) else -1
theorem llS_at {es : List Int} {T : Int} {j : Nat} {c : Int} (hb : ∀ (b : Nat) (y : Int), b < j → es[b]? = some y → T < y) (hc : es[j]? = some c) (hf : c ≤ T) : llS es T = j := by
  have hj := (List.getElem?_eq_some_iff.1 hc).1
  rcases Nat.lt_trichotomy (llS es T) j with h | h | h
  · have hlt : llS es T < es.length := by omega
    have h1 := llS_free (es := es) (T := T) (List.getElem?_eq_getElem hlt)
    have h2 := hb _ _ h (List.getElem?_eq_getElem hlt)
    omega
  · exact h
  · have := llS_full h hc; omega
theorem llS_none {es : List Int} {T : Int} (hb : ∀ (b : Nat) (y : Int), es[b]? = some y → T < y) : llS es T = es.length := by
  rcases Nat.lt_or_ge (llS es T) es.length with h | h
  · have h1 := llS_free (es := es) (T := T) (List.getElem?_eq_getElem h)
    have h2 := hb _ _ (List.getElem?_eq_getElem h)
    omega
  · have := llS_le es T; omega
theorem idxV_at {es : List Int} {T : Int} {j : Nat} {c : Int} (hb : ∀ (b : Nat) (y : Int), b < j → es[b]? = some y → T < y) (hc : es[j]? = some c) (hf : c ≤ T) : idxV es T = (j : Int) := by
  unfold idxV
  rw [llS_at hb hc hf, if_pos (List.getElem?_eq_some_iff.1 hc).1]
theorem idxV_none {es : List Int} {T : Int} (hb : ∀ (b : Nat) (y : Int), es[b]? = some y → T < y) : idxV es T = -1 := by
  unfold idxV
  rw [llS_none hb, if_neg (Nat.lt_irrefl _)]
set_option maxHeartbeats 1000000 in
theorem ladFree_any (bh bi i : Nat) (A : Option Addr) (n c : Nat) (xs : List (Int × Int × Int)) (kk t r z : Int) (w : World) (hbox : w.cell? ⟨bh, 0, none⟩ = some (.slice A n c)) (hbi : w.cell? ⟨bi, 0, none⟩ = some (.int .i64 i)) (hl : xs.length = n) {B : Nat} (hr : RdT w B A xs) (hn : n ≤ 1048576)
    (hi : xs[i]? = some (kk, t, r)) :
    Calls Tryd.prog 31 #[.int .i64 z, .pointer (some ⟨bh, 0, none⟩), .pointer (some ⟨bi, 0, none⟩)] w fun e w' => e = .returned (.bool (decide (z ≤ t))) ∧ w = w' := by
  have h1 := (List.getElem?_eq_some_iff.1 hi).1
  obtain ⟨g, off, rfl, hg, ca1, ca, ca2⟩ := hr i kk t r hi
  rw [hl] at h1
  clear hr hi hl ca1 ca2
  go_enter Tryd.func31, Tryd.ntmps31
  go_wp2
  go_ret
  exact ⟨rfl, rfl⟩
set_option maxHeartbeats 1000000 in
theorem ladIdx_any (A1 : Option Addr) (m c1 : Nat) (es : List Int) (bh bi i : Nat) (A : Option Addr) (n c : Nat) (xs : List (Int × Int × Int)) (kk t r : Int) (w : World) (hle : es.length = m) {B1 : Nat} (hre : RdI .i64 w B1 A1 es) (hm : m ≤ 1048576) (hbox : w.cell? ⟨bh, 0, none⟩ = some (.slice A n c)) (hbi : w.cell? ⟨bi, 0, none⟩ = some (.int .i64 i)) (hl : xs.length = n) {B : Nat} (hr : RdT w B A xs) (hn : n ≤ 1048576)
    (hi : xs[i]? = some (kk, t, r)) :
    Calls Tryd.prog 30 #[.slice A1 m c1, .func (.func 31) #[] #[.pointer (some ⟨bh, 0, none⟩), .pointer (some ⟨bi, 0, none⟩)]] w fun e w' => e = .returned (.int .i64 (idxV es t)) ∧ w = w' := by
  have HLE := Lib.hid hle
  have RE := Lib.hid hre
  have KF := Lib.hid (fun z => ladFree_any bh bi i A n c xs kk t r z w hbox hbi hl hr hn hi)
  clear hle hre hbox hbi hl hr hi
  go_enter Tryd.func30, Tryd.ntmps30
  go_wp2_with (fail)
  go_loop [8] (fun v => ∃ k : Nat, k ≤ m ∧ v = .int .i64 k ∧ ∀ (b : Nat) (y : Int), b < k → es[b]? = some y → t < y) (fun v => m - (intOf v).toNat)
  case atStart => exact ⟨0, Nat.zero_le _, rfl, fun b y h => absurd h (by omega)⟩
  case round =>
    obtain ⟨k, hk, rfl, hb⟩ := hrel
    have HB := Lib.hid hb
    clear hb
    by_cases hlt : k < m
    · obtain ⟨z, hz⟩ : ∃ q, es[k]? = some q := ⟨_, List.getElem?_eq_getElem (by rw [HLE.out]; exact hlt)⟩
      obtain ⟨g, off, rfl, hg, cz⟩ := RE.out k z hz
      have HZ := Lib.hid hz
      clear hz
      by_cases hzt : z ≤ t
      · go_wp2_with (go_at_call 31; refine (KF.out _).mono ?_; rintro e w' ⟨rfl, rfl⟩)
        go_ret
        exact ⟨ret_int (idxV_at HB.out HZ.out hzt).symm, rfl⟩
      · go_wp2_with (go_at_call 31; refine (KF.out _).mono ?_; rintro e w' ⟨rfl, rfl⟩)
        go_round
        case rel => exact ⟨k + 1, by omega, by go_num, fun b y hbk hy => by
          by_cases e : b < k
          · exact HB.out b y e hy
          · obtain rfl : b = k := by omega
            rw [HZ.out] at hy; injection hy with hy; omega⟩
        case measure => simp [intOf] <;> omega
    · obtain rfl : k = m := by omega
      go_wp2
      go_ret
      exact ⟨ret_int (idxV_none (fun b y hy => HB.out b y (by have := (List.getElem?_eq_some_iff.1 hy).1; rw [HLE.out] at this; exact this) hy)).symm, rfl⟩
end Go.Proofs.YtblbfgoifaddiaaDoor
