/- Heats and casters: what is valid, and the walks of the functions that say so. -/
import Derived.Test.YtblbfgoifaddiaaDoorTrip
import Derived.Test.YtblbfgoifaddiaaDoorLeaf
import Derived.Test.YtblbfgoifaddiaaDoorCutPlain
import Derived.Test.YtblbfgoifaddiaaDoorSz
namespace Go.Proofs.YtblbfgoifaddiaaDoor
open Go.RowKit
set_option linter.unusedVariables false
def heatOk (q : Int × Int × Int) : Bool := inB q.1 0 3 && (inB q.2.1 0 999 && inB q.2.2 q.2.1 999)
def heatsOk (xs : List (Int × Int × Int)) : Bool := decide (xs.length ≤ 6) && xs.all heatOk
def casterOk (f s : Int) : Bool := inB f 1 99 && inB s f 99
theorem heatOk_iff {k t r : Int} : heatOk (k, t, r) = true ↔ 0 ≤ k ∧ k ≤ 3 ∧ 0 ≤ t ∧ t ≤ 999 ∧ t ≤ r ∧ r ≤ 999 := by simp [heatOk, inB_iff, and_assoc]
theorem casterOk_iff {f s : Int} : casterOk f s = true ↔ 1 ≤ f ∧ f ≤ 99 ∧ f ≤ s ∧ s ≤ 99 := by simp [casterOk, inB_iff, and_assoc]
theorem allT_take_succ {xs : List (Int × Int × Int)} {k : Nat} {q : Int × Int × Int} (h : xs[k]? = some q) : (xs.take (k + 1)).all heatOk = ((xs.take k).all heatOk && heatOk q) := by
  rw [List.take_add_one, h]; simp
theorem heatsOk_bad {xs : List (Int × Int × Int)} {k : Nat} {q : Int × Int × Int} (h : xs[k]? = some q) (hq : heatOk q = false) : heatsOk xs = false := by
  have : xs.all heatOk = false := by
    rw [List.all_eq_false]; exact ⟨q, List.mem_of_getElem? h, by rw [hq]; simp⟩
  simp only [heatsOk, this, Bool.and_false]
theorem heatsOk_long {xs : List (Int × Int × Int)} (h : 6 < xs.length) : heatsOk xs = false := by simp [heatsOk]; omega
theorem heatsOk_mk {xs : List (Int × Int × Int)} (h : xs.length ≤ 6) (ha : xs.all heatOk = true) : heatsOk xs = true := by simp only [heatsOk, ha, decide_eq_true h, Bool.and_self]
theorem heatsOk_facts {xs : List (Int × Int × Int)} (h : heatsOk xs = true) : xs.length ≤ 6 ∧ ∀ (k : Nat) (a b c : Int), xs[k]? = some (a, b, c) → 0 ≤ a ∧ a ≤ 3 ∧ 0 ≤ b ∧ b ≤ 999 ∧ b ≤ c ∧ c ≤ 999 := by
  simp only [heatsOk, Bool.and_eq_true, decide_eq_true_eq] at h
  exact ⟨h.1, fun k a b c hk => heatOk_iff.1 (List.all_eq_true.1 h.2 _ (List.mem_of_getElem? hk))⟩
set_option maxHeartbeats 1000000 in
theorem specHeat_any (k t r : Int) (w : World) : Calls Tryd.prog 46 #[.agg #[.int .i64 k, .int .i64 t, .int .i64 r]] w fun e w' => e = .returned (.bool (heatOk (k, t, r))) ∧ Below w.heap.size w w' := by
  have tA : Below w.heap.size w (w.alloc (.cells #[.int .i64 k, .int .i64 t, .int .i64 r] 34)) := (Below.refl _ _).alloc (Nat.le_refl _) _
  cases h1 : inB k 0 3
  · go_enter Tryd.func46, Tryd.ntmps46
    go_wp2_with (go_at_call 33; refine (in_any _ _ _ _).mono ?_; rintro e w' ⟨rfl, rfl⟩)
    go_ret
    exact ⟨ret_bool (by simp [heatOk, h1]), tA⟩
  cases h2 : inB t 0 999
  · go_enter Tryd.func46, Tryd.ntmps46
    go_wp2_with (go_at_call 33; refine (in_any _ _ _ _).mono ?_; rintro e w' ⟨rfl, rfl⟩)
    go_ret
    exact ⟨ret_bool (by simp [heatOk, h2]), tA⟩
  · go_enter Tryd.func46, Tryd.ntmps46
    go_wp2_with (go_at_call 33; refine (in_any _ _ _ _).mono ?_; rintro e w' ⟨rfl, rfl⟩)
    go_ret
    exact ⟨ret_bool (by simp [heatOk, h1, h2]), tA⟩
set_option maxHeartbeats 1000000 in
theorem implHeat_any (k t r : Int) (w : World) : Calls Tryd.prog 58 #[.agg #[.int .i64 k, .int .i64 t, .int .i64 r]] w fun e w' => e = .returned (.bool (heatOk (k, t, r))) ∧ Below w.heap.size w w' := by
  have tA : Below w.heap.size w (w.alloc (.cells #[.int .i64 k, .int .i64 t, .int .i64 r] 34)) := (Below.refl _ _).alloc (Nat.le_refl _) _
  cases h1 : inB k 0 3
  · go_enter Tryd.func58, Tryd.ntmps58
    go_wp2_with (go_at_call 53; refine (within_any _ _ _ _).mono ?_; rintro e w' ⟨rfl, rfl⟩)
    go_ret
    exact ⟨ret_bool (by simp [heatOk, h1]), tA⟩
  cases h2 : inB t 0 999
  · go_enter Tryd.func58, Tryd.ntmps58
    go_wp2_with (go_at_call 53; refine (within_any _ _ _ _).mono ?_; rintro e w' ⟨rfl, rfl⟩)
    go_ret
    exact ⟨ret_bool (by simp [heatOk, h2]), tA⟩
  · go_enter Tryd.func58, Tryd.ntmps58
    go_wp2_with (go_at_call 53; refine (within_any _ _ _ _).mono ?_; rintro e w' ⟨rfl, rfl⟩)
    go_ret
    exact ⟨ret_bool (by simp [heatOk, h1, h2]), tA⟩
set_option maxHeartbeats 1000000 in
theorem specCaster_any (f s : Int) (w : World) : Calls Tryd.prog 32 #[.agg #[.int .i64 f, .int .i64 s]] w fun e w' => e = .returned (.bool (casterOk f s)) ∧ Below w.heap.size w w' := by
  have tA : Below w.heap.size w (w.alloc (.cells #[.int .i64 f, .int .i64 s] 25)) := (Below.refl _ _).alloc (Nat.le_refl _) _
  cases h1 : inB f 1 99
  · go_enter Tryd.func32, Tryd.ntmps32
    go_wp2_with (go_at_call 33; refine (in_any _ _ _ _).mono ?_; rintro e w' ⟨rfl, rfl⟩)
    go_ret
    exact ⟨ret_bool (by simp [casterOk, h1]), tA⟩
  · go_enter Tryd.func32, Tryd.ntmps32
    go_wp2_with (go_at_call 33; refine (in_any _ _ _ _).mono ?_; rintro e w' ⟨rfl, rfl⟩)
    go_ret
    exact ⟨ret_bool (by simp [casterOk, h1]), tA⟩
set_option maxHeartbeats 1000000 in
theorem implCaster_any (f s : Int) (w : World) : Calls Tryd.prog 52 #[.agg #[.int .i64 f, .int .i64 s]] w fun e w' => e = .returned (.bool (casterOk f s)) ∧ Below w.heap.size w w' := by
  have tA : Below w.heap.size w (w.alloc (.cells #[.int .i64 f, .int .i64 s] 25)) := (Below.refl _ _).alloc (Nat.le_refl _) _
  cases h1 : inB f 1 99
  · go_enter Tryd.func52, Tryd.ntmps52
    go_wp2_with (go_at_call 53; refine (within_any _ _ _ _).mono ?_; rintro e w' ⟨rfl, rfl⟩)
    go_ret
    exact ⟨ret_bool (by simp [casterOk, h1]), tA⟩
  · go_enter Tryd.func52, Tryd.ntmps52
    go_wp2_with (go_at_call 53; refine (within_any _ _ _ _).mono ?_; rintro e w' ⟨rfl, rfl⟩)
    go_ret
    exact ⟨ret_bool (by simp [casterOk, h1]), tA⟩
set_option maxHeartbeats 1000000 in
theorem specHeats_any (A : Option Addr) (n c : Nat) (xs : List (Int × Int × Int)) (w : World) (hl : xs.length = n) (hr : RdT w w.heap.size A xs) (hn : n ≤ 1048576) :
    Calls Tryd.prog 21 #[.slice A n c] w fun e w' => e = .returned (.bool (heatsOk xs)) ∧ Below w.heap.size w w' := by
  have HL := Lib.hid hl
  clear hl
  go_enter Tryd.func21, Tryd.ntmps21
  go_wp2
  go_loopw [3] (fun i wr => ∃ k : Nat, k ≤ n ∧ i = .int .i64 k ∧ (xs.take k).all heatOk = true ∧ Below w.heap.size w wr) (fun i _ => n - (intOf i).toNat)
  case atStart => exact ⟨0, Nat.zero_le _, rfl, by simp, Below.refl _ _⟩
  case round =>
    obtain ⟨k, hk, rfl, hall, hbel⟩ := hrel
    have HA := Lib.hid hall
    clear hall
    by_cases hlt : k < n
    · obtain ⟨⟨x, y, z⟩, hxy⟩ : ∃ q, xs[k]? = some q := ⟨_, List.getElem?_eq_getElem (by have := HL.out; omega)⟩
      obtain ⟨b, off, rfl, hbB, hc1, hc2, hc3⟩ := hr k x y z hxy
      rw [← hbel.cell (by exact hbB)] at hc1 hc2 hc3
      have HXY := Lib.hid hxy
      clear hxy hr
      have K := specHeat_any x y z wr
      go_wp2_with (fail)
      refine K.mono ?_
      rintro e w2 ⟨rfl, hb2⟩
      have hb2' := below_next hbel hb2
      clear hc1 hc2 hc3 hbel hb2 K
      cases h2 : heatOk (x, y, z)
      · go_wp2
        go_ret
        exact ⟨ret_bool (heatsOk_bad HXY.out h2).symm, hb2'⟩
      · go_wp2
        go_roundw
        case rel => exact ⟨k + 1, by omega, by go_num, by rw [allT_take_succ HXY.out, HA.out, h2]; rfl, hb2'⟩
        case measure => simp [intOf] <;> omega
    · have HF : Hid (xs.all heatOk = true) := Lib.hid (by have h := HA.out; rwa [List.take_of_length_le (by have := HL.out; omega)] at h)
      by_cases h8 : (n : Int) ≤ 6
      · go_wp2
        go_ret
        exact ⟨ret_bool (heatsOk_mk (by have := HL.out; omega) HF.out).symm, hbel⟩
      · go_wp2
        go_ret
        exact ⟨ret_bool (heatsOk_long (by have := HL.out; omega)).symm, hbel⟩
set_option maxHeartbeats 1000000 in
theorem implHeats_any (A : Option Addr) (n c : Nat) (xs : List (Int × Int × Int)) (w : World) (hl : xs.length = n) (hr : RdT w w.heap.size A xs) (hn : n ≤ 1048576) :
    Calls Tryd.prog 40 #[.slice A n c] w fun e w' => e = .returned (.bool (heatsOk xs)) ∧ Below w.heap.size w w' := by
  by_cases h8 : (6 : Int) < n
  · go_enter Tryd.func40, Tryd.ntmps40
    go_wp2
    go_ret
    exact ⟨ret_bool (heatsOk_long (by omega)).symm, Below.refl _ _⟩
  have HL := Lib.hid hl
  clear hl
  go_enter Tryd.func40, Tryd.ntmps40
  go_wp2
  go_loopw [10] (fun i wr => ∃ k : Nat, k ≤ n ∧ i = .int .i64 k ∧ (xs.take k).all heatOk = true ∧ Below w.heap.size w wr) (fun i _ => n - (intOf i).toNat)
  case atStart => exact ⟨0, Nat.zero_le _, rfl, by simp, Below.refl _ _⟩
  case round =>
    obtain ⟨k, hk, rfl, hall, hbel⟩ := hrel
    have HA := Lib.hid hall
    have hsz := hbel.size
    clear hall
    by_cases hlt : k < n
    · obtain ⟨⟨x, y, z⟩, hxy⟩ : ∃ q, xs[k]? = some q := ⟨_, List.getElem?_eq_getElem (by have := HL.out; omega)⟩
      obtain ⟨b, off, rfl, hbB, hc1, hc2, hc3⟩ := hr k x y z hxy
      rw [← hbel.cell (by exact hbB)] at hc1 hc2 hc3
      have HXY := Lib.hid hxy
      clear hxy hr
      have K := fun W => implHeat_any x y z W
      go_wp2_with (fail)
      refine (K _).mono ?_
      rintro e w2 ⟨rfl, hb2⟩
      have hb2' := below_next hbel (below_boxed hb2)
      clear hc1 hc2 hc3 hbel hb2 K
      cases h2 : heatOk (x, y, z)
      · go_wp2
        go_ret
        exact ⟨ret_bool (heatsOk_bad HXY.out h2).symm, hb2'⟩
      · go_wp2
        go_roundw
        case rel => exact ⟨k + 1, by omega, by go_num, by rw [allT_take_succ HXY.out, HA.out, h2]; rfl, hb2'⟩
        case measure => simp [intOf] <;> omega
    · have HF : Hid (xs.all heatOk = true) := Lib.hid (by have h := HA.out; rwa [List.take_of_length_le (by have := HL.out; omega)] at h)
      go_wp2
      go_ret
      exact ⟨ret_bool (heatsOk_mk (by have := HL.out; omega) HF.out).symm, hbel⟩
end Go.Proofs.YtblbfgoifaddiaaDoor
