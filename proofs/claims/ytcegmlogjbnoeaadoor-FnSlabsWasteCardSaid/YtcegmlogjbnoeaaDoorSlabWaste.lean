/- 'SlabsWaste': both walks. -/
import Derived.Test.YtcegmlogjbnoeaaDoorSlabWalk
namespace Go.Proofs.YtcegmlogjbnoeaaDoor
open Go.RowKit
set_option linter.unusedVariables false
set_option maxRecDepth 100000 in
set_option maxHeartbeats 4000000 in
theorem implWasteOf_any (long : Int) (A1 : Option Addr) (n1 c1 : Nat) (ys : List (Int × Int)) (A2 : Option Addr) (n2 c2 : Nat) (ls : List Int) (A3 : Option Addr) (n3 c3 : Nat) (zs : List (Int × Int)) (w : World)
    (hl1 : ys.length = n1) (hr1 : RdP w w.heap.size A1 ys) (hn1 : n1 ≤ 1048576) (hl2 : ls.length = n2) (hr2 : RdI .i64 w w.heap.size A2 ls) (hn2 : n2 ≤ 1048576) (hl3 : zs.length = n3) (hr3 : RdP w w.heap.size A3 zs) (hn3 : n3 ≤ 1048576) :
    Calls Tryd.prog 19 #[.int .i64 long, .slice A1 n1 c1, .slice A2 n2 c2, .slice A3 n3 c3] w fun e w' => e = .returned (.int .i64 (slabsWaste long ys ls zs)) ∧ Below w.heap.size w w' := by
  have HL3 := Lib.hid hl3
  cases h1 : slabsOk long ys ls zs
  · clear HL3
    go_enter Tryd.func19, Tryd.ntmps19
    go_wp2_with (fail)
    refine (implSlabs_any long _ _ _ ys _ _ _ ls _ _ _ zs _ hl1 hr1 (by omega) hl2 hr2 (by omega) hl3 hr3 (by omega)).mono ?_
    rintro e w1 ⟨rfl, t1⟩
    go_wp2
    go_ret
    exact ⟨ret_int (slabsWaste_no h1).symm, t1⟩
  have H1 := Lib.hid h1
  have HB : Hid (∀ k, k ≤ zs.length → 0 ≤ wasteTo long zs k ∧ wasteTo long zs k ≤ 60 ∧ k ≤ 60) := Lib.hid (wasteTo_bounds h1)
  have hC : Calls Tryd.prog 59 #[.int .i64 long, .slice A1 n1 c1, .slice A2 n2 c2, .slice A3 n3 c3] w fun e w' => e = .returned (.bool (slabsOk long ys ls zs)) ∧ Below w.heap.size w w' := implSlabs_any long _ _ _ ys _ _ _ ls _ _ _ zs _ hl1 hr1 (by omega) hl2 hr2 (by omega) hl3 hr3 (by omega)
  have HC := Lib.hid hC
  clear hC hl1 hr1 hl2 hr2 hl3
  go_enter Tryd.func19, Tryd.ntmps19
  go_wp2_with (fail)
  refine HC.out.mono ?_
  rintro e w1 ⟨rfl, t1⟩
  go_wp2
  clear h1 HC
  have hr := hr3.up t1 t1.size
  clear hr3
  go_loopw [9, 21] (fun s i wr => ∃ k : Nat, k ≤ n3 ∧ i = .int .i64 k ∧ s = .int .i64 (wasteTo long zs k) ∧ Below w1.heap.size w1 wr) (fun _ i _ => n3 - (intOf i).toNat)
  case atStart => exact ⟨0, Nat.zero_le _, rfl, rfl, Below.refl _ _⟩
  case round =>
    obtain ⟨k, hk, rfl, rfl, hbel⟩ := hrel
    have hsz := hbel.size
    obtain ⟨z0, z1, z2⟩ := HB.out k (by rw [HL3.out]; omega)
    by_cases hlt : k < n3
    · obtain ⟨⟨x, y⟩, hz⟩ : ∃ q, zs[k]? = some q := ⟨_, List.getElem?_eq_getElem (by have := HL3.out; omega)⟩
      obtain ⟨b, off, rfl, hbB, hc1, hc2⟩ := hr k x y hz
      rw [← hbel.cell (by exact hbB)] at hc1 hc2
      have HS := Lib.hid (wasteTo_succ (long := long) hz)
      obtain ⟨z3, z4, _⟩ := HB.out (k + 1) (by rw [HL3.out]; omega)
      rw [HS.out] at z3 z4
      clear hz hr
      generalize wasteTo long zs k = q at *
      go_wp2
      go_roundw
      case rel => exact ⟨k + 1, by omega, by go_num, by rw [HS.out], (by repeat' (first | exact Below.refl _ _ | assumption | refine Below.alloc ?_ (by first | omega | (simp; done) | (simp; omega)) _ | refine Below.setCell ?_ (by first | omega | (simp; done) | (simp; omega)) _ | refine Below.drew ?_ | refine below_drawn ?_ _))⟩
      case measure => simp [intOf] <;> omega
    · go_wp2
      go_ret
      obtain rfl : k = n3 := by omega
      exact ⟨ret_int (by rw [slabsWaste_ok H1.out, HL3.out]), below_next t1 hbel⟩
set_option maxRecDepth 100000 in
set_option maxHeartbeats 4000000 in
theorem specWasteOf_any (long : Int) (A1 : Option Addr) (n1 c1 : Nat) (ys : List (Int × Int)) (A2 : Option Addr) (n2 c2 : Nat) (ls : List Int) (A3 : Option Addr) (n3 c3 : Nat) (zs : List (Int × Int)) (w : World)
    (hl1 : ys.length = n1) (hr1 : RdP w w.heap.size A1 ys) (hn1 : n1 ≤ 1048576) (hl2 : ls.length = n2) (hr2 : RdI .i64 w w.heap.size A2 ls) (hn2 : n2 ≤ 1048576) (hl3 : zs.length = n3) (hr3 : RdP w w.heap.size A3 zs) (hn3 : n3 ≤ 1048576) :
    Calls Tryd.prog 20 #[.int .i64 long, .slice A1 n1 c1, .slice A2 n2 c2, .slice A3 n3 c3] w fun e w' => e = .returned (.int .i64 (slabsWaste long ys ls zs)) ∧ Below w.heap.size w w' := by
  have HL3 := Lib.hid hl3
  cases h1 : slabsOk long ys ls zs
  · clear HL3
    go_enter Tryd.func20, Tryd.ntmps20
    go_wp2_with (fail)
    refine (specSlabs_any long _ _ _ ys _ _ _ ls _ _ _ zs _ hl1 hr1 (by omega) hl2 hr2 (by omega) hl3 hr3 (by omega)).mono ?_
    rintro e w1 ⟨rfl, t1⟩
    go_wp2
    go_ret
    exact ⟨ret_int (slabsWaste_no h1).symm, t1⟩
  have H1 := Lib.hid h1
  have HB : Hid (∀ k, k ≤ zs.length → 0 ≤ wasteTo long zs k ∧ wasteTo long zs k ≤ 60 ∧ k ≤ 60) := Lib.hid (wasteTo_bounds h1)
  have hC : Calls Tryd.prog 60 #[.int .i64 long, .slice A1 n1 c1, .slice A2 n2 c2, .slice A3 n3 c3] w fun e w' => e = .returned (.bool (slabsOk long ys ls zs)) ∧ Below w.heap.size w w' := specSlabs_any long _ _ _ ys _ _ _ ls _ _ _ zs _ hl1 hr1 (by omega) hl2 hr2 (by omega) hl3 hr3 (by omega)
  have HC := Lib.hid hC
  clear hC hl1 hr1 hl2 hr2 hl3
  go_enter Tryd.func20, Tryd.ntmps20
  go_wp2_with (fail)
  refine HC.out.mono ?_
  rintro e w1 ⟨rfl, t1⟩
  go_wp2
  clear h1 HC
  have hr := hr3.up t1 t1.size
  clear hr3
  go_loop [9, 10] (fun s i => ∃ k : Nat, k ≤ n3 ∧ i = .int .i64 k ∧ s = .int .i64 (wasteTo long zs k)) (fun _ i => n3 - (intOf i).toNat)
  case atStart => exact ⟨0, Nat.zero_le _, rfl, rfl⟩
  case round =>
    obtain ⟨k, hk, rfl, rfl⟩ := hrel
    obtain ⟨z0, z1, z2⟩ := HB.out k (by rw [HL3.out]; omega)
    by_cases hlt : k < n3
    · obtain ⟨⟨x, y⟩, hz⟩ : ∃ q, zs[k]? = some q := ⟨_, List.getElem?_eq_getElem (by have := HL3.out; omega)⟩
      obtain ⟨b, off, rfl, hbB, hc1, hc2⟩ := hr k x y hz
      have HS := Lib.hid (wasteTo_succ (long := long) hz)
      obtain ⟨z3, z4, _⟩ := HB.out (k + 1) (by rw [HL3.out]; omega)
      rw [HS.out] at z3 z4
      clear hz hr
      generalize wasteTo long zs k = q at *
      go_wp2
      go_round
      case rel => exact ⟨k + 1, by omega, by go_num, by rw [HS.out]⟩
      case measure => simp [intOf] <;> omega
    · go_wp2
      go_ret
      obtain rfl : k = n3 := by omega
      exact ⟨ret_int (by rw [slabsWaste_ok H1.out, HL3.out]), t1⟩
end Go.Proofs.YtcegmlogjbnoeaaDoor
