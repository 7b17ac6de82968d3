/- 'StrandsMany': both walks. -/
import Derived.Test.YtcegmlogjbnoeaaDoorStrWalk
import Derived.Test.YtcegmlogjbnoeaaDoorHas
import Derived.Outline
namespace Go.Proofs.YtcegmlogjbnoeaaDoor
open Go.RowKit
set_option linter.unusedVariables false
theorem RdI.take {k : IntKind} {w : World} {B : Nat} {A : Option Addr} {xs : List Int} (h : RdI k w B A xs) (m : Nat) : RdI k w B A (xs.take m) := fun j x hx => by
  rw [List.getElem?_take] at hx
  split at hx
  · exact h j x hx
  · cases hx
theorem RdI.drewN {k : IntKind} {w : World} {A : Option Addr} {xs : List Int} (h : RdI k w w.heap.size A xs) (m : Nat) : RdI k (w.drewN m) (w.drewN m).heap.size A xs := h
theorem take_len {xs : List Int} {n k : Nat} (hl : xs.length = n) (hk : k ≤ n) : (xs.take k).length = k := by rw [List.length_take]; omega
set_option maxRecDepth 100000 in
set_option maxHeartbeats 4000000 in
theorem implMany_any (A1 : Option Addr) (n1 c1 : Nat) (ws : List Int) (long : Int) (A2 : Option Addr) (n2 c2 : Nat) (ps : List Int) (w : World)
    (hl1 : ws.length = n1) (hr1 : RdI .i64 w w.heap.size A1 ws) (hn1 : n1 ≤ 1048576) (hl2 : ps.length = n2) (hr2 : RdI .i64 w w.heap.size A2 ps) (hn2 : n2 ≤ 1048576 ∧ n2 ≤ c2) :
    Calls Tryd.prog 55 #[.slice A1 n1 c1, .int .i64 long, .slice A2 n2 c2] w fun e w' => e = .returned (.int .i64 (strandsMany ws long ps)) ∧ Below w.heap.size w w' := by
  have HL1 := Lib.hid hl1
  have HL2 := Lib.hid hl2
  obtain ⟨hn2, hcap⟩ := hn2
  clear hl1 hl2
  cases h1 : strandsOk ws long ps
  · go_enter Tryd.func55, Tryd.ntmps55
    go_wp2_with (fail)
    refine (implStrands_any _ _ _ ws long _ _ _ ps _ HL1.out hr1 (by omega) HL2.out hr2 (by omega)).mono ?_
    rintro e w1 ⟨rfl, t1⟩
    go_wp2
    go_ret
    exact ⟨ret_int (strandsMany_no h1).symm, t1⟩
  have H1 := Lib.hid h1
  have hn8 : n2 ≤ 8 := by
    have := strandsOk_facts h1
    have := (wantsOk_len this.1).1
    have := HL2.out; omega
  go_enter Tryd.func55, Tryd.ntmps55
  go_wp2_with (fail)
  refine (implStrands_any _ _ _ ws long _ _ _ ps _ HL1.out hr1 (by omega) HL2.out hr2 (by omega)).mono ?_
  rintro e w1 ⟨rfl, t1⟩
  have hr := hr2.up t1 t1.size
  go_wp2
  clear h1 hr1 hr2
  go_loop [7, 17] (fun m i => ∃ k : Nat, k ≤ n2 ∧ i = .int .i64 k ∧ m = .int .i64 (manyTo ps k)) (fun _ i => n2 - (intOf i).toNat)
  case atStart => exact ⟨0, Nat.zero_le _, rfl, rfl⟩
  case round =>
    obtain ⟨k, hk, rfl, rfl⟩ := hrel
    obtain ⟨z0, z1⟩ := manyTo_bounds ps k
    by_cases hlt : k < n2
    · obtain ⟨p, hp⟩ : ∃ p, ps[k]? = some p := ⟨_, List.getElem?_eq_getElem (by rw [HL2.out]; omega)⟩
      have hrt := hr.take k
      have HRT := Lib.hid hrt
      obtain ⟨b2, off2, rfl, hbB2, hc2⟩ := hr k p hp
      have HP := Lib.hid hp
      clear hp hr hrt
      cases g1 : hasI (ps.take k) p
      · have HH := Lib.hid (manyTo_new HP.out g1)
        generalize manyTo ps k = q at *
        go_wp2_with (fail)
        refine (contains_any _ _ _ (ps.take k) p _ (take_len HL2.out (by omega)) HRT.out (by omega)).mono ?_
        rintro e w' ⟨rfl, rfl⟩
        go_wp2
        go_round
        case rel => exact ⟨k + 1, by omega, by go_num, by rw [HH.out]⟩
        case measure => simp [intOf] <;> omega
      · have HH := Lib.hid (manyTo_old HP.out g1)
        generalize manyTo ps k = q at *
        go_wp2_with (fail)
        refine (contains_any _ _ _ (ps.take k) p _ (take_len HL2.out (by omega)) HRT.out (by omega)).mono ?_
        rintro e w' ⟨rfl, rfl⟩
        go_wp2
        go_round
        case rel => exact ⟨k + 1, by omega, by go_num, by rw [HH.out]⟩
        case measure => simp [intOf] <;> omega
    · go_wp2
      go_ret
      obtain rfl : k = n2 := by omega
      exact ⟨ret_int (by rw [strandsMany_ok H1.out, HL2.out]), t1⟩
set_option maxRecDepth 100000 in
set_option maxHeartbeats 4000000 in
theorem specMany_any (A1 : Option Addr) (n1 c1 : Nat) (ws : List Int) (long : Int) (A2 : Option Addr) (n2 c2 : Nat) (ps : List Int) (w : World)
    (hl1 : ws.length = n1) (hr1 : RdI .i64 w w.heap.size A1 ws) (hn1 : n1 ≤ 1048576) (hl2 : ps.length = n2) (hr2 : RdI .i64 w w.heap.size A2 ps) (hn2 : n2 ≤ 1048576 ∧ n2 ≤ c2) :
    Calls Tryd.prog 57 #[.slice A1 n1 c1, .int .i64 long, .slice A2 n2 c2] w fun e w' => e = .returned (.int .i64 (strandsMany ws long ps)) ∧ Below w.heap.size w w' := by
  have HL1 := Lib.hid hl1
  have HL2 := Lib.hid hl2
  obtain ⟨hn2, hcap⟩ := hn2
  clear hl1 hl2
  cases h1 : strandsOk ws long ps
  · go_enter Tryd.func57, Tryd.ntmps57
    go_wp2_with (fail)
    refine (specStrands_any _ _ _ ws long _ _ _ ps _ HL1.out hr1 (by omega) HL2.out hr2 (by omega)).mono ?_
    rintro e w1 ⟨rfl, rfl⟩
    go_wp2
    go_ret
    exact ⟨ret_int (strandsMany_no h1).symm, Below.refl _ _⟩
  have H1 := Lib.hid h1
  have hn8 : n2 ≤ 8 := by
    have := strandsOk_facts h1
    have := (wantsOk_len this.1).1
    have := HL2.out; omega
  go_enter Tryd.func57, Tryd.ntmps57
  go_wp2_with (fail)
  refine (specStrands_any _ _ _ ws long _ _ _ ps _ HL1.out hr1 (by omega) HL2.out hr2 (by omega)).mono ?_
  rintro e w1 ⟨rfl, rfl⟩
  go_wp2
  clear h1 hr1
  go_loopw [7, 8] (fun m i wr => ∃ k : Nat, k ≤ n2 ∧ i = .int .i64 k ∧ m = .int .i64 (manyTo ps k) ∧ Below w.heap.size w wr) (fun _ i _ => n2 - (intOf i).toNat)
  case atStart => exact ⟨0, Nat.zero_le _, rfl, rfl, Below.refl _ _⟩
  case round =>
    obtain ⟨k, hk, rfl, rfl, hbel⟩ := hrel
    have hsz := hbel.size
    obtain ⟨z0, z1⟩ := manyTo_bounds ps k
    by_cases hlt : k < n2
    · obtain ⟨p, hp⟩ : ∃ p, ps[k]? = some p := ⟨_, List.getElem?_eq_getElem (by rw [HL2.out]; omega)⟩
      have hr := hr2.up hbel hsz
      have hrt := hr.take k
      have HRT := Lib.hid hrt
      obtain ⟨b2, off2, rfl, hbB2, hc2⟩ := hr k p hp
      have HP := Lib.hid hp
      clear hp hr hrt hr2
      have i0 : (0 : Int) ≤ (k : Int) := by omega
      cases g1 : hasI (ps.take k) p
      · have HH := Lib.hid (manyTo_new HP.out g1)
        generalize manyTo ps k = q at *
        go_wp2_with (fail)
        go_quiet ((go_at_call 85; exact Calls.quiet_of_same ((has_any _ _ _ (ps.take k) p _ (take_len HL2.out (by omega)) (RdI.drewN HRT.out _) (by omega)).mono fun e w' h => ⟨h.1, h.2.symm⟩)))
        go_wp2
        go_roundw
        case rel => exact ⟨k + 1, by omega, by go_num, by rw [HH.out], (by repeat' (first | exact Below.refl _ _ | assumption | refine Below.alloc ?_ (by first | omega | (simp; done) | (simp; omega)) _ | refine Below.setCell ?_ (by first | omega | (simp; done) | (simp; omega)) _ | refine Below.drew ?_ | refine below_drawn ?_ _))⟩
        case measure => simp [intOf] <;> omega
      · have HH := Lib.hid (manyTo_old HP.out g1)
        generalize manyTo ps k = q at *
        go_wp2_with (fail)
        go_quiet ((go_at_call 85; exact Calls.quiet_of_same ((has_any _ _ _ (ps.take k) p _ (take_len HL2.out (by omega)) (RdI.drewN HRT.out _) (by omega)).mono fun e w' h => ⟨h.1, h.2.symm⟩)))
        go_wp2
        go_roundw
        case rel => exact ⟨k + 1, by omega, by go_num, by rw [HH.out], (by repeat' (first | exact Below.refl _ _ | assumption | refine Below.alloc ?_ (by first | omega | (simp; done) | (simp; omega)) _ | refine Below.setCell ?_ (by first | omega | (simp; done) | (simp; omega)) _ | refine Below.drew ?_ | refine below_drawn ?_ _))⟩
        case measure => simp [intOf] <;> omega
    · go_wp2
      go_ret
      obtain rfl : k = n2 := by omega
      exact ⟨ret_int (by rw [strandsMany_ok H1.out, HL2.out]), hbel⟩
end Go.Proofs.YtcegmlogjbnoeaaDoor
