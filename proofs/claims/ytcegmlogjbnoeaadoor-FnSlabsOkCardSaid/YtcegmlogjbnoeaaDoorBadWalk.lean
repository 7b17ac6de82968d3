/- Bad stretches: when they are valid, and the walks of the two functions that say so. -/
import Derived.Test.YtcegmlogjbnoeaaDoorBadPlain
import Derived.Test.YtcegmlogjbnoeaaDoorCutPlain
import Derived.Test.YtcegmlogjbnoeaaDoorCopy
import Derived.Deep.QuietTactic
import Derived.BigQuiet
namespace Go.Proofs.YtcegmlogjbnoeaaDoor
open Go.RowKit
set_option linter.unusedVariables false
set_option maxHeartbeats 4000000 in
theorem implBad_any (long : Int) (A : Option Addr) (n c : Nat) (ys : List (Int × Int)) (w : World) (hl : ys.length = n) (hr : RdP w w.heap.size A ys) (hn : n ≤ 1048576) :
    Calls Tryd.prog 30 #[.int .i64 long, .slice A n c] w fun e w' => e = .returned (.bool (badOk long ys)) ∧ Below w.heap.size w w' := by
  cases h1 : inB long 0 60
  · go_enter Tryd.func30, Tryd.ntmps30
    go_wp2_with (go_at_call 72; refine (within_any _ _ _ _).mono ?_; rintro e w' ⟨rfl, rfl⟩)
    go_ret
    exact ⟨ret_bool (badOk_no h1).symm, Below.refl _ _⟩
  · by_cases h4 : (4 : Int) < n
    · have hd : decide ((4 : Int) < (n : Int)) = true := by simpa using h4
      go_enter Tryd.func30, Tryd.ntmps30
      go_wp2_with (go_at_call 72; refine (within_any _ _ _ _).mono ?_; rintro e w' ⟨rfl, rfl⟩)
      go_ret
      exact ⟨ret_bool (badOk_many (by omega)).symm, Below.refl _ _⟩
    · have HL := Lib.hid hl
      have hd : decide ((4 : Int) < (n : Int)) = false := by simpa using h4
      obtain ⟨L0, L1⟩ := inB_iff.1 h1
      clear hl
      go_enter Tryd.func30, Tryd.ntmps30
      go_wp2_with (go_at_call 72; refine (within_any _ _ _ _).mono ?_; rintro e w' ⟨rfl, rfl⟩)
      have H1 := Lib.hid h1
      clear h1 hd
      go_loopw [5, 18] (fun t i wr => ∃ (k : Nat) (bf : Int), k ≤ n ∧ i = .int .i64 k ∧ t = .int .i64 bf ∧ 0 ≤ bf ∧ bf ≤ 61 ∧ lowAt ys k = bf ∧ (List.range k).all (badAt long ys) = true ∧ Below w.heap.size w wr) (fun _ i _ => n - (intOf i).toNat)
      case atStart => exact ⟨0, 0, Nat.zero_le _, rfl, rfl, by omega, by omega, rfl, rfl, Below.refl _ _⟩
      case round =>
        obtain ⟨k, bf, hk, rfl, rfl, b0, b1, hp, hall, hbel⟩ := hrel
        have HA := Lib.hid hall
        have HP := Lib.hid hp
        have hsz := hbel.size
        clear hall hp
        by_cases hlt : k < n
        · obtain ⟨⟨x, y⟩, hxy⟩ : ∃ q, ys[k]? = some q := ⟨_, List.getElem?_eq_getElem (by have := HL.out; omega)⟩
          obtain ⟨b, off, rfl, hbB, hc1, hc2⟩ := hr k x y hxy
          rw [← hbel.cell (by exact hbB)] at hc1 hc2
          have HXY := Lib.hid hxy
          have HE : Hid (badAt long ys k = (inB x bf (long - 1) && inB y (x + 1) long)) := Lib.hid (by rw [badAt_eq hxy, HP.out])
          have hkx : k < ys.length := by have := HL.out; omega
          clear hxy hr
          cases h2 : inB x bf (long - 1)
          · go_wp2_with (go_at_call 72; refine (within_any _ _ _ _).mono ?_; rintro e w' ⟨rfl, rfl⟩)
            go_ret
            exact ⟨ret_bool (badOk_bad hkx (by rw [HE.out, h2]; rfl)).symm, (by repeat' (first | exact Below.refl _ _ | assumption | refine Below.alloc ?_ (by first | omega | (simp; done) | (simp; omega)) _ | refine Below.setCell ?_ (by first | omega | (simp; done) | (simp; omega)) _ | refine Below.drew ?_ | refine below_drawn ?_ _))⟩
          · obtain ⟨x0, x1⟩ := inB_iff.1 h2
            cases h3 : inB y (x + 1) long
            · go_wp2_with (go_at_call 72; refine (within_any _ _ _ _).mono ?_; rintro e w' ⟨rfl, rfl⟩)
              go_ret
              exact ⟨ret_bool (badOk_bad hkx (by rw [HE.out, h2, h3]; rfl)).symm, (by repeat' (first | exact Below.refl _ _ | assumption | refine Below.alloc ?_ (by first | omega | (simp; done) | (simp; omega)) _ | refine Below.setCell ?_ (by first | omega | (simp; done) | (simp; omega)) _ | refine Below.drew ?_ | refine below_drawn ?_ _))⟩
            · obtain ⟨y0, y1⟩ := inB_iff.1 h3
              go_wp2_with (go_at_call 72; refine (within_any _ _ _ _).mono ?_; rintro e w' ⟨rfl, rfl⟩)
              go_roundw
              case rel => exact ⟨k + 1, y + 1, by omega, by go_num, rfl, by omega, by omega, lowAt_succ HXY.out, allR_succ HA.out (by rw [HE.out, h2, h3]; rfl), (by repeat' (first | exact Below.refl _ _ | assumption | refine Below.alloc ?_ (by first | omega | (simp; done) | (simp; omega)) _ | refine Below.setCell ?_ (by first | omega | (simp; done) | (simp; omega)) _ | refine Below.drew ?_ | refine below_drawn ?_ _))⟩
              case measure => simp [intOf]; omega
        · go_wp2
          go_ret
          have : k = n := by omega
          subst this
          exact ⟨ret_bool (badOk_mk H1.out (by have := HL.out; omega) (by rw [HL.out]; exact HA.out)).symm, hbel⟩
set_option maxRecDepth 100000 in
set_option maxHeartbeats 8000000 in
theorem specBad_any (long : Int) (A : Option Addr) (n c : Nat) (ys : List (Int × Int)) (w : World) (hl : ys.length = n) (hr : RdP w w.heap.size A ys) (hn : n ≤ 1048576) :
    Calls Tryd.prog 31 #[.int .i64 long, .slice A n c] w fun e w' => e = .returned (.bool (badOk long ys)) ∧ Below w.heap.size w w' := by
  have HL := Lib.hid hl
  clear hl
  obtain ⟨L1, hL1⟩ : ∃ L1, IntKind.i64.wrap (long - 1) = L1 := ⟨_, rfl⟩
  have HL1 := Lib.hid hL1
  clear hL1
  have HV : Hid (inB long 0 60 = true → L1 = long - 1) := Lib.hid (fun h => by have := inB_iff.1 h; rw [← HL1.out, IntWalk.i64_in _ (by omega)])
  go_enter Tryd.func31, Tryd.ntmps31
  go_wp2
  go_loopw [5] (fun i wr => ∃ k : Nat, k ≤ n ∧ i = .int .i64 k ∧ Hid (inB long 0 60 = true → (List.range k).all (badAt long ys) = true) ∧ Below w.heap.size w wr) (fun i _ => n - (intOf i).toNat)
  case atStart => exact ⟨0, Nat.zero_le _, rfl, Lib.hid (fun _ => rfl), Below.refl _ _⟩
  case round =>
    obtain ⟨k, hk, rfl, HA, hbel⟩ := hrel
    by_cases hlt : k < n
    · obtain ⟨⟨x, y⟩, hxy⟩ : ∃ q, ys[k]? = some q := ⟨_, List.getElem?_eq_getElem (by have := HL.out; omega)⟩
      obtain ⟨b, off, rfl, hbB, hc1, hc2⟩ := hr k x y hxy
      rw [← hbel.cell (by exact hbB)] at hc1 hc2
      have HE := Lib.hid (badAt_eq (long := long) hxy)
      have HXY := Lib.hid hxy
      have hkx : k < ys.length := by have := HL.out; omega
      clear hxy
      obtain ⟨X1, hX1⟩ : ∃ X1, IntKind.i64.wrap (x + 1) = X1 := ⟨_, rfl⟩
      have HX1 := Lib.hid hX1
      clear hX1
      have HXV : Hid (inB long 0 60 = true → inB x 0 L1 = true → X1 = x + 1) := Lib.hid (fun h h' => by
        have h1 := inB_iff.1 h
        have h2 := inB_iff.1 h'
        have := HV.out h
        rw [← HX1.out, IntWalk.i64_in _ (by omega)])
      rcases k with _ | m
      · clear hr
        simp only [Nat.zero_mul, Nat.add_zero] at hc1 hc2
        simp only [show ((0 : Nat) : Int) = 0 from rfl]
        have V1 := HL1.out
        have V2 := HX1.out
        cases s1 : inB x 0 L1
        · go_wp2_with (fail)
          go_quiet ((go_at_call 75; exact Calls.quiet_of_same ((in_any _ _ _ _).mono fun e w' h => ⟨h.1, h.2.symm⟩)))
          clear V1 V2
          go_wp2
          go_ret
          exact ⟨ret_bool (bad_first HV.out HXV.out HE.out hkx (.inl s1)).symm, (by repeat' (first | exact Below.refl _ _ | assumption | refine Below.alloc ?_ (by first | omega | (simp; done) | (simp; omega)) _ | refine Below.setCell ?_ (by first | omega | (simp; done) | (simp; omega)) _ | refine Below.drew ?_ | refine below_drawn ?_ _))⟩
        · cases s2 : inB y X1 long
          · go_wp2_with (fail)
            go_quiet ((go_at_call 75; exact Calls.quiet_of_same ((in_any _ _ _ _).mono fun e w' h => ⟨h.1, h.2.symm⟩)))
            clear V1 V2
            go_wp2
            go_ret
            exact ⟨ret_bool (bad_first HV.out HXV.out HE.out hkx (.inr ⟨s1, s2⟩)).symm, (by repeat' (first | exact Below.refl _ _ | assumption | refine Below.alloc ?_ (by first | omega | (simp; done) | (simp; omega)) _ | refine Below.setCell ?_ (by first | omega | (simp; done) | (simp; omega)) _ | refine Below.drew ?_ | refine below_drawn ?_ _))⟩
          · go_wp2_with (fail)
            go_quiet ((go_at_call 75; exact Calls.quiet_of_same ((in_any _ _ _ _).mono fun e w' h => ⟨h.1, h.2.symm⟩)))
            clear V1 V2
            go_wp2
            go_roundw
            case rel => exact ⟨1, by omega, by go_num, Lib.hid (fun h => allR_succ (k := 0) rfl (by rw [HE.out]; show (inB x 0 (long - 1) && inB y (x + 1) long) = true; rw [← HV.out h, ← HXV.out h s1, s1, s2]; rfl)), (by repeat' (first | exact Below.refl _ _ | assumption | refine Below.alloc ?_ (by first | omega | (simp; done) | (simp; omega)) _ | refine Below.setCell ?_ (by first | omega | (simp; done) | (simp; omega)) _ | refine Below.drew ?_ | refine below_drawn ?_ _))⟩
            case measure => simp [intOf]; omega
      · obtain ⟨⟨u, v⟩, hlk⟩ : ∃ q, ys[m]? = some q := ⟨_, List.getElem?_eq_getElem (by have := HL.out; omega)⟩
        obtain ⟨b3, off3, e3, hb3, hd1, hd2⟩ := hr m u v hlk
        injection e3 with e3
        injection e3 with e3 e4 _
        subst e3 e4
        rw [← hbel.cell (by exact hb3)] at hd1 hd2
        have HP := Lib.hid (lowAt_succ hlk)
        have HU := Lib.hid (badAt_eq (long := long) hlk)
        have HPR : Hid (inB long 0 60 = true → 0 ≤ u ∧ u < v ∧ v ≤ 60) := Lib.hid (fun h => bad_prev h (allR_at (HA.out h)) hlk)
        clear hlk hb3 hr
        have V1 := HL1.out
        have V2 := HX1.out
        have V3 : IntKind.i64.wrap ((m : Int) + 1 - 1) = (m : Int) := by rw [IntWalk.i64_in _ (by omega)]; omega
        cases s1 : inB x 0 L1
        · go_wp2_with (fail)
          go_quiet ((go_at_call 75; exact Calls.quiet_of_same ((in_any _ _ _ _).mono fun e w' h => ⟨h.1, h.2.symm⟩)))
          clear V1 V2 V3
          go_wp2
          go_ret
          exact ⟨ret_bool (bad_next HV.out HXV.out HE.out HP.out HPR.out hkx (.inl s1)).symm, (by repeat' (first | exact Below.refl _ _ | assumption | refine Below.alloc ?_ (by first | omega | (simp; done) | (simp; omega)) _ | refine Below.setCell ?_ (by first | omega | (simp; done) | (simp; omega)) _ | refine Below.drew ?_ | refine below_drawn ?_ _))⟩
        · cases s2 : inB y X1 long
          · go_wp2_with (fail)
            go_quiet ((go_at_call 75; exact Calls.quiet_of_same ((in_any _ _ _ _).mono fun e w' h => ⟨h.1, h.2.symm⟩)))
            clear V1 V2 V3
            go_wp2
            go_ret
            exact ⟨ret_bool (bad_next HV.out HXV.out HE.out HP.out HPR.out hkx (.inr (.inl ⟨s1, s2⟩))).symm, (by repeat' (first | exact Below.refl _ _ | assumption | refine Below.alloc ?_ (by first | omega | (simp; done) | (simp; omega)) _ | refine Below.setCell ?_ (by first | omega | (simp; done) | (simp; omega)) _ | refine Below.drew ?_ | refine below_drawn ?_ _))⟩
          · by_cases s3 : x ≤ v
            · go_wp2_with (fail)
              go_quiet ((go_at_call 75; exact Calls.quiet_of_same ((in_any _ _ _ _).mono fun e w' h => ⟨h.1, h.2.symm⟩)))
              clear V1 V2 V3
              go_wp2
              go_ret
              exact ⟨ret_bool (bad_next HV.out HXV.out HE.out HP.out HPR.out hkx (.inr (.inr s3))).symm, (by repeat' (first | exact Below.refl _ _ | assumption | refine Below.alloc ?_ (by first | omega | (simp; done) | (simp; omega)) _ | refine Below.setCell ?_ (by first | omega | (simp; done) | (simp; omega)) _ | refine Below.drew ?_ | refine below_drawn ?_ _))⟩
            · go_wp2_with (fail)
              go_quiet ((go_at_call 75; exact Calls.quiet_of_same ((in_any _ _ _ _).mono fun e w' h => ⟨h.1, h.2.symm⟩)))
              clear V1 V2 V3
              go_wp2
              go_roundw
              case rel => exact ⟨m + 2, by omega, by go_num, Lib.hid (fun h => allR_succ (k := m + 1) (HA.out h) (by rw [HE.out, HP.out, ← HXV.out h s1, s2, ← HV.out h, inB_true (show v + 1 ≤ x by omega) (inB_iff.1 s1).2]; rfl)), (by repeat' (first | exact Below.refl _ _ | assumption | refine Below.alloc ?_ (by first | omega | (simp; done) | (simp; omega)) _ | refine Below.setCell ?_ (by first | omega | (simp; done) | (simp; omega)) _ | refine Below.drew ?_ | refine below_drawn ?_ _))⟩
              case measure => simp [intOf]; omega
    · have : k = n := by omega
      subst this
      cases h1 : inB long 0 60
      · go_wp2_with (go_at_call 75; refine (in_any _ _ _ _).mono ?_; rintro e w' ⟨rfl, rfl⟩)
        go_ret
        exact ⟨ret_bool (badOk_no h1).symm, hbel⟩
      · by_cases h4 : (k : Int) ≤ 4
        · go_wp2_with (go_at_call 75; refine (in_any _ _ _ _).mono ?_; rintro e w' ⟨rfl, rfl⟩)
          go_ret
          exact ⟨ret_bool (by rw [badOk_mk h1 (by have := HL.out; omega) (by rw [HL.out]; exact HA.out h1)]), hbel⟩
        · go_wp2_with (go_at_call 75; refine (in_any _ _ _ _).mono ?_; rintro e w' ⟨rfl, rfl⟩)
          go_ret
          exact ⟨ret_bool (by rw [badOk_many (by have := HL.out; omega)]; simp; omega), hbel⟩
end Go.Proofs.YtcegmlogjbnoeaaDoor
