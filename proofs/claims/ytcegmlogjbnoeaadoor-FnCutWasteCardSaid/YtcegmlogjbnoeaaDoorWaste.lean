/- What 'CutWaste' returns: both walks. -/
import Derived.Test.YtcegmlogjbnoeaaDoorLenWalk
import Derived.Test.YtcegmlogjbnoeaaDoorWastePlain
namespace Go.Proofs.YtcegmlogjbnoeaaDoor
open Go.RowKit
set_option linter.unusedVariables false
set_option maxRecDepth 100000 in
set_option maxHeartbeats 4000000 in
theorem implWaste_any (long : Int) (A : Option Addr) (n c : Nat) (ls : List Int) (A2 : Option Addr) (n2 c2 : Nat) (ms : List Int) (w : World) (hl : ls.length = n) (hr : RdI .i64 w w.heap.size A ls) (hn : n ≤ 1048576) (hl2 : ms.length = n2) (hr2 : RdI .i64 w w.heap.size A2 ms) (hn2 : n2 ≤ 1048576) :
    Calls Tryd.prog 42 #[.int .i64 long, .slice A n c, .slice A2 n2 c2] w fun e w' => e = .returned (.int .i64 (cutWaste long ls ms)) ∧ w = w' := by
  cases h1 : inB long 0 60
  · go_enter Tryd.func42, Tryd.ntmps42
    go_wp2_with (go_at_call 72; refine (within_any _ _ _ _).mono ?_; rintro e w' ⟨rfl, rfl⟩)
    go_ret
    exact ⟨ret_int (cutWaste_1 h1).symm, rfl⟩
  cases h2 : lengthsOk ls
  · go_enter Tryd.func42, Tryd.ntmps42
    go_wp2_with (first | (go_at_call 72; refine (within_any _ _ _ _).mono ?_; rintro e w' ⟨rfl, rfl⟩) | (go_at_call 27; refine (implLengths_any _ _ _ ls _ hl hr (by omega)).mono ?_; rintro e w' ⟨rfl, rfl⟩))
    go_ret
    exact ⟨ret_int (cutWaste_2 h2).symm, rfl⟩
  by_cases h3 : n2 = n
  · subst h3
    have HL := Lib.hid hl
    have HL2 := Lib.hid hl2
    have H2 := Lib.hid h2
    obtain ⟨L0, L1⟩ := inB_iff.1 h1
    have hn4 : n2 ≤ 4 := by have := (lengthsOk_len h2).2; omega
    clear hl2
    go_enter Tryd.func42, Tryd.ntmps42
    go_wp2_with (first | (go_at_call 72; refine (within_any _ _ _ _).mono ?_; rintro e w' ⟨rfl, rfl⟩) | (go_at_call 27; refine (implLengths_any _ _ _ ls _ HL.out hr (by omega)).mono ?_; rintro e w' ⟨rfl, rfl⟩))
    have H1 := Lib.hid h1
    clear h1 h2 hl
    go_loop [7, 28] (fun t i => ∃ (k : Nat) (v : Int), k ≤ n2 ∧ i = .int .i64 k ∧ t = .int .i64 v ∧ v ≤ long ∧ -4000 * (k : Int) ≤ v ∧ CwRel long ls ms k v) (fun _ i => n2 - (intOf i).toNat)
    case atStart => exact ⟨0, long, Nat.zero_le _, rfl, rfl, by omega, by omega, .inl ⟨by omega, rfl⟩⟩
    case round =>
      obtain ⟨k, v, hk, rfl, rfl, v0, v1, hc⟩ := hrel
      have HC := Lib.hid hc
      clear hc
      by_cases hlt : k < n2
      · obtain ⟨l, hlk⟩ : ∃ q, ls[k]? = some q := ⟨_, List.getElem?_eq_getElem (by have := HL.out; omega)⟩
        obtain ⟨m, hmk⟩ : ∃ q, ms[k]? = some q := ⟨_, List.getElem?_eq_getElem (by have := HL2.out; omega)⟩
        obtain ⟨b, off, rfl, hbB, hc1⟩ := hr k l hlk
        obtain ⟨b', off', rfl, hbB', hd1⟩ := hr2 k m hmk
        obtain ⟨l0, l1⟩ := lengthsOk_get H2.out hlk
        have HLK := Lib.hid hlk
        have HMK := Lib.hid hmk
        clear hlk hmk hr hr2
        cases s1 : inB m 0 long
        · go_wp2_with (go_at_call 72; refine (within_any _ _ _ _).mono ?_; rintro e w' ⟨rfl, rfl⟩)
          go_ret
          exact ⟨ret_int (by rw [cutWaste_4 H1.out H2.out (HL2.out.trans HL.out.symm), HC.out.bad HLK.out HMK.out v0 l0 s1]), rfl⟩
        · obtain ⟨m0, m1⟩ := inB_iff.1 s1
          obtain ⟨p0, p1⟩ := mul_bounds m0 (by omega) l0 l1
          go_wp2_with (go_at_call 72; refine (within_any _ _ _ _).mono ?_; rintro e w' ⟨rfl, rfl⟩)
          go_round
          case rel => exact ⟨k + 1, v - m * l, by omega, by go_num, rfl, by omega, by omega, HC.out.next HLK.out HMK.out m0 l0⟩
          case measure => simp [intOf]; omega
      · have HE := Lib.hid (HC.out.fin (by have := HL2.out; omega))
        by_cases s1 : v < -1
        · go_wp2
          go_ret
          exact ⟨ret_int (by rw [cutWaste_4 H1.out H2.out (HL2.out.trans HL.out.symm), ← HE.out, if_pos s1]), rfl⟩
        · go_wp2
          go_ret
          exact ⟨ret_int (by rw [cutWaste_4 H1.out H2.out (HL2.out.trans HL.out.symm), ← HE.out, if_neg (by omega)]), rfl⟩
  · have hne : decide (n2 = n) = false := by simpa using h3
    have HNE : Hid (ms.length ≠ ls.length) := Lib.hid (by rw [hl, hl2]; exact h3)
    go_enter Tryd.func42, Tryd.ntmps42
    go_wp2_with (first | (go_at_call 72; refine (within_any _ _ _ _).mono ?_; rintro e w' ⟨rfl, rfl⟩) | (go_at_call 27; refine (implLengths_any _ _ _ ls _ hl hr (by omega)).mono ?_; rintro e w' ⟨rfl, rfl⟩))
    go_ret
    exact ⟨ret_int (cutWaste_3 HNE.out).symm, rfl⟩

theorem quo_le {left l m : Int} (h0 : 0 ≤ left) (h1 : 1 ≤ l) : inB m 0 (left / l) = decide (0 ≤ m ∧ m * l ≤ left) := by
  have : (m ≤ left / l) ↔ m * l ≤ left := Int.le_ediv_iff_mul_le (by omega)
  simp [inB, this]
theorem div_bounds {left l : Int} (h0 : 0 ≤ left) (h1 : 1 ≤ l) : 0 ≤ left / l ∧ left / l ≤ left := ⟨Int.ediv_nonneg h0 (by omega), Int.ediv_le_self _ h0⟩
set_option maxRecDepth 100000 in
set_option maxHeartbeats 4000000 in
theorem specWaste_any (long : Int) (A : Option Addr) (n c : Nat) (ls : List Int) (A2 : Option Addr) (n2 c2 : Nat) (ms : List Int) (w : World) (hl : ls.length = n) (hr : RdI .i64 w w.heap.size A ls) (hn : n ≤ 1048576) (hl2 : ms.length = n2) (hr2 : RdI .i64 w w.heap.size A2 ms) (hn2 : n2 ≤ 1048576) :
    Calls Tryd.prog 43 #[.int .i64 long, .slice A n c, .slice A2 n2 c2] w fun e w' => e = .returned (.int .i64 (cutWaste long ls ms)) ∧ Below w.heap.size w w' := by
  cases h2 : lengthsOk ls
  · go_enter Tryd.func43, Tryd.ntmps43
    go_wp2_with (fail)
    refine (specLengths_any _ _ _ ls _ hl hr (by omega)).mono ?_
    rintro e w1 ⟨rfl, t1⟩
    go_wp2
    go_ret
    exact ⟨ret_int (cutWaste_2 h2).symm, t1⟩
  cases h1 : inB long 0 60
  · go_enter Tryd.func43, Tryd.ntmps43
    go_wp2_with (fail)
    refine (specLengths_any _ _ _ ls _ hl hr (by omega)).mono ?_
    rintro e w1 ⟨rfl, t1⟩
    go_wp2_with (go_at_call 75; refine (in_any _ _ _ _).mono ?_; rintro e w' ⟨rfl, rfl⟩)
    go_ret
    exact ⟨ret_int (cutWaste_1 h1).symm, t1⟩
  by_cases h3 : n2 = n
  · subst h3
    have HL := Lib.hid hl
    have HL2 := Lib.hid hl2
    have H2 := Lib.hid h2
    obtain ⟨L0, L1⟩ := inB_iff.1 h1
    have hn4 : n2 ≤ 4 := by have := (lengthsOk_len h2).2; omega
    clear hl2
    go_enter Tryd.func43, Tryd.ntmps43
    go_wp2_with (fail)
    refine (specLengths_any _ _ _ ls _ HL.out hr (by omega)).mono ?_
    rintro e w1 ⟨rfl, t1⟩
    have hr' := hr.up t1 (Nat.le_refl _)
    have hr2' := hr2.up t1 (Nat.le_refl _)
    go_wp2_with (go_at_call 75; refine (in_any _ _ _ _).mono ?_; rintro e w' ⟨rfl, rfl⟩)
    have H1 := Lib.hid h1
    clear h1 h2 hl hr hr2
    go_loopw [7, 8] (fun t i wr => ∃ (k : Nat) (v : Int), k ≤ n2 ∧ i = .int .i64 k ∧ t = .int .i64 v ∧ 0 ≤ v ∧ v ≤ long ∧ Hid (cwGo v (ls.drop k) (ms.drop k) = cwGo long ls ms) ∧ Below w1.heap.size w1 wr) (fun _ i _ => n2 - (intOf i).toNat)
    case atStart => exact ⟨0, long, Nat.zero_le _, rfl, rfl, by omega, by omega, Lib.hid rfl, Below.refl _ _⟩
    case round =>
      obtain ⟨k, v, hk, rfl, rfl, v0, v1, HC, hbel⟩ := hrel
      have t2 := below_next t1 hbel
      have hs1 := t1.size
      by_cases hlt : k < n2
      · obtain ⟨l, hlk⟩ : ∃ q, ls[k]? = some q := ⟨_, List.getElem?_eq_getElem (by have := HL.out; omega)⟩
        obtain ⟨m, hmk⟩ : ∃ q, ms[k]? = some q := ⟨_, List.getElem?_eq_getElem (by have := HL2.out; omega)⟩
        obtain ⟨b, off, rfl, hbB, hc1⟩ := hr' k l hlk
        obtain ⟨b', off', rfl, hbB', hd1⟩ := hr2' k m hmk
        obtain ⟨l0, l1⟩ := lengthsOk_get H2.out hlk
        rw [← hbel.cell (by show b < _; omega)] at hc1
        rw [← hbel.cell (by show b' < _; omega)] at hd1
        have HLK := Lib.hid hlk
        have HMK := Lib.hid hmk
        have HQ := Lib.hid (quo_le (left := v) (l := l) (m := m) v0 l0)
        obtain ⟨d0, d1⟩ := div_bounds (left := v) (l := l) v0 l0
        clear hlk hmk hr' hr2'
        have V1 : v.tdiv l = v / l := Int.tdiv_eq_ediv_of_nonneg v0
        have V2 : IntKind.i64.wrap (v / l) = v / l := IntWalk.i64_in _ (by omega)
        have hl0 : (l == 0) = false := by simp; omega
        cases s1 : inB m 0 (v / l)
        · go_wp2_with (fail)
          go_quiet ((go_at_call 75; exact Calls.quiet_of_same ((in_any _ _ _ _).mono fun e w' h => ⟨h.1, h.2.symm⟩)))
          clear V1 V2
          go_wp2
          go_ret
          exact ⟨ret_int (by rw [cutWaste_4 H1.out H2.out (HL2.out.trans HL.out.symm), ← HC.out, cwGo_stop HLK.out HMK.out (by have := HQ.out; rw [s1] at this; simpa using this.symm)]), (by repeat' (first | exact Below.refl _ _ | assumption | refine Below.alloc ?_ (by first | omega | (simp; done) | (simp; omega)) _ | refine Below.setCell ?_ (by first | omega | (simp; done) | (simp; omega)) _ | refine Below.drew ?_ | refine below_drawn ?_ _))⟩
        · have hml : 0 ≤ m ∧ m * l ≤ v := by have := HQ.out; rw [s1] at this; simpa using this.symm
          obtain ⟨m0, m1⟩ := hml
          have p0 : 0 ≤ m * l := Int.mul_nonneg m0 (by omega)
          have V3 : IntKind.i64.wrap (m * l) = m * l := IntWalk.i64_in _ (by omega)
          have V4 : IntKind.i64.wrap (v - m * l) = v - m * l := IntWalk.i64_in _ (by omega)
          go_wp2_with (fail)
          go_quiet ((go_at_call 75; exact Calls.quiet_of_same ((in_any _ _ _ _).mono fun e w' h => ⟨h.1, h.2.symm⟩)))
          clear V1 V2
          go_wp2
          go_quiet (fail)
          clear V3 V4
          go_wp2
          go_roundw
          case rel => exact ⟨k + 1, v - m * l, by omega, by go_num, rfl, by omega, by omega, Lib.hid (by rw [← cwGo_step HLK.out HMK.out ⟨m0, m1⟩, HC.out]), (by repeat' (first | exact Below.refl _ _ | assumption | refine Below.alloc ?_ (by first | omega | (simp; done) | (simp; omega)) _ | refine Below.setCell ?_ (by first | omega | (simp; done) | (simp; omega)) _ | refine Below.drew ?_ | refine below_drawn ?_ _))⟩
          case measure => simp [intOf]; omega
      · go_wp2
        go_ret
        exact ⟨ret_int (by rw [cutWaste_4 H1.out H2.out (HL2.out.trans HL.out.symm), ← HC.out, cwGo_end (by have := HL2.out; omega)]), t2⟩
  · have hne : decide (n2 = n) = false := by simpa using h3
    have HNE : Hid (ms.length ≠ ls.length) := Lib.hid (by rw [hl, hl2]; exact h3)
    go_enter Tryd.func43, Tryd.ntmps43
    go_wp2_with (fail)
    refine (specLengths_any _ _ _ ls _ hl hr (by omega)).mono ?_
    rintro e w1 ⟨rfl, t1⟩
    go_wp2_with (go_at_call 75; refine (in_any _ _ _ _).mono ?_; rintro e w' ⟨rfl, rfl⟩)
    go_ret
    exact ⟨ret_int (cutWaste_3 HNE.out).symm, t1⟩
end Go.Proofs.YtcegmlogjbnoeaaDoor
