/- 'CutLeast': both walks. -/
import Derived.Test.YtcegmlogjbnoeaaDoorTabSpec
import Derived.Test.YtcegmlogjbnoeaaDoorTabImpl
namespace Go.Proofs.YtcegmlogjbnoeaaDoor
open Go.RowKit
set_option linter.unusedVariables false

set_option maxRecDepth 100000 in
set_option maxHeartbeats 2000000 in
theorem implCutLeast_any (long : Int) (A : Option Addr) (n c : Nat) (ls : List Int) (w : World) (hl : ls.length = n) (hr : RdI .i64 w w.heap.size A ls) (hn : n ≤ 1048576) :
    Calls Tryd.prog 25 #[.int .i64 long, .slice A n c] w fun e w' => e = .returned (.int .i64 (cutLeast long ls)) ∧ Below w.heap.size w w' := by
  cases h1 : inB long 0 60
  · go_enter Tryd.func25, Tryd.ntmps25
    go_wp2_with (first | (go_at_call 72; refine (within_any _ _ _ _).mono ?_; rintro e w' ⟨rfl, rfl⟩) | (go_at_call 27; refine (implLengths_any _ _ _ ls _ hl hr (by omega)).mono ?_; rintro e w' ⟨rfl, rfl⟩) | (go_at_call 73; fail))
    go_ret
    exact ⟨ret_int (cutLeast_1 h1).symm, Below.refl _ _⟩
  cases h2 : lengthsOk ls
  · go_enter Tryd.func25, Tryd.ntmps25
    go_wp2_with (first | (go_at_call 72; refine (within_any _ _ _ _).mono ?_; rintro e w' ⟨rfl, rfl⟩) | (go_at_call 27; refine (implLengths_any _ _ _ ls _ hl hr (by omega)).mono ?_; rintro e w' ⟨rfl, rfl⟩) | (go_at_call 73; fail))
    go_ret
    exact ⟨ret_int (cutLeast_2 h2).symm, Below.refl _ _⟩
  have HL := Lib.hid hl
  have H2 := Lib.hid h2
  obtain ⟨L0, L1⟩ := inB_iff.1 h1
  obtain ⟨N, rfl⟩ : ∃ N : Nat, long = (N : Int) := ⟨long.toNat, by omega⟩
  have H1 := Lib.hid h1
  clear hl
  go_enter Tryd.func25, Tryd.ntmps25
  go_wp2_with (first | (go_at_call 72; refine (within_any _ _ _ _).mono ?_; rintro e w' ⟨rfl, rfl⟩) | (go_at_call 27; refine (implLengths_any _ _ _ ls _ HL.out hr (by omega)).mono ?_; rintro e w' ⟨rfl, rfl⟩) | (go_at_call 73; fail))
  refine (implTable_any N _ _ _ ls _ HL.out hr (by omega) H2.out).mono ?_
  rintro e w3 hrow
  obtain ⟨A', c', rfl, ho, hb3⟩ := hrow.at_ (table_length ls (N + 1))
  obtain ⟨v, hv⟩ : ∃ v, (table ls (N + 1))[N]? = some v := ⟨_, List.getElem?_eq_getElem (by rw [table_length]; omega)⟩
  obtain ⟨b, off, rfl, hbB, hc1⟩ := RdI.of_own ho N v hv
  have HV := Lib.hid hv
  clear hv h1 h2
  go_wp2
  go_ret
  exact ⟨ret_int (cutLeast_3 H1.out H2.out HV.out).symm, hb3⟩

set_option maxRecDepth 100000 in
set_option maxHeartbeats 2000000 in
theorem specCutLeast_any (long : Int) (A : Option Addr) (n c : Nat) (ls : List Int) (w : World) (hl : ls.length = n) (hr : RdI .i64 w w.heap.size A ls) (hn : n ≤ 1048576) :
    Calls Tryd.prog 36 #[.int .i64 long, .slice A n c] w fun e w' => e = .returned (.int .i64 (cutLeast long ls)) ∧ Below w.heap.size w w' := by
  cases h2 : lengthsOk ls
  · go_enter Tryd.func36, Tryd.ntmps36
    go_wp2_with (fail)
    refine (specLengths_any _ _ _ ls _ hl hr (by omega)).mono ?_
    rintro e w1 ⟨rfl, t1⟩
    go_wp2
    go_ret
    exact ⟨ret_int (cutLeast_2 h2).symm, t1⟩
  cases h1 : inB long 0 60
  · go_enter Tryd.func36, Tryd.ntmps36
    go_wp2_with (fail)
    refine (specLengths_any _ _ _ ls _ hl hr (by omega)).mono ?_
    rintro e w1 ⟨rfl, t1⟩
    go_wp2_with (go_at_call 75; refine (in_any _ _ _ _).mono ?_; rintro e w' ⟨rfl, rfl⟩)
    go_ret
    exact ⟨ret_int (cutLeast_1 h1).symm, t1⟩
  have HL := Lib.hid hl
  have H2 := Lib.hid h2
  obtain ⟨L0, L1⟩ := inB_iff.1 h1
  obtain ⟨N, rfl⟩ : ∃ N : Nat, long = (N : Int) := ⟨long.toNat, by omega⟩
  have H1 := Lib.hid h1
  clear hl
  go_enter Tryd.func36, Tryd.ntmps36
  go_wp2_with (fail)
  refine (specLengths_any _ _ _ ls _ HL.out hr (by omega)).mono ?_
  rintro e w1 ⟨rfl, t1⟩
  go_wp2_with (first | (go_at_call 75; refine (in_any _ _ _ _).mono ?_; rintro e w' ⟨rfl, rfl⟩) | (go_at_call 79; fail))
  refine (specTable_any N _ _ _ ls _ HL.out (hr.up t1 t1.size) (by omega) H2.out).mono ?_
  rintro e w3 hrow
  obtain ⟨A', c', rfl, ho, hb3⟩ := hrow.at_ (table_length ls (N + 1))
  obtain ⟨v, hv⟩ : ∃ v, (table ls (N + 1))[N]? = some v := ⟨_, List.getElem?_eq_getElem (by rw [table_length]; omega)⟩
  obtain ⟨b, off, rfl, hbB, hc1⟩ := RdI.of_own ho N v hv
  have HV := Lib.hid hv
  clear hv h1 h2
  go_wp2
  go_ret
  exact ⟨ret_int (cutLeast_3 H1.out H2.out HV.out).symm, (below_next t1 hb3)⟩
end Go.Proofs.YtcegmlogjbnoeaaDoor
