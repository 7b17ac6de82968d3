/- 'SlabsLeast': both walks. -/
import Derived.Test.YtcegmlogjbnoeaaDoorSlabBest
import Derived.Test.YtcegmlogjbnoeaaDoorSlabWaste
namespace Go.Proofs.YtcegmlogjbnoeaaDoor
open Go.RowKit
set_option linter.unusedVariables false
theorem slabsLeast_1 {long : Int} {ys : List (Int × Int)} {ls : List Int} (h : badOk long ys = false) : slabsLeast long ys ls = -1 := slabsWaste_no (slabsOk_1 h)
theorem slabsLeast_2 {long : Int} {ys : List (Int × Int)} {ls : List Int} (h : lengthsOk ls = false) : slabsLeast long ys ls = -1 := slabsWaste_no (slabsOk_2 h)
set_option maxRecDepth 100000 in
set_option maxHeartbeats 4000000 in
theorem implSLeast_any (long : Int) (A1 : Option Addr) (n1 c1 : Nat) (ys : List (Int × Int)) (A2 : Option Addr) (n2 c2 : Nat) (ls : List Int) (w : World)
    (hl1 : ys.length = n1) (hr1 : RdP w w.heap.size A1 ys) (hn1 : n1 ≤ 1048576) (hl2 : ls.length = n2) (hr2 : RdI .i64 w w.heap.size A2 ls) (hn2 : n2 ≤ 1048576) :
    Calls Tryd.prog 22 #[.int .i64 long, .slice A1 n1 c1, .slice A2 n2 c2] w fun e w' => e = .returned (.int .i64 (slabsLeast long ys ls)) ∧ Below w.heap.size w w' := by
  have HL1 := Lib.hid hl1
  have HL2 := Lib.hid hl2
  clear hl1 hl2
  obtain ⟨G, hG⟩ : ∃ G, (slabsBest long ys ls).length = G := ⟨_, rfl⟩
  have hG5 := slabsBest_len long ys ls
  rw [hG] at hG5
  have HG := Lib.hid hG
  clear hG
  have HV : Hid (slabsLeast long ys ls = slabsWaste long ys ls (slabsBest long ys ls)) := Lib.hid rfl
  go_enter Tryd.func22, Tryd.ntmps22
  go_wp2_with (fail)
  refine (implSBest_any long _ _ _ ys _ _ _ ls _ HL1.out hr1 (by omega) HL2.out hr2 (by omega)).mono ?_
  rintro e w1 hrow
  obtain ⟨A', c', rfl, ho, t1⟩ := hrow.at_ HG.out
  go_wp2_with (fail)
  refine (implWasteOf_any long _ _ _ ys _ _ _ ls _ _ _ (slabsBest long ys ls) _ HL1.out (hr1.up t1 t1.size) (by omega) HL2.out (hr2.up t1 t1.size) (by omega) HG.out (RdP.of_own ho) (by omega)).mono ?_
  rintro e w2 ⟨rfl, hb2⟩
  have t2 := below_next t1 hb2
  go_wp2
  go_ret
  exact ⟨ret_int HV.out.symm, t2⟩
set_option maxRecDepth 100000 in
set_option maxHeartbeats 4000000 in
theorem specSLeast_any (long : Int) (A1 : Option Addr) (n1 c1 : Nat) (ys : List (Int × Int)) (A2 : Option Addr) (n2 c2 : Nat) (ls : List Int) (w : World)
    (hl1 : ys.length = n1) (hr1 : RdP w w.heap.size A1 ys) (hn1 : n1 ≤ 1048576) (hl2 : ls.length = n2) (hr2 : RdI .i64 w w.heap.size A2 ls) (hn2 : n2 ≤ 1048576) :
    Calls Tryd.prog 24 #[.int .i64 long, .slice A1 n1 c1, .slice A2 n2 c2] w fun e w' => e = .returned (.int .i64 (slabsLeast long ys ls)) ∧ Below w.heap.size w w' := by
  have HL1 := Lib.hid hl1
  have HL2 := Lib.hid hl2
  clear hl1 hl2
  cases h1 : badOk long ys
  · go_enter Tryd.func24, Tryd.ntmps24
    go_wp2_with (fail)
    refine (specBad_any long _ _ _ ys _ HL1.out hr1 (by omega)).mono ?_
    rintro e w1 ⟨rfl, t1⟩
    go_wp2
    go_ret
    exact ⟨ret_int (slabsLeast_1 h1).symm, t1⟩
  cases h2 : lengthsOk ls
  · go_enter Tryd.func24, Tryd.ntmps24
    go_wp2_with (fail)
    refine (specBad_any long _ _ _ ys _ HL1.out hr1 (by omega)).mono ?_
    rintro e w1 ⟨rfl, t1⟩
    go_wp2_with (fail)
    refine (specLengths_any _ _ _ ls _ HL2.out (hr2.up t1 t1.size) (by omega)).mono ?_
    rintro e w2 ⟨rfl, hb2⟩
    have t2 := below_next t1 hb2
    go_wp2
    go_ret
    exact ⟨ret_int (slabsLeast_2 h2).symm, t2⟩
  obtain ⟨G, hG⟩ : ∃ G, (slabsBest long ys ls).length = G := ⟨_, rfl⟩
  have hG5 := slabsBest_len long ys ls
  rw [hG] at hG5
  have HG := Lib.hid hG
  clear hG
  have HV : Hid (slabsLeast long ys ls = slabsWaste long ys ls (slabsBest long ys ls)) := Lib.hid rfl
  go_enter Tryd.func24, Tryd.ntmps24
  go_wp2_with (fail)
  refine (specBad_any long _ _ _ ys _ HL1.out hr1 (by omega)).mono ?_
  rintro e w1 ⟨rfl, t1⟩
  go_wp2_with (fail)
  refine (specLengths_any _ _ _ ls _ HL2.out (hr2.up t1 t1.size) (by omega)).mono ?_
  rintro e w2 ⟨rfl, hb2⟩
  have t2 := below_next t1 hb2
  go_wp2_with (fail)
  refine (specSBest_any long _ _ _ ys _ _ _ ls _ HL1.out (hr1.up t2 t2.size) (by omega) HL2.out (hr2.up t2 t2.size) (by omega)).mono ?_
  rintro e w3 hrow
  obtain ⟨A', c', rfl, ho, hb3⟩ := hrow.at_ HG.out
  have t3 := below_next t2 hb3
  go_wp2_with (fail)
  refine (specWasteOf_any long _ _ _ ys _ _ _ ls _ _ _ (slabsBest long ys ls) _ HL1.out (hr1.up t3 t3.size) (by omega) HL2.out (hr2.up t3 t3.size) (by omega) HG.out (RdP.of_own ho) (by omega)).mono ?_
  rintro e w4 ⟨rfl, hb4⟩
  have t4 := below_next t3 hb4
  go_wp2
  go_ret
  exact ⟨ret_int HV.out.symm, t4⟩
end Go.Proofs.YtcegmlogjbnoeaaDoor
