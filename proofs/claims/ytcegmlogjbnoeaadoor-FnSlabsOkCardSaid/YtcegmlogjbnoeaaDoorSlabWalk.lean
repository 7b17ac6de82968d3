/- 'SlabsOk': both walks. -/
import Derived.Test.YtcegmlogjbnoeaaDoorSlabPlain
import Derived.Test.YtcegmlogjbnoeaaDoorHas
import Derived.Test.YtcegmlogjbnoeaaDoorLenWalk
import Derived.Test.YtcegmlogjbnoeaaDoorBadWalk
import Derived.Test.YtcegmlogjbnoeaaDoorSz
namespace Go.Proofs.YtcegmlogjbnoeaaDoor
open Go.RowKit
set_option linter.unusedVariables false
/-- the first k slabs are right -/
def SlabPre (long : Int) (ys : List (Int × Int)) (ls : List Int) (zs : List (Int × Int)) (k : Nat) : Prop := (List.range k).all (slabOkAt long ys ls zs) = true
def LowIs (zs : List (Int × Int)) (k : Nat) (f : Int) : Prop := slabLow zs k = f
/-- none of the first m bad stretches is met -/
def NoHit (ys : List (Int × Int)) (x y : Int) (m : Nat) : Prop := (ys.take m).any (badHit x (x + y)) = false
section
variable {long : Int} {ys zs : List (Int × Int)} {ls : List Int}
theorem SlabPre.zero : SlabPre long ys ls zs 0 := rfl
theorem SlabPre.next {k : Nat} {x y f : Int} (h : SlabPre long ys ls zs k) (hf : LowIs zs k f) (hz : zs[k]? = some (x, y)) (h1 : hasI ls y = true) (h2 : inB x f (long - y) = true) (h3 : NoHit ys x y ys.length) : SlabPre long ys ls zs (k + 1) := by
  unfold SlabPre at h ⊢
  refine allR_succ h (slabOkAt_mk hz h1 (by rw [hf]; exact h2) ?_)
  have := h3
  unfold NoHit at this
  rwa [List.take_length] at this
theorem NoHit.zero {x y : Int} : NoHit ys x y 0 := by simp [NoHit]
end
set_option maxRecDepth 100000 in
set_option maxHeartbeats 4000000 in
theorem implSlabs_any (long : Int) (A1 : Option Addr) (n1 c1 : Nat) (ys : List (Int × Int)) (A2 : Option Addr) (n2 c2 : Nat) (ls : List Int) (A3 : Option Addr) (n3 c3 : Nat) (zs : List (Int × Int)) (w : World)
    (hl1 : ys.length = n1) (hr1 : RdP w w.heap.size A1 ys) (hn1 : n1 ≤ 1048576) (hl2 : ls.length = n2) (hr2 : RdI .i64 w w.heap.size A2 ls) (hn2 : n2 ≤ 1048576) (hl3 : zs.length = n3) (hr3 : RdP w w.heap.size A3 zs) (hn3 : n3 ≤ 1048576) :
    Calls Tryd.prog 59 #[.int .i64 long, .slice A1 n1 c1, .slice A2 n2 c2, .slice A3 n3 c3] w fun e w' => e = .returned (.bool (slabsOk long ys ls zs)) ∧ Below w.heap.size w w' := by
  have HL1 := Lib.hid hl1
  have HL2 := Lib.hid hl2
  have HL3 := Lib.hid hl3
  clear hl1 hl2 hl3
  cases h1 : badOk long ys
  · go_enter Tryd.func59, Tryd.ntmps59
    go_wp2_with (fail)
    refine (implBad_any long _ _ _ ys _ HL1.out hr1 (by omega)).mono ?_
    rintro e w1 ⟨rfl, t1⟩
    go_wp2
    go_ret
    exact ⟨ret_bool (slabsOk_1 h1).symm, t1⟩
  cases h2 : lengthsOk ls
  · go_enter Tryd.func59, Tryd.ntmps59
    go_wp2_with (fail)
    refine (implBad_any long _ _ _ ys _ HL1.out hr1 (by omega)).mono ?_
    rintro e w1 ⟨rfl, t1⟩
    go_wp2_with (fail)
    refine (implLengths_any _ _ _ ls _ HL2.out (hr2.up t1 t1.size) (by omega)).mono ?_
    rintro e w' ⟨rfl, rfl⟩
    go_wp2
    go_ret
    exact ⟨ret_bool (slabsOk_2 h2).symm, t1⟩
  have H1 := Lib.hid h1
  have H2 := Lib.hid h2
  obtain ⟨L0, L1⟩ := badOk_long h1
  go_enter Tryd.func59, Tryd.ntmps59
  go_wp2_with (fail)
  refine (implBad_any long _ _ _ ys _ HL1.out hr1 (by omega)).mono ?_
  rintro e w1 ⟨rfl, t1⟩
  go_wp2_with (fail)
  refine (implLengths_any _ _ _ ls _ HL2.out (hr2.up t1 t1.size) (by omega)).mono ?_
  rintro e w' ⟨rfl, rfl⟩
  go_wp2
  clear h1 h2
  go_loopw [9, 25] (fun s i wr => ∃ (k : Nat) (f : Int), k ≤ n3 ∧ i = .int .i64 k ∧ s = .int .i64 f ∧ LowIs zs k f ∧ 0 ≤ f ∧ f ≤ 60 ∧ SlabPre long ys ls zs k ∧ Below w.heap.size w wr) (fun _ i _ => n3 - (intOf i).toNat)
  case atStart => exact ⟨0, 0, Nat.zero_le _, rfl, rfl, rfl, by omega, by omega, SlabPre.zero, t1⟩
  case round =>
    obtain ⟨k, f, hk, rfl, rfl, hlow, f0, f1, hpre, hbel⟩ := hrel
    clear t1
    have hsz := hbel.size
    by_cases hlt : k < n3
    · obtain ⟨⟨x, y⟩, hz⟩ : ∃ q, zs[k]? = some q := ⟨_, List.getElem?_eq_getElem (by have := HL3.out; omega)⟩
      obtain ⟨b, off, rfl, hbB, hc1, hc2⟩ := hr3 k x y hz
      rw [← hbel.cell (by exact hbB)] at hc1 hc2
      have HZ := Lib.hid hz
      have hr2' := hr2.up hbel hsz
      clear hz hr3
      cases g1 : hasI ls y
      · go_wp2_with (fail)
        refine (contains_any _ _ _ ls _ _ HL2.out (hr2'.up ((Below.refl _ _).alloc (Nat.le_refl _) _) (by simp)) (by omega)).mono ?_
        rintro e w' ⟨rfl, rfl⟩
        go_wp2
        go_ret
        exact ⟨ret_bool (slabsOk_3 HZ.out g1).symm, (by repeat' (first | exact Below.refl _ _ | assumption | refine Below.alloc ?_ (by first | omega | (simp; done) | (simp; omega)) _ | refine Below.setCell ?_ (by first | omega | (simp; done) | (simp; omega)) _ | refine Below.drew ?_ | refine below_drawn ?_ _))⟩
      obtain ⟨y0, y1⟩ := contains_bounds H2.out g1
      cases g2 : inB x f (long - y)
      · go_wp2_with (fail)
        refine (contains_any _ _ _ ls _ _ HL2.out (hr2'.up ((Below.refl _ _).alloc (Nat.le_refl _) _) (by simp)) (by omega)).mono ?_
        rintro e w' ⟨rfl, rfl⟩
        go_wp2_with (go_at_call 72; refine (within_any _ _ _ _).mono ?_; rintro e w' ⟨rfl, rfl⟩)
        go_ret
        exact ⟨ret_bool (slabsOk_4 HZ.out (by rw [hlow]; exact g2)).symm, (by repeat' (first | exact Below.refl _ _ | assumption | refine Below.alloc ?_ (by first | omega | (simp; done) | (simp; omega)) _ | refine Below.setCell ?_ (by first | omega | (simp; done) | (simp; omega)) _ | refine Below.drew ?_ | refine below_drawn ?_ _))⟩
      obtain ⟨x0, x1⟩ := inB_iff.1 g2
      have G1 := Lib.hid g1
      have G2 := Lib.hid g2
      obtain ⟨wo, rfl⟩ : ∃ wo : World, wo = wr := ⟨_, rfl⟩
      go_wp2_with (fail)
      refine (contains_any _ _ _ ls _ _ HL2.out (hr2'.up ((Below.refl _ _).alloc (Nat.le_refl _) _) (by simp)) (by omega)).mono ?_
      rintro e w' ⟨rfl, rfl⟩
      go_wp2_with (go_at_call 72; refine (within_any _ _ _ _).mono ?_; rintro e w' ⟨rfl, rfl⟩)
      clear g1 g2
      go_loopw [52] (fun i ww => ∃ m : Nat, m ≤ n1 ∧ i = .int .i64 m ∧ NoHit ys x y m ∧ Below w.heap.size w ww ∧ wo.heap.size < ww.heap.size ∧ ww.cell? ⟨wo.heap.size, 0, none⟩ = some (.int .i64 x) ∧ ww.cell? ⟨wo.heap.size, 1, none⟩ = some (.int .i64 y)) (fun i _ => n1 - (intOf i).toNat)
      case atStart => exact ⟨0, Nat.zero_le _, rfl, NoHit.zero, (by repeat' (first | exact Below.refl _ _ | assumption | refine Below.alloc ?_ (by first | omega | (simp; done) | (simp; omega)) _ | refine Below.setCell ?_ (by first | omega | (simp; done) | (simp; omega)) _ | refine Below.drew ?_ | refine below_drawn ?_ _)), by simp, by go_simp, by go_simp⟩
      case round =>
        obtain ⟨m, hm, rfl, hno, hbel2, hws, e1, e2⟩ := hrel
        clear hc1 hc2
        by_cases hltm : m < n1
        · obtain ⟨⟨u, v⟩, hyk⟩ : ∃ q, ys[m]? = some q := ⟨_, List.getElem?_eq_getElem (by have := HL1.out; omega)⟩
          obtain ⟨b', off', rfl, hbB', hd1, hd2⟩ := hr1 m u v hyk
          rw [← hbel2.cell (by exact hbB')] at hd1 hd2
          have HYK := Lib.hid hyk
          clear hyk hr1
          by_cases s1 : x < v
          · by_cases s2 : u < x + y
            · go_wp2
              go_ret
              exact ⟨ret_bool (slabsOk_5 HZ.out HYK.out s1 s2).symm, (by repeat' (first | exact Below.refl _ _ | assumption | refine Below.alloc ?_ (by first | omega | (simp; done) | (simp; omega)) _ | refine Below.setCell ?_ (by first | omega | (simp; done) | (simp; omega)) _ | refine Below.drew ?_ | refine below_drawn ?_ _))⟩
            · have HN : NoHit ys x y (m + 1) := anyHit_succ hno HYK.out (by omega)
              go_wp2
              go_roundw
              case rel => exact ⟨m + 1, by omega, by go_num, HN, (by repeat' (first | exact Below.refl _ _ | assumption | refine Below.alloc ?_ (by first | omega | (simp; done) | (simp; omega)) _ | refine Below.setCell ?_ (by first | omega | (simp; done) | (simp; omega)) _ | refine Below.drew ?_ | refine below_drawn ?_ _)), by simp; omega, by go_simp, by go_simp⟩
              case measure => simp [intOf] <;> omega
          · have HN : NoHit ys x y (m + 1) := anyHit_succ hno HYK.out (by omega)
            go_wp2
            go_roundw
            case rel => exact ⟨m + 1, by omega, by go_num, HN, (by repeat' (first | exact Below.refl _ _ | assumption | refine Below.alloc ?_ (by first | omega | (simp; done) | (simp; omega)) _ | refine Below.setCell ?_ (by first | omega | (simp; done) | (simp; omega)) _ | refine Below.drew ?_ | refine below_drawn ?_ _)), by simp; omega, by go_simp, by go_simp⟩
            case measure => simp [intOf] <;> omega
        · have HP : SlabPre long ys ls zs (k + 1) := hpre.next hlow HZ.out G1.out G2.out (by rw [HL1.out, show n1 = m by omega]; exact hno)
          have HLW : LowIs zs (k + 1) (x + y) := slabLow_succ HZ.out
          go_wp2
          go_roundw
          case rel => exact ⟨k + 1, x + y, by omega, by go_num, rfl, HLW, by omega, by omega, HP, hbel2⟩
          case measure => simp [intOf] <;> omega
    · go_wp2
      go_ret
      refine ⟨ret_bool (slabsOk_mk H1.out H2.out ?_).symm, hbel⟩
      have := HL3.out
      rw [show zs.length = k by omega]; exact hpre
set_option maxRecDepth 100000 in
set_option maxHeartbeats 4000000 in
theorem specSlabs_any (long : Int) (A1 : Option Addr) (n1 c1 : Nat) (ys : List (Int × Int)) (A2 : Option Addr) (n2 c2 : Nat) (ls : List Int) (A3 : Option Addr) (n3 c3 : Nat) (zs : List (Int × Int)) (w : World)
    (hl1 : ys.length = n1) (hr1 : RdP w w.heap.size A1 ys) (hn1 : n1 ≤ 1048576) (hl2 : ls.length = n2) (hr2 : RdI .i64 w w.heap.size A2 ls) (hn2 : n2 ≤ 1048576) (hl3 : zs.length = n3) (hr3 : RdP w w.heap.size A3 zs) (hn3 : n3 ≤ 1048576) :
    Calls Tryd.prog 60 #[.int .i64 long, .slice A1 n1 c1, .slice A2 n2 c2, .slice A3 n3 c3] w fun e w' => e = .returned (.bool (slabsOk long ys ls zs)) ∧ Below w.heap.size w w' := by
  have HL1 := Lib.hid hl1
  have HL2 := Lib.hid hl2
  have HL3 := Lib.hid hl3
  clear hl1 hl2 hl3
  cases h1 : badOk long ys
  · go_enter Tryd.func60, Tryd.ntmps60
    go_wp2_with (fail)
    refine (specBad_any long _ _ _ ys _ HL1.out hr1 (by omega)).mono ?_
    rintro e w1 ⟨rfl, t1⟩
    go_wp2
    go_ret
    exact ⟨ret_bool (slabsOk_1 h1).symm, t1⟩
  cases h2 : lengthsOk ls
  · go_enter Tryd.func60, Tryd.ntmps60
    go_wp2_with (fail)
    refine (specBad_any long _ _ _ ys _ HL1.out hr1 (by omega)).mono ?_
    rintro e w1 ⟨rfl, t1⟩
    go_wp2_with (fail)
    refine (specLengths_any _ _ _ ls _ HL2.out (hr2.up t1 t1.size) (by omega)).mono ?_
    rintro e w2 ⟨rfl, hb2⟩
    have t2 := below_next t1 hb2
    go_wp2
    go_ret
    exact ⟨ret_bool (slabsOk_2 h2).symm, t2⟩
  have H1 := Lib.hid h1
  have H2 := Lib.hid h2
  obtain ⟨L0, L1⟩ := badOk_long h1
  go_enter Tryd.func60, Tryd.ntmps60
  go_wp2_with (fail)
  refine (specBad_any long _ _ _ ys _ HL1.out hr1 (by omega)).mono ?_
  rintro e w1 ⟨rfl, t1⟩
  go_wp2_with (fail)
  refine (specLengths_any _ _ _ ls _ HL2.out (hr2.up t1 t1.size) (by omega)).mono ?_
  rintro e w2 ⟨rfl, hb2⟩
  have t2 := below_next t1 hb2
  go_wp2
  clear h1 h2
  go_loopw [9, 10] (fun s i wr => ∃ (k : Nat) (f : Int), k ≤ n3 ∧ i = .int .i64 k ∧ s = .int .i64 f ∧ LowIs zs k f ∧ 0 ≤ f ∧ f ≤ 60 ∧ SlabPre long ys ls zs k ∧ Below w.heap.size w wr) (fun _ i _ => n3 - (intOf i).toNat)
  case atStart => exact ⟨0, 0, Nat.zero_le _, rfl, rfl, rfl, by omega, by omega, SlabPre.zero, t2⟩
  case round =>
    obtain ⟨k, f, hk, rfl, rfl, hlow, f0, f1, hpre, hbel⟩ := hrel
    clear t1 hb2 t2
    have hsz := hbel.size
    by_cases hlt : k < n3
    · obtain ⟨⟨x, y⟩, hz⟩ : ∃ q, zs[k]? = some q := ⟨_, List.getElem?_eq_getElem (by have := HL3.out; omega)⟩
      obtain ⟨b, off, rfl, hbB, hc1, hc2⟩ := hr3 k x y hz
      rw [← hbel.cell (by exact hbB)] at hc1 hc2
      have HZ := Lib.hid hz
      have hr2' := hr2.up hbel hsz
      clear hz hr3
      cases g1 : hasI ls y
      · go_wp2_with (fail)
        refine (has_any _ _ _ ls _ _ HL2.out (hr2'.up ((Below.refl _ _).alloc (Nat.le_refl _) _) (by simp)) (by omega)).mono ?_
        rintro e w' ⟨rfl, rfl⟩
        go_wp2
        go_ret
        exact ⟨ret_bool (slabsOk_3 HZ.out g1).symm, (by repeat' (first | exact Below.refl _ _ | assumption | refine Below.alloc ?_ (by first | omega | (simp; done) | (simp; omega)) _ | refine Below.setCell ?_ (by first | omega | (simp; done) | (simp; omega)) _ | refine Below.drew ?_ | refine below_drawn ?_ _))⟩
      obtain ⟨y0, y1⟩ := contains_bounds H2.out g1
      cases g2 : inB x f (long - y)
      · go_wp2_with (fail)
        refine (has_any _ _ _ ls _ _ HL2.out (hr2'.up ((Below.refl _ _).alloc (Nat.le_refl _) _) (by simp)) (by omega)).mono ?_
        rintro e w' ⟨rfl, rfl⟩
        go_wp2_with (go_at_call 75; refine (in_any _ _ _ _).mono ?_; rintro e w' ⟨rfl, rfl⟩)
        go_ret
        exact ⟨ret_bool (slabsOk_4 HZ.out (by rw [hlow]; exact g2)).symm, (by repeat' (first | exact Below.refl _ _ | assumption | refine Below.alloc ?_ (by first | omega | (simp; done) | (simp; omega)) _ | refine Below.setCell ?_ (by first | omega | (simp; done) | (simp; omega)) _ | refine Below.drew ?_ | refine below_drawn ?_ _))⟩
      obtain ⟨x0, x1⟩ := inB_iff.1 g2
      have G1 := Lib.hid g1
      have G2 := Lib.hid g2
      obtain ⟨wo, rfl⟩ : ∃ wo : World, wo = wr := ⟨_, rfl⟩
      go_wp2_with (fail)
      refine (has_any _ _ _ ls _ _ HL2.out (hr2'.up ((Below.refl _ _).alloc (Nat.le_refl _) _) (by simp)) (by omega)).mono ?_
      rintro e w' ⟨rfl, rfl⟩
      go_wp2_with (go_at_call 75; refine (in_any _ _ _ _).mono ?_; rintro e w' ⟨rfl, rfl⟩)
      clear g1 g2
      go_loopw [12] (fun i ww => ∃ m : Nat, m ≤ n1 ∧ i = .int .i64 m ∧ NoHit ys x y m ∧ Below w.heap.size w ww ∧ wo.heap.size < ww.heap.size ∧ ww.cell? ⟨wo.heap.size, 0, none⟩ = some (.int .i64 x) ∧ ww.cell? ⟨wo.heap.size, 1, none⟩ = some (.int .i64 y)) (fun i _ => n1 - (intOf i).toNat)
      case atStart => exact ⟨0, Nat.zero_le _, rfl, NoHit.zero, (by repeat' (first | exact Below.refl _ _ | assumption | refine Below.alloc ?_ (by first | omega | (simp; done) | (simp; omega)) _ | refine Below.setCell ?_ (by first | omega | (simp; done) | (simp; omega)) _ | refine Below.drew ?_ | refine below_drawn ?_ _)), by simp, by go_simp, by go_simp⟩
      case round =>
        obtain ⟨m, hm, rfl, hno, hbel2, hws, e1, e2⟩ := hrel
        clear hc1 hc2
        by_cases hltm : m < n1
        · obtain ⟨⟨u, v⟩, hyk⟩ : ∃ q, ys[m]? = some q := ⟨_, List.getElem?_eq_getElem (by have := HL1.out; omega)⟩
          obtain ⟨b', off', rfl, hbB', hd1, hd2⟩ := hr1 m u v hyk
          rw [← hbel2.cell (by exact hbB')] at hd1 hd2
          have HYK := Lib.hid hyk
          clear hyk hr1
          by_cases s1 : u < x + y
          · have q1 : decide (u < x + y) = true := by simpa using s1
            by_cases s2 : x < v
            · have q2 : decide (x < v) = true := by simpa using s2
              go_wp2_with (fail)
              go_quiet (fail)
              go_wp2
              go_ret
              exact ⟨ret_bool (slabsOk_5 HZ.out HYK.out s2 s1).symm, (by repeat' (first | exact Below.refl _ _ | assumption | refine Below.alloc ?_ (by first | omega | (simp; done) | (simp; omega)) _ | refine Below.setCell ?_ (by first | omega | (simp; done) | (simp; omega)) _ | refine Below.drew ?_ | refine below_drawn ?_ _))⟩
            · have q2 : decide (x < v) = false := by simpa using s2
              have HN : NoHit ys x y (m + 1) := anyHit_succ hno HYK.out (by omega)
              go_wp2_with (fail)
              go_quiet (fail)
              go_wp2
              go_roundw
              case rel => exact ⟨m + 1, by omega, by go_num, HN, (by repeat' (first | exact Below.refl _ _ | assumption | refine Below.alloc ?_ (by first | omega | (simp; done) | (simp; omega)) _ | refine Below.setCell ?_ (by first | omega | (simp; done) | (simp; omega)) _ | refine Below.drew ?_ | refine below_drawn ?_ _)), by simp; omega, by go_simp, by go_simp⟩
              case measure => simp [intOf] <;> omega
          · have q1 : decide (u < x + y) = false := by simpa using s1
            have HN : NoHit ys x y (m + 1) := anyHit_succ hno HYK.out (by omega)
            go_wp2_with (fail)
            go_quiet (fail)
            go_wp2
            go_roundw
            case rel => exact ⟨m + 1, by omega, by go_num, HN, (by repeat' (first | exact Below.refl _ _ | assumption | refine Below.alloc ?_ (by first | omega | (simp; done) | (simp; omega)) _ | refine Below.setCell ?_ (by first | omega | (simp; done) | (simp; omega)) _ | refine Below.drew ?_ | refine below_drawn ?_ _)), by simp; omega, by go_simp, by go_simp⟩
            case measure => simp [intOf] <;> omega
        · have HP : SlabPre long ys ls zs (k + 1) := hpre.next hlow HZ.out G1.out G2.out (by rw [HL1.out, show n1 = m by omega]; exact hno)
          have HLW : LowIs zs (k + 1) (x + y) := slabLow_succ HZ.out
          go_wp2
          go_roundw
          case rel => exact ⟨k + 1, x + y, by omega, by go_num, rfl, HLW, by omega, by omega, HP, hbel2⟩
          case measure => simp [intOf] <;> omega
    · go_wp2
      go_ret
      refine ⟨ret_bool (slabsOk_mk H1.out H2.out ?_).symm, hbel⟩
      have := HL3.out
      rw [show zs.length = k by omega]; exact hpre
end Go.Proofs.YtcegmlogjbnoeaaDoor
