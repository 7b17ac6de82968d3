/- 'SlabsBest': both walks. -/
import Derived.Test.YtcegmlogjbnoeaaDoorSlabMore
import Derived.Test.YtcegmlogjbnoeaaDoorOwnApart
import Derived.Test.YtcegmlogjbnoeaaDoorBestWalk
import Derived.Test.YtcegmlogjbnoeaaDoorGood
import Derived.StillTailTactics
namespace Go.Proofs.YtcegmlogjbnoeaaDoor
open Go.RowKit
set_option linter.unusedVariables false
def Lay2 (O0 : List (Int × Int)) (x : Int) (ls ms : List Int) (j : Nat) (O : List (Int × Int)) (a : Int) (m : Nat) : Prop := O = O0 ++ (layAll x (ls.drop j) (ms.drop j)).1 ∧ a = (layAll x (ls.drop j) (ms.drop j)).2 ∧ O.length = m
def Lay3 (O1 : List (Int × Int)) (a1 l : Int) (c : Nat) (O : List (Int × Int)) (a : Int) (m : Nat) : Prop := O = O1 ++ layOne a1 l c ∧ a = a1 + c * l ∧ O.length = m
/-- what is known of one part's cuts -/
def CutsOk (ls : List Int) (x y : Int) (ms : List Int) : Prop := ms.length = ls.length ∧ (∀ j, x ≤ (layAll x (ls.drop j) (ms.drop j)).2 ∧ (layAll x (ls.drop j) (ms.drop j)).2 ≤ y ∧ ((layAll x (ls.drop j) (ms.drop j)).1.length : Int) ≤ y - x) ∧
  ∀ (j : Nat) (l m : Int), ls[j]? = some l → ms[j]? = some m → 0 ≤ m ∧ m ≤ 60 ∧ ∀ c : Nat, (c : Int) ≤ m → x ≤ (layAll x (ls.drop (j + 1)) (ms.drop (j + 1))).2 + c * l ∧ (layAll x (ls.drop (j + 1)) (ms.drop (j + 1))).2 + c * l ≤ y
section
variable {ls ms : List Int} {x y a l mm : Int} {O O0 O1 : List (Int × Int)} {j m k : Nat}
theorem CutsOk.of (h : lengthsOk ls = true) (h0 : 0 ≤ x) (h1 : x < y) (h2 : y ≤ 60) : CutsOk ls x y (cutBest (y - x) ls) :=
  ⟨cutBest_length h h0 h1 h2, fun j => let f := cut_facts h h0 h1 h2 j; ⟨f.low, f.high, f.len⟩, fun j l m hl hm => cut_one h h0 h1 h2 hl hm⟩
theorem Lay2.start (hn : ls.length ≤ j) (h : O0.length = m) : Lay2 O0 x ls ms j O0 x m := by
  unfold Lay2; rw [layAll_end hn]; exact ⟨by simp, rfl, h⟩
theorem Lay2.bounds (h : Lay2 O0 x ls ms j O a m) (hc : CutsOk ls x y ms) (h0 : 0 ≤ x) (h2 : y ≤ 60) (hO : O0.length ≤ k) : 0 ≤ a ∧ a ≤ 60 ∧ m ≤ k + 60 := by
  obtain ⟨rfl, rfl, rfl⟩ := h
  have := hc.2.1 j
  rw [List.length_append]; omega
theorem Lay3.start (h : Lay2 O0 x ls ms j O a m) : Lay3 O a l 0 O a m := ⟨by simp [layOne], by simp, h.2.2⟩
theorem Lay3.next {c : Nat} {a1 : Int} (h : Lay3 O1 a1 l c O a m) : Lay3 O1 a1 l (c + 1) (O ++ [(a, l)]) (a + l) (m + 1) := by
  obtain ⟨rfl, rfl, rfl⟩ := h
  refine ⟨by simp [layOne], by rw [Int.natCast_add, Int.add_mul]; omega, by simp; omega⟩
theorem Lay3.bounds {c : Nat} {a1 : Int} {m1 : Nat} (h : Lay3 O1 a1 l c O a m) (h1 : Lay2 O0 x ls ms (j + 1) O1 a1 m1) (hc : CutsOk ls x y ms) (h0 : 0 ≤ x) (h2 : y ≤ 60) (hl : ls[j]? = some l) (hm : ms[j]? = some mm) (hcm : (c : Int) ≤ mm) : 0 ≤ a ∧ a ≤ 60 ∧ m ≤ m1 + 60 := by
  obtain ⟨rfl, rfl, rfl⟩ := h
  obtain ⟨rfl, rfl, rfl⟩ := h1
  have := (hc.2.2 j l mm hl hm)
  have := this.2.2 c hcm
  rw [List.length_append, layOne_length]; omega
theorem Lay3.fin {c : Nat} {a1 : Int} {m1 : Nat} (h : Lay3 O1 a1 l c O a m) (h1 : Lay2 O0 x ls ms (j + 1) O1 a1 m1) (hl : ls[j]? = some l) (hm : ms[j]? = some (c : Int)) : Lay2 O0 x ls ms j O a m := by
  obtain ⟨rfl, rfl, rfl⟩ := h
  obtain ⟨rfl, rfl, rfl⟩ := h1
  unfold Lay2
  rw [layAll_drop hl hm]
  exact ⟨by simp, rfl, rfl⟩
end
set_option maxRecDepth 100000 in
set_option maxHeartbeats 8000000 in
theorem implSBest_any (long : Int) (A1 : Option Addr) (n1 c1 : Nat) (ys : List (Int × Int)) (A2 : Option Addr) (n2 c2 : Nat) (ls : List Int) (w : World)
    (hl1 : ys.length = n1) (hr1 : RdP w w.heap.size A1 ys) (hn1 : n1 ≤ 1048576) (hl2 : ls.length = n2) (hr2 : RdI .i64 w w.heap.size A2 ls) (hn2 : n2 ≤ 1048576) :
    Calls Tryd.prog 62 #[.int .i64 long, .slice A1 n1 c1, .slice A2 n2 c2] w (PairsRow 62 (slabsBest long ys ls) w) := by
  obtain ⟨i0, hi, hz0, hz1, hz2⟩ := info_parts info_Slab
  have HL1 := Lib.hid hl1
  have HL2 := Lib.hid hl2
  clear hl1 hl2
  cases h1 : badOk long ys
  · rw [slabsBest_1 h1]
    go_enter Tryd.func62, Tryd.ntmps62
    go_wp2_with (fail)
    refine (implBad_any long _ _ _ ys _ HL1.out hr1 (by omega)).mono ?_
    rintro e w1 ⟨rfl, t1⟩
    go_wp2
    go_ret
    exact PairsRow.nil t1
  cases h2 : lengthsOk ls
  · rw [slabsBest_2 h2]
    go_enter Tryd.func62, Tryd.ntmps62
    go_wp2_with (fail)
    refine (implBad_any long _ _ _ ys _ HL1.out hr1 (by omega)).mono ?_
    rintro e w1 ⟨rfl, t1⟩
    go_wp2_with (fail)
    refine (implLengths_any _ _ _ ls _ HL2.out (hr2.up t1 t1.size) (by omega)).mono ?_
    rintro e w' ⟨rfl, rfl⟩
    go_wp2
    go_ret
    exact PairsRow.nil t1
  have H1 := Lib.hid h1
  have H2 := Lib.hid h2
  obtain ⟨L0, L1⟩ := badOk_long h1
  have hn4 : n2 ≤ 4 := by have := (lengthsOk_len h2).2; rw [HL2.out] at this; exact this
  have hG5 := goodParts_len5 long ys
  obtain ⟨G, hG⟩ : ∃ G, (goodParts long ys).length = G := ⟨_, rfl⟩
  rw [hG] at hG5
  have HGL := Lib.hid hG
  have HFIN : Hid (slabsBest long ys ls = bestTo ls (goodParts long ys) G) := Lib.hid (by rw [slabsBest_3 h1 h2, hG])
  have HGP : Hid (∀ (k : Nat) (x y : Int), (goodParts long ys)[k]? = some (x, y) → 0 ≤ x ∧ x < y ∧ y ≤ 60) := Lib.hid (fun k x y hk => by have := goodParts_get h1 hk; omega)
  clear hG
  go_enter Tryd.func62, Tryd.ntmps62
  go_wp2_with (fail)
  refine (implBad_any long _ _ _ ys _ HL1.out hr1 (by omega)).mono ?_
  rintro e w1 ⟨rfl, t1⟩
  go_wp2_with (fail)
  refine (implLengths_any _ _ _ ls _ HL2.out (hr2.up t1 t1.size) (by omega)).mono ?_
  rintro e w' ⟨rfl, rfl⟩
  go_wp2_with (fail)
  refine (implGood_any long _ _ _ ys _ HL1.out (hr1.up t1 t1.size) (by omega)).mono ?_
  rintro e w2 hrow
  obtain ⟨Ag, cg, rfl, hgs, hb2⟩ := hrow.at_ HGL.out
  have t2 := below_next t1 hb2
  have hgs := own_lower hgs t1.size
  generalize goodParts long ys = gs at *
  clear h1 h2 hrow hb2 t1 hr1
  go_wp2
  go_loopw [7, 26] (fun v i wr => ∃ (k m : Nat) (A' : Option Addr) (c' : Nat), k ≤ G ∧ i = .int .i64 k ∧ v = .slice A' m c' ∧ Hid ((bestTo ls gs k).length = m) ∧ wr.ownsRow w.heap.size 62 2 (.slice A' m c') m (pairsV (bestTo ls gs k)) ∧ wr.ownsRow w.heap.size 31 2 (.slice Ag G cg) G (pairsV gs) ∧ Below w.heap.size w wr) (fun _ i _ => G - (intOf i).toNat)
  case atStart => exact ⟨0, 0, _, _, Nat.zero_le _, rfl, rfl, Lib.hid rfl, World.ownsRow_nil _ _ _ _, hgs, t2⟩
  case round =>
    obtain ⟨k, m, A', c', hk, rfl, rfl, HM, hown, hgs1, hbel⟩ := hrel
    clear hgs t2
    have hsz := hbel.size
    by_cases hlt : k < G
    · obtain ⟨⟨x, y⟩, hxy⟩ : ∃ q, gs[k]? = some q := ⟨_, List.getElem?_eq_getElem (by rw [HGL.out]; omega)⟩
      obtain ⟨x0, xy, y1⟩ := HGP.out k x y hxy
      obtain ⟨b, off, rfl, hbB, hc1, hc2⟩ := RdP.of_own hgs1 k x y hxy
      have HB := Lib.hid (bestTo_succ (ls := ls) hxy)
      have HML : Hid (m ≤ 60 * k) := Lib.hid (by rw [← HM.out]; exact bestTo_len H2.out HGP.out k)
      clear hxy
      obtain ⟨wo, rfl⟩ : ∃ wo : World, wo = wr := ⟨_, rfl⟩
      have HGS := Lib.hid hgs1
      have HOWN := Lib.hid hown
      clear hgs1 hown
      go_wp2_with (fail)
      refine (implBest_any (y - x) _ _ _ ls _ HL2.out (hr2.up (hbel.alloc (by omega) _) (by simp; omega)) (by omega)).mono ?_
      rintro e w5 hrow
      obtain ⟨Am, cm, rfl, hom, hb5⟩ := hrow.at_ ((cutBest_length H2.out x0 xy y1).trans HL2.out)
      have hom := own_lower hom (base' := w.heap.size) (by simp; omega)
      have hown5 := own_below (HOWN.out.alloc _) hb5
      have hgs5 := own_below (HGS.out.alloc _) hb5
      have t5 : Below w.heap.size w w5 := (hbel.alloc (by omega) _).trans (hb5.mono (by simp; omega))
      have d1 : w5.cell? ⟨wo.heap.size, 0, none⟩ = some (.int .i64 x) := (hb5.cell (by simp)).trans (by go_simp)
      have HCO := Lib.hid (CutsOk.of H2.out x0 xy y1)
      generalize cutBest (y - x) ls = ms at *
      generalize bestTo ls gs k = O0 at *
      clear hb5 hrow hbel hc1 hc2 hsz
      have hst : Lay2 O0 x ls ms n2 O0 x m := Lay2.start (by rw [HL2.out]; exact Nat.le_refl _) HM.out
      go_wp2
      go_loopw [7, 11, 12] (fun v s i wr => ∃ (j m2 : Nat) (q a : Int) (A' : Option Addr) (c' : Nat) (O : List (Int × Int)), i = .int .i64 q ∧ q + 1 ≤ (j : Int) ∧ (j : Int) ≤ q + 1 ∧ j ≤ n2 ∧ s = .int .i64 a ∧ v = .slice A' m2 c' ∧ Lay2 O0 x ls ms j O a m2 ∧ wr.ownsRow w.heap.size 62 2 (.slice A' m2 c') m2 (pairsV O) ∧ wr.ownsRow w.heap.size 31 2 (.slice (some ⟨b, off, none⟩) G cg) G (pairsV gs) ∧ wr.ownsRow w.heap.size 3 1 (.slice Am n2 cm) n2 (intsV .i64 ms) ∧ Below w.heap.size w wr) (fun _ _ i _ => (intOf i + 1).toNat)
      case atStart => exact ⟨n2, m, _, _, _, _, O0, rfl, by omega, by omega, Nat.le_refl _, rfl, rfl, hst, hown5, hgs5, hom, t5⟩
      case round =>
        obtain ⟨j, m2, q, a, A1', c1', O1, rfl, hq1, hq2, hjn, rfl, rfl, hlay, hown, hgs1, hom1, hbel⟩ := hrel
        clear hown5 hgs5 hom t5 d1 hst
        have hsz := hbel.size
        have hO0 : O0.length ≤ 300 := by have := HM.out; have := HML.out; omega
        have HLAY := Lib.hid hlay
        obtain ⟨a0, a1, hm2⟩ := hlay.bounds HCO.out x0 y1 hO0
        clear hlay hO0
        by_cases hlt2 : 0 ≤ q
        · obtain ⟨j, rfl⟩ : ∃ i : Nat, j = i + 1 := ⟨j - 1, by omega⟩
          obtain rfl : q = (j : Int) := by omega
          clear hq1 hq2 hlt2
          obtain ⟨l, hlj⟩ : ∃ l, ls[j]? = some l := ⟨_, List.getElem?_eq_getElem (by rw [HL2.out]; omega)⟩
          obtain ⟨mm, hmj⟩ : ∃ l, ms[j]? = some l := ⟨_, List.getElem?_eq_getElem (by rw [HCO.out.1, HL2.out]; omega)⟩
          obtain ⟨l0, l1⟩ := lengthsOk_get H2.out hlj
          obtain ⟨mm0, mm1, _⟩ := HCO.out.2.2 j l mm hlj hmj
          obtain ⟨b3, off3, rfl, hbB3, hd⟩ := RdI.of_own hom1 j mm hmj
          obtain ⟨b4, off4, rfl, hbB4, he⟩ := hr2 j l hlj
          rw [← hbel.cell (by exact hbB4)] at he
          have HLJ := Lib.hid hlj
          have HMJ := Lib.hid hmj
          clear hlj hmj
          obtain ⟨wo, rfl⟩ : ∃ wo : World, wo = wr := ⟨_, rfl⟩
          go_wp2
          go_loopw [7, 11, 50] (fun v s i wr => ∃ (c m3 : Nat) (a' : Int) (A' : Option Addr) (c' : Nat) (O : List (Int × Int)), i = .int .i64 c ∧ (c : Int) ≤ mm ∧ s = .int .i64 a' ∧ v = .slice A' m3 c' ∧ Lay3 O1 a l c O a' m3 ∧ wr.ownsRow w.heap.size 62 2 (.slice A' m3 c') m3 (pairsV O) ∧ wr.ownsRow w.heap.size 31 2 (.slice (some ⟨b, off, none⟩) G cg) G (pairsV gs) ∧ wr.ownsRow w.heap.size 3 1 (.slice (some ⟨b3, off3, none⟩) n2 cm) n2 (intsV .i64 ms) ∧ Below w.heap.size w wr) (fun _ _ i _ => (mm - intOf i).toNat)
          case atStart => exact ⟨0, m2, _, _, _, O1, rfl, by omega, rfl, rfl, Lay3.start HLAY.out, hown, hgs1, hom1, hbel⟩
          case round =>
            obtain ⟨c, m3, a', A2', c2', O2, rfl, hc, rfl, rfl, hlay3, hown3, hgs3, hom3, hbel3⟩ := hrel
            clear hown hgs1 hom1 hd he
            have hsz3 := hbel3.size
            obtain ⟨a3, a4, hm3⟩ := hlay3.bounds HLAY.out HCO.out x0 y1 HLJ.out HMJ.out hc
            have he := (rd_at hr2 HLJ.out).2
            rw [← hbel3.cell (by exact hbB4)] at he
            have hbw : b4 < wr.heap.size := by omega
            by_cases hlt3 : (c : Int) < mm
            · have HNX := Lib.hid hlay3.next
              have HOWN3 := Lib.hid hown3
              have HGS3 := Lib.hid hgs3
              have HOM3 := Lib.hid hom3
              clear hlay3 hown3 hgs3 hom3
              go_wp2_with (at_builtin; go_must (refine wpList_append_pair _ rfl (.tmp 52) (.tmp 59) 25 rfl w.heap.size 62 i0 Tryd.underlying25 hi hz0 hz1 hz2 (.slice A2' m3 c2') m3 O2 rfl (HOWN3.out.alloc _) wr.heap.size (Newest.alloc_ rfl) rfl (by omega) (by simp; omega) ?_); intro A9 cc9 w9 hown9 hgr9; have k1 : w9.cell? ⟨b4, off4 + j, none⟩ = some (.int .i64 l) := cell_append (p := ⟨b4, off4 + j, none⟩) (u := .int .i64 l) (by go_simp) hgr9 (HOWN3.out.alloc _) (by exact hbB4))
              have HO9 := Lib.hid hown9
              have HG9 := Lib.hid (own_types (HGS3.out.alloc _) (HOWN3.out.alloc _) hgr9 (by decide))
              have HM9 := Lib.hid (own_types (HOM3.out.alloc _) (HOWN3.out.alloc _) hgr9 (by decide))
              have tt := below_append (B := w.heap.size) (a := w) (by repeat' (first | exact Below.refl _ _ | assumption | refine Below.alloc ?_ (by first | omega | (simp; done) | (simp; omega)) _ | refine Below.setCell ?_ (by first | omega | (simp; done) | (simp; omega)) _ | refine Below.drew ?_ | refine below_drawn ?_ _)) hgr9 (HOWN3.out.alloc _) (by simp; omega) (Nat.le_refl _)
              have HTT := Lib.hid tt
              clear hown9 hgr9 tt
              go_wp2
              go_roundw
              case rel => exact ⟨c + 1, m3 + 1, _, A9, cc9, _, by go_num, by omega, rfl, rfl, HNX.out, HO9.out, HG9.out, HM9.out, HTT.out⟩
              case measure => simp [intOf] <;> omega
            · obtain rfl : mm = (c : Int) := by omega
              have HFN := Lib.hid (hlay3.fin HLAY.out HLJ.out HMJ.out)
              clear hlay3
              go_wp2
              go_roundw
              case rel => exact ⟨j, m3, _, _, _, _, O2, rfl, by omega, by omega, by omega, rfl, rfl, HFN.out, hown3, hgs3, hom3, hbel3⟩
              case measure => simp [intOf] <;> omega
        · obtain rfl : j = 0 := by omega
          have HN1 : Hid (bestTo ls gs (k + 1) = O1) := Lib.hid (by rw [HB.out, HLAY.out.1]; simp)
          have HN2 : Hid (O1.length = m2) := Lib.hid HLAY.out.2.2
          go_wp2
          go_roundw
          case rel => exact ⟨k + 1, m2, _, _, by omega, by go_num, rfl, Lib.hid (by rw [HN1.out, HN2.out]), by rw [HN1.out]; exact hown, hgs1, hbel⟩
          case measure => simp [intOf] <;> omega
    · go_wp2
      go_ret
      obtain rfl : k = G := by omega
      rw [HFIN.out]
      exact PairsRow.mk HM.out (Nat.le_refl _) hown hbel
set_option maxRecDepth 100000 in
set_option maxHeartbeats 8000000 in
theorem specSBest_any (long : Int) (A1 : Option Addr) (n1 c1 : Nat) (ys : List (Int × Int)) (A2 : Option Addr) (n2 c2 : Nat) (ls : List Int) (w : World)
    (hl1 : ys.length = n1) (hr1 : RdP w w.heap.size A1 ys) (hn1 : n1 ≤ 1048576) (hl2 : ls.length = n2) (hr2 : RdI .i64 w w.heap.size A2 ls) (hn2 : n2 ≤ 1048576) :
    Calls Tryd.prog 64 #[.int .i64 long, .slice A1 n1 c1, .slice A2 n2 c2] w (PairsRow 62 (slabsBest long ys ls) w) := by
  obtain ⟨i0, hi, hz0, hz1, hz2⟩ := info_parts info_Slab
  have HL1 := Lib.hid hl1
  have HL2 := Lib.hid hl2
  clear hl1 hl2
  have HO0 := Lib.hid (World.ownsRow_made (e := 62) (size := 2) (base := w.heap.size) w #[] 0 (Nat.le_refl _) (Nat.zero_le _) rfl)
  cases h2 : lengthsOk ls
  · rw [slabsBest_2 h2]
    go_enter Tryd.func64, Tryd.ntmps64
    go_wp2_with (fail)
    refine (specLengths_any _ _ _ ls _ HL2.out (hr2.up ((Below.refl _ _).alloc (Nat.le_refl _) _) (by simp)) (by omega)).mono ?_
    rintro e w1 ⟨rfl, hb1⟩
    have t1 := below_boxed hb1
    go_wp2
    go_ret
    exact PairsRow.mk (L := []) (base := w.heap.size) rfl (Nat.le_refl _) (by simpa [pairsV] using own_below HO0.out hb1) t1
  have H2 := Lib.hid h2
  have hn4 : n2 ≤ 4 := by have := (lengthsOk_len h2).2; rw [HL2.out] at this; exact this
  have hG5 := goodParts_len5 long ys
  obtain ⟨G, hG⟩ : ∃ G, (goodParts long ys).length = G := ⟨_, rfl⟩
  rw [hG] at hG5
  have HGL := Lib.hid hG
  have HFIN : Hid (slabsBest long ys ls = bestTo ls (goodParts long ys) G) := Lib.hid (by
    cases h1 : badOk long ys
    · rw [slabsBest_1 h1, ← hG, goodParts_no h1]; rfl
    · rw [slabsBest_3 h1 h2, hG])
  have HGP : Hid (∀ (k : Nat) (x y : Int), (goodParts long ys)[k]? = some (x, y) → 0 ≤ x ∧ x < y ∧ y ≤ 60) := Lib.hid (fun k x y hk => by
    cases h1 : badOk long ys
    · rw [goodParts_no h1] at hk; simp at hk
    · have := goodParts_get h1 hk; have := badOk_long h1; omega)
  clear hG
  go_enter Tryd.func64, Tryd.ntmps64
  go_wp2_with (fail)
  refine (specLengths_any _ _ _ ls _ HL2.out (hr2.up ((Below.refl _ _).alloc (Nat.le_refl _) _) (by simp)) (by omega)).mono ?_
  rintro e w1 ⟨rfl, hb1⟩
  have t1 := below_boxed hb1
  have HO1 := Lib.hid (own_below HO0.out hb1)
  go_wp2_with (fail)
  refine (specGood_any long _ _ _ ys _ HL1.out (hr1.up t1 t1.size) (by omega)).mono ?_
  rintro e w2 hrow
  obtain ⟨Ag, cg, rfl, hgs, hb2⟩ := hrow.at_ HGL.out
  have t2 := below_next t1 hb2
  have HO2 := Lib.hid (own_below HO1.out hb2)
  have hgs := own_lower hgs t1.size
  generalize goodParts long ys = gs at *
  clear h2 hrow hb2 t1 hr1 hb1
  go_wp2
  go_loopw [7, 9] (fun v i wr => ∃ (k m : Nat) (A' : Option Addr) (c' : Nat), k ≤ G ∧ i = .int .i64 k ∧ v = .slice A' m c' ∧ Hid ((bestTo ls gs k).length = m) ∧ wr.ownsRow w.heap.size 62 2 (.slice A' m c') m (pairsV (bestTo ls gs k)) ∧ wr.ownsRow w.heap.size 31 2 (.slice Ag G cg) G (pairsV gs) ∧ Below w.heap.size w wr) (fun _ i _ => G - (intOf i).toNat)
  case atStart => exact ⟨0, 0, _, _, Nat.zero_le _, rfl, rfl, Lib.hid rfl, (by simpa [bestTo, pairsV] using HO2.out), hgs, t2⟩
  case round =>
    obtain ⟨k, m, A', c', hk, rfl, rfl, HM, hown, hgs1, hbel⟩ := hrel
    clear hgs t2
    have hsz := hbel.size
    by_cases hlt : k < G
    · obtain ⟨⟨x, y⟩, hxy⟩ : ∃ q, gs[k]? = some q := ⟨_, List.getElem?_eq_getElem (by rw [HGL.out]; omega)⟩
      obtain ⟨x0, xy, y1⟩ := HGP.out k x y hxy
      obtain ⟨b, off, rfl, hbB, hc1, hc2⟩ := RdP.of_own hgs1 k x y hxy
      have HB := Lib.hid (bestTo_succ (ls := ls) hxy)
      have HML : Hid (m ≤ 60 * k) := Lib.hid (by rw [← HM.out]; exact bestTo_len H2.out HGP.out k)
      clear hxy
      obtain ⟨wo, rfl⟩ : ∃ wo : World, wo = wr := ⟨_, rfl⟩
      have HGS := Lib.hid hgs1
      have HOWN := Lib.hid hown
      clear hgs1 hown
      have W1 : IntKind.i64.wrap (y - x) = y - x := IntWalk.i64_in _ (by omega)
      go_wp2_with (fail)
      go_still_tail 12, (by kernel_rfl)
      change wpList _ _ _ _ _ wo.drew
      generalize hw2 : wo.drew = w4
      have hb4 : Below w.heap.size w w4 := by rw [← hw2]; exact hbel.drew
      have hs4 := hb4.size
      have HOWN4 := Lib.hid (show w4.ownsRow _ _ _ _ _ _ by rw [← hw2]; exact own_drew HOWN.out)
      have HGS4 := Lib.hid (show w4.ownsRow _ _ _ _ _ _ by rw [← hw2]; exact own_drew HGS.out)
      clear hw2 W1
      go_wp2_with (go_at_call 51; refine (specBest_any (y - x) _ _ _ ls _ HL2.out (hr2.up hb4 hs4) (by omega)).mono ?_; intro e w5 hrow; obtain ⟨Am, cm, rfl, hom, hb5⟩ := hrow.at_ ((cutBest_length H2.out x0 xy y1).trans HL2.out))
      have hom := own_lower hom (base' := w.heap.size) hs4
      have hown5 := own_below HOWN4.out hb5
      have hgs5 := own_below HGS4.out hb5
      have t5 : Below w.heap.size w w5 := below_next hb4 hb5
      have HCO := Lib.hid (CutsOk.of H2.out x0 xy y1)
      generalize cutBest (y - x) ls = ms at *
      generalize bestTo ls gs k = O0 at *
      clear hb5 hrow hbel hc1 hc2 hsz hb4
      have hst : Lay2 O0 x ls ms n2 O0 x m := Lay2.start (by rw [HL2.out]; exact Nat.le_refl _) HM.out
      go_loopw [7, 10, 12] (fun v s i wr => ∃ (j m2 : Nat) (q a : Int) (A' : Option Addr) (c' : Nat) (O : List (Int × Int)), i = .int .i64 q ∧ q + 1 ≤ (j : Int) ∧ (j : Int) ≤ q + 1 ∧ j ≤ n2 ∧ s = .int .i64 a ∧ v = .slice A' m2 c' ∧ Lay2 O0 x ls ms j O a m2 ∧ wr.ownsRow w.heap.size 62 2 (.slice A' m2 c') m2 (pairsV O) ∧ wr.ownsRow w.heap.size 31 2 (.slice (some ⟨b, off, none⟩) G cg) G (pairsV gs) ∧ wr.ownsRow w.heap.size 3 1 (.slice Am n2 cm) n2 (intsV .i64 ms) ∧ Below w.heap.size w wr) (fun _ _ i _ => (intOf i + 1).toNat)
      case atStart => exact ⟨n2, m, _, _, _, _, O0, rfl, by omega, by omega, Nat.le_refl _, rfl, rfl, hst, hown5, hgs5, hom, t5⟩
      case round =>
        obtain ⟨j, m2, q, a, A1', c1', O1, rfl, hq1, hq2, hjn, rfl, rfl, hlay, hown, hgs1, hom1, hbel⟩ := hrel
        clear hown5 hgs5 hom t5 hst
        have hsz := hbel.size
        have hO0 : O0.length ≤ 300 := by have := HM.out; have := HML.out; omega
        have HLAY := Lib.hid hlay
        obtain ⟨a0, a1, hm2⟩ := hlay.bounds HCO.out x0 y1 hO0
        clear hlay hO0
        by_cases hlt2 : 0 ≤ q
        · obtain ⟨j, rfl⟩ : ∃ i : Nat, j = i + 1 := ⟨j - 1, by omega⟩
          obtain rfl : q = (j : Int) := by omega
          clear hq1 hq2 hlt2
          obtain ⟨l, hlj⟩ : ∃ l, ls[j]? = some l := ⟨_, List.getElem?_eq_getElem (by rw [HL2.out]; omega)⟩
          obtain ⟨mm, hmj⟩ : ∃ l, ms[j]? = some l := ⟨_, List.getElem?_eq_getElem (by rw [HCO.out.1, HL2.out]; omega)⟩
          obtain ⟨l0, l1⟩ := lengthsOk_get H2.out hlj
          obtain ⟨mm0, mm1, _⟩ := HCO.out.2.2 j l mm hlj hmj
          obtain ⟨b3, off3, rfl, hbB3, hd⟩ := RdI.of_own hom1 j mm hmj
          obtain ⟨b4, off4, rfl, hbB4, he⟩ := hr2 j l hlj
          rw [← hbel.cell (by exact hbB4)] at he
          have HLJ := Lib.hid hlj
          have HMJ := Lib.hid hmj
          clear hlj hmj
          obtain ⟨wo, rfl⟩ : ∃ wo : World, wo = wr := ⟨_, rfl⟩
          go_wp2
          go_loopw [7, 10, 13] (fun v s i wr => ∃ (c m3 : Nat) (a' : Int) (A' : Option Addr) (c' : Nat) (O : List (Int × Int)), i = .int .i64 c ∧ (c : Int) ≤ mm ∧ s = .int .i64 a' ∧ v = .slice A' m3 c' ∧ Lay3 O1 a l c O a' m3 ∧ wr.ownsRow w.heap.size 62 2 (.slice A' m3 c') m3 (pairsV O) ∧ wr.ownsRow w.heap.size 31 2 (.slice (some ⟨b, off, none⟩) G cg) G (pairsV gs) ∧ wr.ownsRow w.heap.size 3 1 (.slice (some ⟨b3, off3, none⟩) n2 cm) n2 (intsV .i64 ms) ∧ Below w.heap.size w wr) (fun _ _ i _ => (mm - intOf i).toNat)
          case atStart => exact ⟨0, m2, _, _, _, O1, rfl, by omega, rfl, rfl, Lay3.start HLAY.out, hown, hgs1, hom1, hbel⟩
          case round =>
            obtain ⟨c, m3, a', A2', c2', O2, rfl, hc, rfl, rfl, hlay3, hown3, hgs3, hom3, hbel3⟩ := hrel
            clear hown hgs1 hom1 hd he
            have hsz3 := hbel3.size
            obtain ⟨a3, a4, hm3⟩ := hlay3.bounds HLAY.out HCO.out x0 y1 HLJ.out HMJ.out hc
            have he := (rd_at hr2 HLJ.out).2
            have hd := (rd_at (RdI.of_own hom3) HMJ.out).2
            rw [← hbel3.cell (by exact hbB4)] at he
            have hbw : b4 < wr.heap.size := by omega
            by_cases hlt3 : (c : Int) < mm
            · have HNX := Lib.hid hlay3.next
              have HOWN3 := Lib.hid hown3
              have HGS3 := Lib.hid hgs3
              have HOM3 := Lib.hid hom3
              clear hlay3 hown3 hgs3 hom3
              go_wp2_with (at_builtin; go_must (refine wpList_append_pair _ rfl (.tmp 61) (.tmp 68) 25 rfl w.heap.size 62 i0 Tryd.underlying25 hi hz0 hz1 hz2 (.slice A2' m3 c2') m3 O2 rfl (HOWN3.out.alloc _) wr.heap.size (Newest.alloc_ rfl) rfl (by omega) (by simp; omega) ?_); intro A9 cc9 w9 hown9 hgr9; have k1 : w9.cell? ⟨b4, off4 + j, none⟩ = some (.int .i64 l) := cell_append (p := ⟨b4, off4 + j, none⟩) (u := .int .i64 l) (by go_simp) hgr9 (HOWN3.out.alloc _) (by exact hbB4))
              have HO9 := Lib.hid hown9
              have HG9 := Lib.hid (own_types (HGS3.out.alloc _) (HOWN3.out.alloc _) hgr9 (by decide))
              have HM9 := Lib.hid (own_types (HOM3.out.alloc _) (HOWN3.out.alloc _) hgr9 (by decide))
              have tt := below_append (B := w.heap.size) (a := w) (by repeat' (first | exact Below.refl _ _ | assumption | refine Below.alloc ?_ (by first | omega | (simp; done) | (simp; omega)) _ | refine Below.setCell ?_ (by first | omega | (simp; done) | (simp; omega)) _ | refine Below.drew ?_ | refine below_drawn ?_ _)) hgr9 (HOWN3.out.alloc _) (by simp; omega) (Nat.le_refl _)
              have HTT := Lib.hid tt
              clear hown9 hgr9 tt
              go_wp2
              go_roundw
              case rel => exact ⟨c + 1, m3 + 1, _, A9, cc9, _, by go_num, by omega, rfl, rfl, HNX.out, HO9.out, HG9.out, HM9.out, HTT.out⟩
              case measure => simp [intOf] <;> omega
            · obtain rfl : mm = (c : Int) := by omega
              have HFN := Lib.hid (hlay3.fin HLAY.out HLJ.out HMJ.out)
              clear hlay3
              go_wp2
              go_roundw
              case rel => exact ⟨j, m3, _, _, _, _, O2, rfl, by omega, by omega, by omega, rfl, rfl, HFN.out, hown3, hgs3, hom3, hbel3⟩
              case measure => simp [intOf] <;> omega
        · obtain rfl : j = 0 := by omega
          have HN1 : Hid (bestTo ls gs (k + 1) = O1) := Lib.hid (by rw [HB.out, HLAY.out.1]; simp)
          have HN2 : Hid (O1.length = m2) := Lib.hid HLAY.out.2.2
          go_wp2
          go_roundw
          case rel => exact ⟨k + 1, m2, _, _, by omega, by go_num, rfl, Lib.hid (by rw [HN1.out, HN2.out]), by rw [HN1.out]; exact hown, hgs1, hbel⟩
          case measure => simp [intOf] <;> omega
    · go_wp2
      go_ret
      obtain rfl : k = G := by omega
      rw [HFIN.out]
      exact PairsRow.mk HM.out (Nat.le_refl _) hown hbel
end Go.Proofs.YtcegmlogjbnoeaaDoor
