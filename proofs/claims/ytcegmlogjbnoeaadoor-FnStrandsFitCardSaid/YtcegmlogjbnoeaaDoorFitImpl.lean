/- 'StrandsFit' of the program: the walk. -/
import Derived.Test.YtcegmlogjbnoeaaDoorFitSort
import Derived.Test.YtcegmlogjbnoeaaDoorCutWalk
import Derived.BigRegion
namespace Go.Proofs.YtcegmlogjbnoeaaDoor
open Go.RowKit
set_option linter.unusedVariables false
/-- what the row of strands holds behind the wants of o -/
def whereZ (ws : List Int) (L : Int) (o : List Nat) : List Int := (List.range ws.length).map fun i => if i ∈ o then (((ffRun ws L o).2 i : Nat) : Int) else 0
theorem whereZ_nil (ws : List Int) (L : Int) : whereZ ws L [] = List.replicate ws.length 0 := by
  refine List.ext_getElem (by simp [whereZ]) fun i h1 h2 => ?_
  simp [whereZ]
theorem whereZ_full {ws : List Int} {L : Int} {o : List Nat} (h : OrdTo ws ws.length o) : whereZ ws L o = fitRow ws L o := by
  unfold whereZ fitRow
  refine List.map_congr_left fun i hi => ?_
  rw [if_pos ((h.2 i).2 (List.mem_range.1 hi))]
theorem whereZ_step {ws : List Int} {L : Int} {o : List Nat} {k : Nat} (hn : k ∉ o) (hl : k < ws.length) : (whereZ ws L o).set k ((ffS L (ffRun ws L o).1 (wF ws k) : Nat) : Int) = whereZ ws L (o ++ [k]) := by
  refine List.ext_getElem (by simp [whereZ]) fun i h1 h2 => ?_
  rw [List.getElem_set]
  simp only [whereZ, List.getElem_map, List.getElem_range, ffRun_snoc, ffStep, List.mem_append, List.mem_singleton]
  by_cases e : k = i
  · subst e; simp
  · have e2 : ¬ i = k := fun h => e h.symm
    simp [e, e2]
theorem whereZ_len (ws : List Int) (L : Int) (o : List Nat) : (whereZ ws L o).length = ws.length := by simp [whereZ]
def cutZ (ws : List Int) (L : Int) (o : List Nat) : List Int := (ffRun ws L o).1
theorem cutZ_nil (ws : List Int) (L : Int) : cutZ ws L [] = List.replicate ws.length 0 := rfl
section
variable {ws : List Int} {L : Int} {o : List Nat} {k i : Nat}
/-- the first k of the order -/
theorem ord_ffi (hw : wantsOk ws L = true) (ho : OrdTo ws ws.length o) (k : Nat) : FFI ws L (o.take k) (ffRun ws L (o.take k)) := by
  have h1 : (o.take k).Nodup := ho.nodup.sublist (List.take_sublist k o)
  have h2 : ∀ i ∈ o.take k, i < ws.length := fun i hi => (ho.2 i).1 (List.mem_of_mem_take hi)
  exact ffi_run hw _ h1 h2 (nodup_len _ _ h1 h2)
theorem cutZ_at (hw : wantsOk ws L = true) (ho : OrdTo ws ws.length o) {j : Nat} (hj : j < ws.length) : ∃ z, (cutZ ws L (o.take k))[j]? = some z ∧ 0 ≤ z ∧ z ≤ L := by
  have hf := ord_ffi hw ho k
  refine ⟨_, hf.at_ j hj, sm_nonneg fun i hi => ?_, hf.le j hj⟩
  have := (wants_fits hw i hi).1
  split <;> omega
theorem ord_next (ho : OrdTo ws ws.length o) (hi : o[k]? = some i) : i < ws.length ∧ i ∉ o.take k ∧ (o.take k).length < ws.length ∧ o.take (k + 1) = o.take k ++ [i] := by
  obtain ⟨hl, he⟩ := List.getElem?_eq_some_iff.1 hi
  refine ⟨(ho.2 i).1 (List.mem_of_getElem? hi), fun hm => ?_, by rw [List.length_take]; have := ho.length; omega, by rw [List.take_add_one, hi]; rfl⟩
  obtain ⟨q, hq, hqe⟩ := List.mem_iff_getElem.1 hm
  rw [List.getElem_take] at hqe
  simp only [List.length_take] at hq
  have hp := List.pairwise_iff_getElem.1 ho.nodup q k (by omega) hl (by omega)
  exact hp (by rw [hqe, he])
/-- the strands before are too full: there is one more -/
theorem cutZ_more (hw : wantsOk ws L = true) (ho : OrdTo ws ws.length o) (hi : o[k]? = some i) {j : Nat} (hj : j ≤ ws.length)
    (hb : ∀ (b : Nat) (y : Int), b < j → (cutZ ws L (o.take k))[b]? = some y → L < y + wF ws i) : j < ws.length := by
  obtain ⟨n1, n2, n3, n4⟩ := ord_next ho hi
  have hf := ord_ffi hw ho k
  obtain ⟨h1, h2⟩ := ffs_lt hf hw n1 n3
  refine Nat.lt_of_le_of_lt (Nat.le_of_not_lt fun hlt => ?_) h2
  have hlt2 : ffS L (ffRun ws L (o.take k)).1 (wF ws i) < (ffRun ws L (o.take k)).1.length := by rw [hf.len]; exact h2
  have h3 := hf.at_ _ h2
  have h4 := ffs_fits hlt2 h3
  have := hb _ _ hlt h3
  omega
theorem cutZ_is (ho : OrdTo ws ws.length o) (hi : o[k]? = some i) {j : Nat} {z : Int} (hb : ∀ (b : Nat) (y : Int), b < j → (cutZ ws L (o.take k))[b]? = some y → L < y + wF ws i) (hz : (cutZ ws L (o.take k))[j]? = some z) (hf : z + wF ws i ≤ L) :
    (cutZ ws L (o.take k)).set j (z + wF ws i) = cutZ ws L (o.take (k + 1)) ∧ (whereZ ws L (o.take k)).set i (j : Int) = whereZ ws L (o.take (k + 1)) := by
  obtain ⟨n1, n2, n3, n4⟩ := ord_next ho hi
  have hs : ffS L (ffRun ws L (o.take k)).1 (wF ws i) = j := ffs_is hb hz hf
  constructor
  · rw [n4]
    unfold cutZ at hz ⊢
    rw [ffRun_snoc, ffStep, hs, List.getD_eq_getElem?_getD, hz]; rfl
  · rw [n4, ← whereZ_step n2 n1, hs]
end
theorem castI_len (o : List Nat) : (castI o).length = o.length := by simp [castI]
theorem castI_get {o : List Nat} {k i : Nat} (h : o[k]? = some i) : (castI o)[k]? = some (i : Int) := by simp [castI, h]
set_option maxRecDepth 100000 in
set_option maxHeartbeats 2000000 in
theorem implFit_any (A : Option Addr) (n c : Nat) (ws : List Int) (long : Int) (w : World) (hl : ws.length = n) (hr : RdI .i64 w w.heap.size A ws) (hn : n ≤ 1048576) (xs : List Int) (hxs : FitIs ws long xs) :
    Calls Tryd.prog 66 #[.slice A n c, .int .i64 long] w (IntsRow 3 xs w) := by
  obtain ⟨i0, hi, hz0, hz1, hz2⟩ := info_parts info_int
  have HL := Lib.hid hl
  clear hl
  have tA : Below w.heap.size w (w.alloc (.cells #[.slice A n c] 24)) := (Below.refl _ _).alloc (Nat.le_refl _) _
  have hrA := hr.up tA tA.size
  cases h1 : wantsOk ws long
  · obtain rfl := hxs.no h1
    go_enter Tryd.func66, Tryd.ntmps66
    go_wp2_with (go_at_call 33; refine (implWants_any _ _ _ ws long _ HL.out hrA (by omega)).mono ?_; rintro e w' ⟨rfl, rfl⟩)
    go_ret
    exact IntsRow.nil tA
  obtain ⟨n8, L0, L1⟩ := wantsOk_len h1
  rw [HL.out] at n8
  have H1 := Lib.hid h1
  have hbox : (w.alloc (.cells #[.slice A n c] 24)).cell? ⟨w.heap.size, 0, none⟩ = some (.slice A n c) := by go_simp
  have hszA : (w.alloc (.cells #[.slice A n c] 24)).heap.size = w.heap.size + 1 := by simp
  rw [hszA] at hrA
  go_enter Tryd.func66, Tryd.ntmps66
  go_wp2_with (fail)
  refine (implWants_any _ _ _ ws long _ HL.out (by rw [hszA]; exact hrA) (by omega)).mono ?_
  rintro e w0 ⟨rfl, h0⟩
  rw [h0] at tA hrA hbox hszA
  clear h0 hr
  go_wp2_with (first
    | (at_make; refine wpList_make_full _ rfl _ _ 24 rfl (w.heap.size + 1) 3 i0 _ 1 Tryd.underlying24 hi hz0 hz1 .i64 .i64 _ _ n rfl rfl (by go_num) (by go_num) (by rw [hz2]; omega) (by unfold maxLen; omega) (by omega) ?_; intro w4 hown4 hgr4))
  rw [madeI, hszA] at hown4
  have t4 : Below (w.heap.size + 1) w0 w4 := (Below.refl _ _).grown hgr4 (by omega) (by simp)
  have hz4 : w.heap.size + 1 < w4.heap.size := (hown4.lt _ rfl).2
  clear hgr4 h1
  go_loopw [21] (fun v wr => ∃ (k : Nat), k ≤ n ∧ v = .int .i64 k ∧ wr.ownsRow (w.heap.size + 1) 3 1 (.slice (some ⟨w.heap.size + 1, 0, none⟩) n n) n (intsV .i64 ((castI (List.range n)).take k ++ List.replicate (n - k) 0)) ∧ Below (w.heap.size + 1) w0 wr) (fun v _ => n - (intOf v).toNat)
  case atStart => exact ⟨0, Nat.zero_le _, rfl, (by simpa using hown4), t4⟩
  case round =>
    clear hown4 t4 hz4
    obtain ⟨k, hk, rfl, own, hbel⟩ := hrel
    have hgl := own_ge' own
    by_cases hlt : k < n
    · have hlen : (castI (List.range n)).length = n := by simp [castI]
      obtain ⟨y1, hy1⟩ : ∃ y, ((castI (List.range n)).take k ++ List.replicate (n - k) 0)[k]? = some y := ⟨_, List.getElem?_eq_getElem (by simp [castI]; omega)⟩
      have cw := own_cellS own hy1
      have f1 := own.frozenAt k
      have HF := Lib.hid (fill_step (n := n) (z := (0 : Int)) hlen (k := k) (q := (k : Int)) (by simp [castI, hlt]))
      have OWN := Lib.hid own
      clear own hy1 hlen
      go_wp2
      go_roundw
      case rel => exact ⟨k + 1, by omega, by go_num, (by rw [← HF.out]; exact own_set1 OWN.out), hbel.setCell hgl.1 _⟩
      case measure => simp [intOf] <;> omega
    · obtain rfl : k = n := by omega
      have own' : wr.ownsRow (w.heap.size + 1) 3 1 (.slice (some ⟨w.heap.size + 1, 0, none⟩) k k) k (intsV .i64 (castI (List.range k))) := by
        have e : (castI (List.range k)).take k = castI (List.range k) := List.take_of_length_le (by simp [castI])
        simpa [e] using own
      have hbr : wr.cell? ⟨w.heap.size, 0, none⟩ = some (.slice A k c) := (hbel.cell (by simp)).trans hbox
      have hrr := hrA.below hbel
      clear own
      go_wp2_with (fail)
      have hsr := hbel.size
      refine (fitSort_any (w.heap.size + 1) (w.heap.size + 1) k k w.heap.size A c ws long _ HL.out H1.out hbr (by omega) hrr (by omega) own').mono ?_
      rintro e w5 ⟨rfl, o, ho, own5, hb5⟩
      have hbel5 := hbel.trans hb5
      have hbr5 := (hb5.cell (p := ⟨w.heap.size, 0, none⟩) (by simp)).trans hbr
      have hg5 := (own_ge' own5).2
      have hoW : OrdTo ws ws.length o := by rw [HL.out]; exact ho
      have HOW := Lib.hid hoW
      have hol := ho.length
      have HOL := Lib.hid hol
      have tx := hxs.yes H1.out hoW
      have HXS := Lib.hid tx
      have BB := Lib.hid (fun (wk : World) (h : Below (w.heap.size + 1) w0 wk) => (h.cell (p := ⟨w.heap.size, 0, none⟩) (by simp)).trans hbox)
      have RR := Lib.hid (fun (wk : World) (h : Below (w.heap.size + 1) w0 wk) => hrA.below h)
      clear own' hbr hrr hbel hb5 ho hoW hol tx hxs hbox hrA
      go_wp2_with (first
        | (at_make; refine wpList_make_full w5 rfl _ _ 24 rfl (w.heap.size + 1) 3 i0 _ 1 Tryd.underlying24 hi hz0 hz1 .i64 .i64 _ _ k rfl rfl (by go_num) (by go_num) (by rw [hz2]; omega) (by unfold maxLen; omega) (by omega) ?_; intro w6 hown6 hgr6; have b56 : Below w5.heap.size w5 w6 := (Below.refl _ _).grown hgr6 (Nat.le_refl _) (by simp); have hbel6 := hbel5.trans (b56.mono (by omega)); have hbr6 := BB.out w6 hbel6; have own6 := own_below own5 b56; have hg6 := (own_ge' hown6).2)
        | (at_make; refine wpList_make_full w6 rfl _ _ 24 rfl (w.heap.size + 1) 3 i0 _ 1 Tryd.underlying24 hi hz0 hz1 .i64 .i64 _ _ k rfl rfl (by go_num) (by go_num) (by rw [hz2]; omega) (by unfold maxLen; omega) (by omega) ?_; intro w7 hown7 hgr7; have b67 : Below w6.heap.size w6 w7 := (Below.refl _ _).grown hgr7 (Nat.le_refl _) (by simp); have hbel7 := hbel6.trans (b67.mono (by omega)); have own7 := own_below own6 b67; have hownW := own_below hown6 b67))
      rw [madeI, ← HL.out, ← whereZ_nil ws long, HL.out] at hownW
      rw [madeI, ← HL.out, ← cutZ_nil ws long, HL.out] at hown7
      have OO := Lib.hid own7
      have OW := Lib.hid hownW
      have OC := Lib.hid hown7
      have BL := Lib.hid hbel7
      clear own5 hbel5 hbr5 b56 hbel6 hbr6 own6 hgr6 hown6 b67 hbel7 own7 hownW hown7 hgr7
      generalize w5.heap.size = G2 at *
      generalize w6.heap.size = G3 at *
      have ne1 : w.heap.size + 1 ≠ G2 := by omega
      have ne2 : w.heap.size + 1 ≠ G3 := by omega
      have ne3 : G2 ≠ G3 := by omega
      have ne3' : G3 ≠ G2 := by omega
      go_loopw [40] (fun v wr => ∃ (q : Nat), q ≤ k ∧ v = .int .i64 q ∧ wr.ownsRow (w.heap.size + 1) 3 1 (.slice (some ⟨w.heap.size + 1, 0, none⟩) k k) k (intsV .i64 (castI o)) ∧ wr.ownsRow (w.heap.size + 1) 3 1 (.slice (some ⟨G2, 0, none⟩) k k) k (intsV .i64 (whereZ ws long (o.take q))) ∧ wr.ownsRow (w.heap.size + 1) 3 1 (.slice (some ⟨G3, 0, none⟩) k k) k (intsV .i64 (cutZ ws long (o.take q))) ∧ Below (w.heap.size + 1) w0 wr) (fun v _ => k - (intOf v).toNat)
      case atStart => exact ⟨0, Nat.zero_le _, rfl, OO.out, OW.out, OC.out, BL.out⟩
      case round =>
        clear OO OW OC BL
        obtain ⟨q, hq, rfl, own1, own2, own3, hbel⟩ := hrel
        by_cases hltq : q < k
        · obtain ⟨i, hoi⟩ : ∃ i, o[q]? = some i := ⟨_, List.getElem?_eq_getElem (by rw [HOL.out]; exact hltq)⟩
          have HOI := Lib.hid hoi
          obtain ⟨hiw, -, -, -⟩ := ord_next HOW.out hoi
          have hik : i < k := by rw [← HL.out]; exact hiw
          have ce := own_cellS own1 (castI_get hoi)
          obtain ⟨x, hx⟩ : ∃ x, ws[i]? = some x := ⟨_, List.getElem?_eq_getElem hiw⟩
          obtain ⟨x0, x1⟩ := wantsOk_get H1.out hx
          have HWF := Lib.hid (wF_get hx)
          have HX := Lib.hid hx
          have OO := Lib.hid own1
          have OW := Lib.hid own2
          have OC := Lib.hid own3
          have BL := Lib.hid hbel
          clear hoi hiw hx own1 own2 own3
          go_wp2_with (fail)
          go_loopw [11] (fun v wr => ∃ (j : Nat), j < k ∧ v = .int .i64 j ∧ (∀ (b : Nat) (y : Int), b < j → (cutZ ws long (o.take q))[b]? = some y → long < y + wF ws i) ∧ wr.ownsRow (w.heap.size + 1) 3 1 (.slice (some ⟨w.heap.size + 1, 0, none⟩) k k) k (intsV .i64 (castI o)) ∧ wr.ownsRow (w.heap.size + 1) 3 1 (.slice (some ⟨G2, 0, none⟩) k k) k (intsV .i64 (whereZ ws long (o.take q))) ∧ wr.ownsRow (w.heap.size + 1) 3 1 (.slice (some ⟨G3, 0, none⟩) k k) k (intsV .i64 (cutZ ws long (o.take q))) ∧ Below (w.heap.size + 1) w0 wr) (fun v _ => k - (intOf v).toNat)
          case atStart => exact ⟨0, by omega, rfl, fun b y h => absurd h (by omega), OO.out, OW.out, OC.out, BL.out⟩
          case round =>
            clear OO OW OC BL ce hbel
            obtain ⟨j, hj, rfl, hb, own1, own2, own3, hbel⟩ := hrel
            obtain ⟨z, hz, z0, z1⟩ := cutZ_at (k := q) (j := j) H1.out HOW.out (by rw [HL.out]; exact hj)
            have cz := own_cellS own3 hz
            have hbr := BB.out _ hbel
            obtain ⟨b, off, rfl, hbB, hc⟩ := RR.out _ hbel i x HX.out
            have f3 := own3.frozenAt j
            have f2 := own2.frozenAt i
            obtain ⟨y2, hy2⟩ : ∃ y, (whereZ ws long (o.take q))[i]? = some y := ⟨_, List.getElem?_eq_getElem (by rw [whereZ_len, HL.out]; exact hik)⟩
            have c2 := own_cellS own2 hy2
            have hg2 := own_ge' own2
            have hg3 := own_ge' own3
            have HB := Lib.hid hb
            have HZ := Lib.hid hz
            have OO := Lib.hid own1
            have OW := Lib.hid own2
            have OC := Lib.hid own3
            clear hb hz own1 own2 own3 hy2
            go_wp2_with (fail)
            go_quiet (fail)
            by_cases hfull : long < z + x
            · have HBN : ∀ (b : Nat) (y : Int), b < j + 1 → (cutZ ws long (o.take q))[b]? = some y → long < y + wF ws i := fun b y hb hy => by
                by_cases e : b < j
                · exact HB.out b y e hy
                · obtain rfl : b = j := by omega
                  rw [HZ.out] at hy
                  injection hy with hy
                  rw [HWF.out]; omega
              have hj1 := cutZ_more H1.out HOW.out HOI.out (j := j + 1) (by rw [HL.out]; omega) HBN
              rw [HL.out] at hj1
              have HBN2 := Lib.hid HBN
              clear HBN
              go_wp2
              go_roundw
              case rel => exact ⟨j + 1, hj1, by go_num, HBN2.out, own_drewN OO.out _, own_drewN OW.out _, own_drewN OC.out _, below_drawn hbel _⟩
              case measure => simp [intOf] <;> omega
            · obtain ⟨e1, e2⟩ := cutZ_is HOW.out HOI.out HB.out HZ.out (by rw [HWF.out]; omega)
              have E1 := Lib.hid e1
              have E2 := Lib.hid e2
              clear e1 e2
              go_wp2
              go_region
              all_goals go_wp2
              go_roundw
              case rel =>
                refine ⟨q + 1, by omega, by go_num, own_far (own_far (own_drewN OO.out _) _ ne2 _) _ ne1 _, ?_, ?_, ((below_drawn hbel _).setCell hg3.1 _).setCell hg2.1 _⟩
                · rw [← E2.out]
                  exact own_set1 (own_far (own_drewN OW.out _) _ ne3 _)
                · rw [← E1.out, HWF.out]
                  exact own_far (own_set1 (own_drewN OC.out _)) _ ne3' _
              case measure => simp [intOf] <;> omega
        · obtain rfl : q = k := by omega
          have e1 : o.take q = o := List.take_of_length_le (by rw [HOL.out]; exact Nat.le_refl _)
          rw [e1, whereZ_full HOW.out, ← HXS.out] at own2
          clear e1
          have hlen : xs.length = q := by rw [HXS.out, fitRow_len, HL.out]
          go_wp2
          go_ret
          exact IntsRow.mk hlen (by omega) own2 (tA.trans (hbel.mono (by omega)))
end Go.Proofs.YtcegmlogjbnoeaaDoor
