/- 'StrandsFit' of the reference: the walk. -/
import Derived.Test.YtcegmlogjbnoeaaDoorFitSize
import Derived.Test.YtcegmlogjbnoeaaDoorCutWalk
import Derived.Test.YtcegmlogjbnoeaaDoorOwnApart
import Derived.Test.YtcegmlogjbnoeaaDoorSz
import Derived.Test.YtcegmlogjbnoeaaDoorInfo
import Derived.Outline
namespace Go.Proofs.YtcegmlogjbnoeaaDoor
open Go.RowKit
set_option linter.unusedVariables false
theorem own_cellI {w : World} {base g n c : Nat} {e : TypeId} {xs : List Int} (h : w.ownsRow base e 1 (.slice (some ⟨g, 0, none⟩) n c) n (intsV .i64 xs)) {j : Nat} {x : Int} (hj : xs[j]? = some x) : w.cell? ⟨g, j, none⟩ = some (.int .i64 x) := by
  have hc := h.cells (g := g) rfl j (.int .i64 x) (by simp [intsV, hj])
  rw [add_none] at hc
  simpa using hc
theorem leftRow_len (ws : List Int) (L : Int) (o : List Nat) : (leftRow ws L o).length = (ffRun ws L o).1.length := by simp [leftRow]
theorem leftRow_at {ws : List Int} {s L : Int} {k : Nat} {o : List Nat} (h : SizeTo ws s k o) (hw : wantsOk ws L = true) {j : Nat} (hj : j < ws.length) : ∃ z, (leftRow ws L o)[j]? = some z ∧ 0 ≤ z ∧ z ≤ L := by
  have hf := h.ffi hw
  have h1 := hf.at_ j hj
  have h2 := hf.le j hj
  have h3 : 0 ≤ load ws.length (wF ws) (memB o) (ffRun ws L o).2 j := sm_nonneg fun i hi => by
    have := (wants_fits hw i hi).1
    split <;> omega
  refine ⟨L - load ws.length (wF ws) (memB o) (ffRun ws L o).2 j, ?_, by omega, by omega⟩
  unfold leftRow
  rw [List.getElem?_map, h1]; rfl
/-- the strands before are too full: there is one more -/
theorem leftRow_more {ws : List Int} {s L : Int} {k j : Nat} {o : List Nat} (h : SizeTo ws s k o) (hw : wantsOk ws L = true) (hk : wF ws k = s) (hl : k < ws.length) (hj : j ≤ ws.length)
    (hb : ∀ (b : Nat) (y : Int), b < j → (leftRow ws L o)[b]? = some y → y < wF ws k) : j < ws.length := by
  have hf := h.ffi hw
  obtain ⟨h1, h2⟩ := ffs_lt hf hw hl (h.room hk hl)
  refine Nat.lt_of_le_of_lt (Nat.le_of_not_lt fun hlt => ?_) h2
  have hlt2 : ffS L (ffRun ws L o).1 (wF ws k) < (ffRun ws L o).1.length := by rw [hf.len]; exact h2
  have h3 := hf.at_ _ h2
  have h4 := ffs_fits hlt2 h3
  have h5 : (leftRow ws L o)[ffS L (ffRun ws L o).1 (wF ws k)]? = some (L - load ws.length (wF ws) (memB o) (ffRun ws L o).2 (ffS L (ffRun ws L o).1 (wF ws k))) := by
    unfold leftRow
    rw [List.getElem?_map, h3]; rfl
  have := hb _ _ hlt h5
  omega
theorem intsV_snoc (k : IntKind) (xs : List Int) (x : Int) : intsV k (xs ++ [x]) = intsV k xs ++ intsV k [x] := by simp [intsV]
set_option maxRecDepth 100000 in
set_option maxHeartbeats 2000000 in
theorem specFit_any (A : Option Addr) (n c : Nat) (ws : List Int) (long : Int) (w : World) (hl : ws.length = n) (hr : RdI .i64 w w.heap.size A ws) (hn : n ≤ 1048576) (xs : List Int) (hxs : FitIs ws long xs) :
    Calls Tryd.prog 67 #[.slice A n c, .int .i64 long] w (IntsRow 3 xs w) := by
  obtain ⟨i0, hi, hz0, hz1, hz2⟩ := info_parts info_int
  have HL := Lib.hid hl
  clear hl
  have HO := Lib.hid (World.ownsRow_made (e := 3) (size := 1) (base := w.heap.size) w #[] 0 (Nat.le_refl _) (Nat.zero_le _) rfl)
  have tA : Below w.heap.size w (w.alloc (.cells #[] 3)) := (Below.refl _ _).alloc (Nat.le_refl _) _
  have hrA := hr.up tA tA.size
  cases h1 : wantsOk ws long
  · obtain rfl := hxs.no h1
    go_enter Tryd.func67, Tryd.ntmps67
    go_wp2_with (go_at_call 34; refine (specWants_any _ _ _ ws long _ HL.out hrA (by omega)).mono ?_; rintro e w' ⟨rfl, rfl⟩)
    go_ret
    exact IntsRow.mk rfl (Nat.le_refl _) (by simpa [intsV] using HO.out) tA
  obtain ⟨n8, L0, L1⟩ := wantsOk_len h1
  rw [HL.out] at n8
  have H1 := Lib.hid h1
  go_enter Tryd.func67, Tryd.ntmps67
  go_wp2_with (go_at_call 34; refine (specWants_any _ _ _ ws long _ HL.out hrA (by omega)).mono ?_; rintro e w' ⟨rfl, rfl⟩)
  have HA0 := Lib.hid (HO.out.alloc (.cells #[] 3))
  have HB0 := Lib.hid (World.ownsRow_made (e := 3) (size := 1) (base := w.heap.size) (w.alloc (.cells #[] 3)) #[] 0 (by simp) (Nat.zero_le _) rfl)
  have tB : Below w.heap.size w ((w.alloc (.cells #[] 3)).alloc (.cells #[] 3)) := tA.alloc (by simp) _
  clear hrA HO h1
  go_loopw [5, 6, 7] (fun v u i wr => ∃ (k : Nat) (A1 : Option Addr) (c1 : Nat) (A2 : Option Addr) (c2 : Nat), k ≤ n ∧ i = .int .i64 k ∧ v = .slice A1 k c1 ∧ u = .slice A2 k c2 ∧ wr.ownsRow w.heap.size 3 1 (.slice A1 k c1) k (intsV .i64 (List.replicate k (-1))) ∧ wr.ownsRow w.heap.size 3 1 (.slice A2 k c2) k (intsV .i64 (List.replicate k long)) ∧ ApartV (.slice A1 k c1) (.slice A2 k c2) ∧ Below w.heap.size w wr) (fun _ _ i _ => n - (intOf i).toNat)
  case atStart => exact ⟨0, _, _, _, _, Nat.zero_le _, rfl, rfl, rfl, (by simpa [intsV] using HA0.out), (by simpa [intsV] using HB0.out), (fun k h1 h2 => by simp [Value.ownBlock] at h1 h2; omega), tB⟩
  case round =>
    obtain ⟨k, A1, c1, A2, c2, hk, rfl, rfl, rfl, own1, own2, hap, hbel⟩ := hrel
    have hsz := hbel.size
    clear HA0 HB0 tA tB
    by_cases hlt : k < n
    · have O1 := Lib.hid own1
      have O2 := Lib.hid own2
      have HAP := Lib.hid hap
      clear own1 own2 hap hr
      go_wp2_with (first
        | (at_builtin; refine wpList_append_int_at _ rfl (.tmp 24) (.tmp 25) 24 rfl w.heap.size 3 i0 Tryd.underlying24 hi hz0 hz1 hz2 (.slice A1 k c1) k (List.replicate k (-1)) rfl (O1.out.alloc _) wr.heap.size (Newest.alloc_ rfl) rfl (by omega) (by simp; omega) ?_; intro A8 cc8 w8 hown8 hgr8 hat8; have tt8 := below_append (B := w.heap.size) (a := w) (by repeat' (first | exact Below.refl _ _ | assumption | refine Below.alloc ?_ (by first | omega | (simp; done) | (simp; omega)) _ | refine Below.setCell ?_ (by first | omega | (simp; done) | (simp; omega)) _ | refine Below.drew ?_ | refine below_drawn ?_ _)) hgr8 (O1.out.alloc _) (by simp; omega) (Nat.le_refl _); have own2' := own_apartV (O2.out.alloc _) HAP.out hgr8; have hap' := HAP.out.grown (O2.out.alloc _) hat8; have O1b := Lib.hid hown8; have O2b := Lib.hid own2'; have HAPb := Lib.hid hap'; have T8 := Lib.hid tt8; have hsz8 := tt8.size; clear hown8 hgr8 hat8 tt8 own2' hap' O1 O2 HAP)
        | (at_builtin; refine wpList_append_int_at _ rfl (.tmp 27) (.tmp 29) 24 rfl w.heap.size 3 i0 Tryd.underlying24 hi hz0 hz1 hz2 (.slice A2 k c2) k (List.replicate k long) rfl (O2b.out.alloc _) w8.heap.size (Newest.alloc_ rfl) rfl (by omega) (by simp; omega) ?_; intro A9 cc9 w9 hown9 hgr9 hat9; have tt9 := below_append (B := w.heap.size) (a := w) (T8.out.alloc hsz8 _) hgr9 (O2b.out.alloc _) (by simp; omega) (Nat.le_refl _); have own1' := own_apartV (O1b.out.alloc _) HAPb.out.symm hgr9; have hap' := HAPb.out.symm.grown (O1b.out.alloc _) hat9; clear hgr9 hat9))
      go_roundw
      case rel => exact ⟨k + 1, A8, cc8, A9, cc9, by omega, by go_num, rfl, rfl, by rw [List.replicate_succ']; exact own1', by rw [List.replicate_succ']; exact hown9, hap'.symm, tt9⟩
      case measure => simp [intOf] <;> omega
    · obtain rfl : k = n := by omega
      rw [← HL.out, ← whereRow_nil ws long, HL.out] at own1
      rw [← HL.out, ← leftRow_nil ws long, HL.out] at own2
      have hz := SizeTo.zero H1.out
      obtain ⟨S, rfl⟩ := Int.eq_ofNat_of_zero_le (show 0 ≤ long by omega)
      have HZ := Lib.hid hz
      have O1 := Lib.hid own1
      have O2 := Lib.hid own2
      have HAP := Lib.hid hap
      have HB := Lib.hid hbel
      clear hz own1 own2 hap hbel
      go_wp2_with (fail)
      go_loopw [8] (fun v wq => ∃ (s : Nat) (o : List Nat), s ≤ S ∧ v = .int .i64 s ∧ SizeTo ws s 0 o ∧ wq.ownsRow w.heap.size 3 1 (.slice A1 k c1) k (intsV .i64 (whereRow ws S o)) ∧ wq.ownsRow w.heap.size 3 1 (.slice A2 k c2) k (intsV .i64 (leftRow ws S o)) ∧ Below w.heap.size w wq) (fun v _ => (intOf v).toNat)
      case atStart => exact ⟨S, [], Nat.le_refl _, rfl, HZ.out, O1.out, O2.out, HB.out⟩
      case round =>
        obtain ⟨s, o, hs, rfl, hz, own1, own2, hbel⟩ := hrel
        clear O1 O2 HZ HB
        by_cases hs0 : 0 < s
        · go_wp2_with (fail)
          go_loopw [9] (fun v wp => ∃ (q : Nat) (o : List Nat), q ≤ k ∧ v = .int .i64 q ∧ SizeTo ws s q o ∧ wp.ownsRow w.heap.size 3 1 (.slice A1 k c1) k (intsV .i64 (whereRow ws S o)) ∧ wp.ownsRow w.heap.size 3 1 (.slice A2 k c2) k (intsV .i64 (leftRow ws S o)) ∧ Below w.heap.size w wp) (fun v _ => k - (intOf v).toNat)
          case atStart => exact ⟨0, o, Nat.zero_le _, rfl, hz, own1, own2, hbel⟩
          case round =>
            clear own1 own2 hbel hz o
            obtain ⟨q, o, hq, rfl, hz, own1, own2, hbel⟩ := hrel
            by_cases hlt : q < k
            · obtain ⟨x, hx⟩ : ∃ x, ws[q]? = some x := ⟨_, List.getElem?_eq_getElem (by rw [HL.out]; omega)⟩
              obtain ⟨b, off, rfl, hbB, hc⟩ := hr q x hx
              rw [← hbel.cell (by exact hbB)] at hc
              obtain ⟨x0, x1⟩ := wantsOk_get H1.out hx
              have hwf := wF_get hx
              obtain ⟨g1, cc1, hform1, hg1, -⟩ := own_form own1 (by omega)
              injection hform1 with hA1 _ hC1
              subst hA1
              clear hC1 cc1
              obtain ⟨g2, cc2, hform2, hg2, -⟩ := own_form own2 (by omega)
              injection hform2 with hA2 _ hC2
              subst hA2
              clear hC2 cc2
              have hne : g1 ≠ g2 := fun e => HAP.out g1 rfl (by rw [e]; rfl)
              have hne2 : g2 ≠ g1 := fun e => hne e.symm
              have HZ := Lib.hid hz
              have O1 := Lib.hid own1
              have O2 := Lib.hid own2
              have HB := Lib.hid hbel
              have f1 := own1.frozenAt q
              obtain ⟨y1, hy1⟩ : ∃ y, (whereRow ws S o)[q]? = some y := ⟨_, List.getElem?_eq_getElem (by simp [whereRow]; rw [HL.out]; exact hlt)⟩
              have cw := own_cellI own1 hy1
              clear hy1
              have hql : q < ws.length := by rw [HL.out]; exact hlt
              have HQL := Lib.hid hql
              have HX := Lib.hid hx
              clear hz own1 hbel hr hx hql
              by_cases hsx : x = (s : Int)
              · subst hsx
                have HWF := Lib.hid hwf
                clear hwf
                go_wp2_with (fail)
                go_loop [10] (fun i => ∃ j : Nat, j < k ∧ i = .int .i64 j ∧ ∀ (b : Nat) (y : Int), b < j → (leftRow ws S o)[b]? = some y → y < wF ws q) (fun i => k - (intOf i).toNat)
                case atStart => exact ⟨0, by omega, rfl, fun b y h => absurd h (by omega)⟩
                case round =>
                  obtain ⟨j, hj, rfl, hbj⟩ := hrel
                  obtain ⟨z, hz, z0, z1⟩ := leftRow_at (j := j) HZ.out H1.out (by rw [HL.out]; exact hj)
                  have cl := own_cellI own2 hz
                  have f2 := own2.frozenAt j
                  have HBJ := Lib.hid hbj
                  have HZZ := Lib.hid hz
                  clear hbj hz own2
                  by_cases hlz : z < (s : Int)
                  · have HBN : ∀ (b : Nat) (y : Int), b < j + 1 → (leftRow ws S o)[b]? = some y → y < wF ws q := fun b y hb hy => by
                      by_cases e : b < j
                      · exact HBJ.out b y e hy
                      · obtain rfl : b = j := by omega
                        rw [HZZ.out] at hy
                        injection hy with hy
                        rw [HWF.out]; omega
                    have hj1 := leftRow_more HZ.out H1.out HWF.out HQL.out (j := j + 1) (by rw [HL.out]; omega) HBN
                    rw [HL.out] at hj1
                    have HBN2 := Lib.hid HBN
                    clear HBN
                    go_wp2
                    go_round
                    case rel => exact ⟨j + 1, hj1, by go_num, HBN2.out⟩
                    case measure => simp [intOf] <;> omega
                  · have hstep := leftRow_is HBJ.out HZZ.out (by rw [HWF.out]; omega)
                    have HL1 := Lib.hid (leftRow_step hstep HZZ.out)
                    have HW1 := Lib.hid (whereRow_step (L := (S : Int)) (HZ.out.fresh HWF.out) HQL.out)
                    have HZ1 := Lib.hid (HZ.out.take HWF.out HQL.out)
                    have HST := Lib.hid hstep
                    clear hstep
                    go_wp2
                    go_roundw
                    case rel =>
                      refine ⟨q + 1, o ++ [q], by omega, by go_num, HZ1.out, ?_, ?_, ?_⟩
                      · rw [← HW1.out, HST.out]
                        exact own_far (own_set1 O1.out) _ hne _
                      · rw [← HL1.out, HWF.out]
                        exact own_set1 (own_far O2.out _ hne2 _)
                      · exact (HB.out.setCell hg1 _).setCell hg2 _
                    case measure => simp [intOf] <;> omega
              · have hxs' : (x == (s : Int)) = false := by simpa using hsx
                have HZ1 := Lib.hid (HZ.out.skip (by rw [hwf]; exact hsx))
                clear hwf hsx
                go_wp2_with (fail)
                go_loop [10] (fun i => i = .int .i64 0) (fun i => 0)
                case atStart => exact rfl
                case round =>
                  subst hrel
                  go_wp2
                  go_roundw
                  case rel => exact ⟨q + 1, o, by omega, by go_num, HZ1.out, O1.out, O2.out, HB.out⟩
                  case measure => simp [intOf] <;> omega
            · obtain rfl : q = k := by omega
              have HZ1 := Lib.hid (show SizeTo ws ((s : Int) - 1) 0 o by rw [← HL.out] at hz; exact hz.round)
              clear hz
              go_wp2
              go_roundw
              case rel => exact ⟨s - 1, o, by omega, by go_num, (by rw [show ((s - 1 : Nat) : Int) = (s : Int) - 1 by omega]; exact HZ1.out), own1, own2, hbel⟩
              case measure => simp [intOf] <;> omega
        · obtain rfl : s = 0 := by omega
          have ho := SizeTo.done hz H1.out
          have hrow := whereRow_full (L := (S : Int)) ho
          have hxr := hxs.yes H1.out ho
          rw [hrow, ← hxr] at own1
          have hlen := hxs.len H1.out
          rw [HL.out] at hlen
          clear hz
          go_wp2
          go_ret
          exact IntsRow.mk hlen (Nat.le_refl _) own1 hbel
end Go.Proofs.YtcegmlogjbnoeaaDoor
