/- The walk of the law FnCutWaste (written by genlaws.py). -/
import Derived.Test.YtcegmlogjbnoeaaDoorDrawCW
import Derived.Test.YtcegmlogjbnoeaaDoorAlive
import Derived.Test.YtcegmlogjbnoeaaDoorWaste
import Derived.Test.YtcegmlogjbnoeaaDoorWFnCutLeast
namespace Go.Proofs.YtcegmlogjbnoeaaDoor
open Go.RowKit
set_option linter.unusedVariables false
set_option maxRecDepth 100000 in
set_option maxHeartbeats 1000000 in
theorem walkFnCutWaste (w : World) (A : Option Addr) (n c : Nat) (xs : List Int) (hl : xs.length = n) (rd : RdI .u8 w w.heap.size A xs) (hc : n ≤ c) (hx : ∀ x ∈ xs, 0 ≤ x ∧ x ≤ 255) :
    Calls Tryd.prog 10 #[.slice A n c] w fun e w' => e = .returned (.bool true) ∧ Below w.heap.size w w' := by
  by_cases hs0 : 1048576 < (n : Int)
  · go_enter Tryd.func10, Tryd.ntmps10
    go_wp2
    go_ret
    exact ⟨rfl, Below.refl _ _⟩
  have hn : n ≤ 1048576 := by omega
  go_enter Tryd.func10, Tryd.ntmps10
  go_wp2_with (fail)
  refine (drawCW_st hl hc rd hn hx).mono ?_
  rintro e w1 ⟨v, A4, m, c4, L, A5, m5, c5, M, rfl, v0, v1, hL, hn9, hM, hn5, hall, o1, o2, hb⟩
  clear rd hx hl hc
  obtain ⟨i0, hi, hz0, hz1, hz2⟩ := info_parts info_int
  have gl : GI w w1 A4 L := ⟨hb, RdI.of_own o1⟩
  have gi : IO1 w w1 3 (.slice A5 m5 c5) m5 M := ⟨hb, o2⟩
  have HL := Lib.hid hL
  have HM := Lib.hid hM
  clear o1 o2 hb hL hM
  by_cases hneg : cutWaste v L M < 0
  · have hm1 := cutWaste_neg hneg
    clear hneg hall
    go_wp2_with (first
      | (go_at_call 42; refine (implWaste_any _ _ _ _ L _ _ _ M _ HL.out gl.rd (by omega) HM.out gi.rd (by omega)).mono ?_; rintro e w9 ⟨rfl, rfl⟩)
      | (go_at_call 43; refine (specWaste_any _ _ _ _ L _ _ _ M _ HL.out gl.rd (by omega) HM.out gi.rd (by omega)).mono ?_; rintro e w2 ⟨rfl, hb2⟩; have gi := gi.next hb2; have gl := gl.next hb2)
      | (go_at_call 21; refine (alive_any _).mono ?_; rintro e w2 ⟨rfl, hb2⟩; have gi := gi.next hb2))
    go_ret
    exact ⟨rfl, gi.be⟩
  · have h0 : 0 ≤ cutWaste v L M := by omega
    obtain ⟨hv1, hv2, hlen, hpos, hsum, hcw⟩ := cutWaste_valid h0
    have hvb := inB_iff.1 hv1
    have hle := cutLeast_le h0
    have h60 : cutWaste v L M ≤ 60 := by
      have h1 : 0 ≤ cutSum L M := by
        have := (tb_cutSum hv2 L M v.toNat (fun l hl => List.getElem?_of_mem hl) hpos (by omega)).2
        exact this
      omega
    have hlen' : m5 = m := by rw [HM.out, HL.out] at hlen; exact hlen
    subst hlen'
    have H0 := Lib.hid h0
    have HV := Lib.hid hv2
    have HA := Lib.hid hall
    clear hall hv1 hv2 hpos hsum hcw hlen
    go_wp2_with (first
      | (go_at_call 42; refine (implWaste_any _ _ _ _ L _ _ _ M _ HL.out gl.rd (by omega) HM.out gi.rd (by omega)).mono ?_; rintro e w9 ⟨rfl, rfl⟩)
      | (go_at_call 43; refine (specWaste_any _ _ _ _ L _ _ _ M _ HL.out gl.rd (by omega) HM.out gi.rd (by omega)).mono ?_; rintro e w2 ⟨rfl, hb2⟩; have gi := gi.next hb2; have gl := gl.next hb2))
    have GLH := Lib.hid gl
    have GIH := Lib.hid gi
    clear gi gl hb2
    go_loopw [7, 8] (fun i t wr => ∃ k : Nat, k ≤ m5 ∧ i = .int .i64 k ∧ GI w wr A4 L ∧ IO1 w wr 3 (.slice A5 m5 c5) m5 M) (fun i _ _ => m5 - (intOf i).toNat)
    case atStart => exact ⟨0, Nat.zero_le _, rfl, GLH.out, GIH.out⟩
    case round =>
      obtain ⟨k, hk, rfl, gl, gi⟩ := hrel
      clear GLH GIH
      by_cases hlt : k < m5
      · obtain ⟨l, hll⟩ : ∃ q, L[k]? = some q := ⟨_, List.getElem?_eq_getElem (by rw [HL.out]; omega)⟩
        obtain ⟨y, hy⟩ : ∃ q, M[k]? = some q := ⟨_, List.getElem?_eq_getElem (by rw [HM.out]; omega)⟩
        obtain ⟨g, cc, hform, -, -⟩ := own_form gi.own (by omega)
        injection hform with hA _ hC
        subst hA
        obtain ⟨y0, y1⟩ := HA.out y (List.mem_of_getElem? hy)
        obtain ⟨l1, l2⟩ := lengthsOk_get HV.out hll
        have hsz := gi.be.size
        have HY := Lib.hid hy
        have HLL := Lib.hid hll
        have GL1 := Lib.hid gl
        have GI1 := Lib.hid gi
        clear gl gi hy hll hC
        have W1 : IntKind.i64.wrap (y - 1) = y - 1 := IntWalk.i64_in _ (by omega)
        go_wp2_with (at_builtin; go_must (refine wpList_append_own_w _ (by rfl) (.tmp 41) (.tmp 42) 24 rfl wr.heap.size 3 i0 _ 1 8 Tryd.underlying24 hi hz0 hz1 hz2 rfl (by decide) (.slice (some ⟨wr.heap.size, 0, none⟩) 0 0) 0 [] rfl (own_made0 (Nat.le_refl _) _ _) ⟨g, 0, none⟩ m5 c5 (intsV .i64 M) rfl (by rw [intsV_length, HM.out, Nat.mul_one]) (own_cells (GI1.out.own.alloc _)) intsV_one (by unfold maxLen; omega) (by omega) (by simp) ?_); intro v6 w6 hown6 hgr6 hv6; simp only [Nat.zero_add, List.nil_append] at hown6; have be6 := Below.grown ((Below.refl wr.heap.size wr).alloc (Nat.le_refl _) (.cells #[] 3)) hgr6 (by simp) (fun k hk => own_ge (own_made0 (Nat.le_refl wr.heap.size) 3 1) hk); obtain ⟨g6, c6, rfl, hg6, -⟩ := own_form hown6 (by omega); have d1 := own_int hown6 HY.out; have f1 := hown6.frozenAt k)
        have b7 : Below wr.heap.size wr (w6.setCell ⟨g6, k, none⟩ (.int .i64 (y - 1))) := Below.setCell (p := ⟨g6, k, none⟩) be6 hg6 _
        have own7 := own_set1 (k := k) (x := y - 1) hown6
        clear be6 hown6 hgr6 hv6 d1 f1
        generalize w6.setCell ⟨g6, k, none⟩ (.int .i64 (y - 1)) = w7 at b7 own7 ⊢
        have gl7 := GL1.out.next b7
        have gi7 := GI1.out.next b7
        have GL7 := Lib.hid gl7
        have GI7 := Lib.hid gi7
        have c1 := own_int gi7.own HY.out
        obtain ⟨b, off, rfl, hbB, c2⟩ := gl7.rd k l HLL.out
        have rd7 := Lib.hid (RdI.of_own own7)
        have hlen7 : Hid ((M.set k (y - 1)).length = m5) := Lib.hid (by rw [List.length_set]; exact HM.out)
        clear gl7 gi7 own7 b7 W1
        by_cases hpos : 0 < y
        · have hcl := cutWaste_less H0.out HLL.out HY.out hpos
          have W2 : IntKind.i64.wrap (cutWaste v L M + l) = cutWaste v L M + l := IntWalk.i64_in _ (by omega)
          go_quiet (first | (go_at_call 42; exact Calls.quiet_of_same ((implWaste_any v (some ⟨b, off, none⟩) m5 c4 L (some ⟨g6, 0, none⟩) m5 c6 (M.set k (y - 1)) _ HL.out (GL7.out.rd.dN _) (by omega) hlen7.out (rd7.out.dN _) (by omega)).mono (fun e w' ⟨h1, h2⟩ => ⟨h1, h2.symm⟩))))
          clear W2
          go_wp2
          go_roundw
          case rel => exact ⟨k + 1, by omega, by go_num, GL7.out.next (below_drawn (Below.refl _ _) _), GI7.out.next (below_drawn (Below.refl _ _) _)⟩
          case measure => simp [intOf] <;> omega
        · have hd : decide (0 < y) = false := decide_eq_false hpos
          go_quiet (fail)
          go_wp2
          go_roundw
          case rel => exact ⟨k + 1, by omega, by go_num, GL7.out.next (below_drawn (Below.refl _ _) _), GI7.out.next (below_drawn (Below.refl _ _) _)⟩
          case measure => simp [intOf] <;> omega
      · go_wp2_with (first
          | (go_at_call 25; refine (implCutLeast_any _ _ _ _ L _ HL.out gl.rd (by omega)).mono ?_; rintro e w2 ⟨rfl, hb2⟩; have gi := gi.next hb2))
        go_ret
        exact ⟨rfl, gi.be⟩
end Go.Proofs.YtcegmlogjbnoeaaDoor
