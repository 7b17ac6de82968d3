/- 'LadleOf' of the program: the walk. -/
import Derived.Test.YtblbfgoifaddiaaDoorLadIdx
import Derived.Test.YtblbfgoifaddiaaDoorLadMost
import Derived.Test.YtblbfgoifaddiaaDoorDrawOS
namespace Go.Proofs.YtblbfgoifaddiaaDoor
open Go.RowKit
set_option linter.unusedVariables false
set_option linter.unusedSimpArgs false
theorem set_last {es : List Int} {m : Nat} (h : es.length = m) (x y : Int) : (es ++ [x]).set m y = es ++ [y] := by
  subst h
  rw [List.set_append_right _ _ (Nat.le_refl _)]
  simp
set_option maxRecDepth 100000 in
set_option maxHeartbeats 2000000 in
theorem implLadle_any (A : Option Addr) (n c : Nat) (xs : List (Int × Int × Int)) (f s : Int) (A2 : Option Addr) (n2 c2 : Nat) (ts : List Int) (w : World)
    (hl : xs.length = n) (hr : RdT w w.heap.size A xs) (hn : n ≤ 1048576) (hl2 : ts.length = n2) (hr2 : RdI .i64 w w.heap.size A2 ts) (hn2 : n2 ≤ 1048576) (ls : List Int) (hls : LadIs xs f s ts ls) :
    Calls Tryd.prog 8 #[.slice A n c, .agg #[.int .i64 f, .int .i64 s], .slice A2 n2 c2] w (IntsRow 3 ls w) := by
  obtain ⟨i0, hi, hz0, hz1, hz2⟩ := info_parts info_int
  have HL := Lib.hid hl
  have HL2 := Lib.hid hl2
  clear hl hl2
  have tA : Below w.heap.size w ((w.alloc (.cells #[.slice A n c] 23)).alloc (.cells #[.int .i64 f, .int .i64 s] 25)) := ((Below.refl _ _).alloc (Nat.le_refl _) _).alloc (by simp) _
  have hbox : ((w.alloc (.cells #[.slice A n c] 23)).alloc (.cells #[.int .i64 f, .int .i64 s] 25)).cell? ⟨w.heap.size, 0, none⟩ = some (.slice A n c) := by go_simp
  have hszA : ((w.alloc (.cells #[.slice A n c] 23)).alloc (.cells #[.int .i64 f, .int .i64 s] 25)).heap.size = w.heap.size + 2 := by simp
  have hrA := hr.up tA tA.size
  have hrA2 := hr2.up tA tA.size
  rw [hszA] at hrA hrA2
  go_enter Tryd.func8, Tryd.ntmps8
  go_wp2_with (fail)
  generalize (w.alloc (.cells #[.slice A n c] 23)).alloc (.cells #[.int .i64 f, .int .i64 s] 25) = w1 at *
  refine (implCast_any _ _ _ xs f s _ _ _ ts _ HL.out (by rw [hszA]; exact hrA) (by omega) HL2.out (by rw [hszA]; exact hrA2) (by omega)).mono ?_
  rintro e w0 ⟨rfl, hb0⟩
  have t0 := below_next tA hb0
  have hbox0 := (hb0.cell (p := ⟨w.heap.size, 0, none⟩) (by rw [hszA]; simp)).trans hbox
  have hr0 := hrA.below (hb0.mono (Nat.le_of_eq hszA.symm))
  have hr20 := hrA2.below (hb0.mono (Nat.le_of_eq hszA.symm))
  have hsz0 : w.heap.size + 2 ≤ w0.heap.size := by have := hb0.size; omega
  clear tA hbox hrA hrA2 hb0 hszA hr hr2
  cases hok : castOk xs f s ts
  · obtain rfl := hls.no hok
    go_wp2
    go_ret
    exact IntsRow.nil t0
  have HOK := Lib.hid hok
  obtain ⟨g1, g2, g3, -, -⟩ := castOk_facts hok
  rw [HL.out, HL2.out] at g3
  have n6 := (heatsOk_facts g1).1
  rw [HL.out] at n6
  subst g3
  have H1 := Lib.hid g1
  clear g1 g2
  go_wp2_with (first
    | (at_make; refine wpList_make_full _ rfl _ _ 26 rfl (w.heap.size + 2) 3 i0 _ 1 Tryd.underlying26 hi hz0 hz1 .i64 .i64 _ _ n rfl rfl (by go_num) (by go_num) (by rw [hz2]; omega) (by unfold maxLen; omega) (by omega) ?_; intro w4 hown4 hgr4))
  rw [madeI] at hown4
  have t4 : Below (w.heap.size + 2) w0 w4 := (Below.refl _ _).grown hgr4 (by omega) (by simp)
  have hz4 : w0.heap.size < w4.heap.size := (hown4.lt _ rfl).2
  clear hgr4 hok
  generalize w0.heap.size = G1 at *
  go_loopw [24] (fun v wr => ∃ (k : Nat), k ≤ n ∧ v = .int .i64 k ∧ wr.ownsRow (w.heap.size + 2) 3 1 (.slice (some ⟨G1, 0, none⟩) n n) n (intsV .i64 ((castI (List.range n)).take k ++ List.replicate (n - k) 0)) ∧ Below (w.heap.size + 2) w0 wr ∧ G1 < wr.heap.size) (fun v _ => n - (intOf v).toNat)
  case atStart => exact ⟨0, Nat.zero_le _, rfl, (by simpa using hown4), t4, hz4⟩
  case round =>
    clear hown4 t4 hz4
    obtain ⟨k, hk, rfl, own, hbel, hG1⟩ := hrel
    by_cases hlt : k < n
    · have hlen : (castI (List.range n)).length = n := by simp [castI]
      obtain ⟨y1, hy1⟩ : ∃ y, ((castI (List.range n)).take k ++ List.replicate (n - k) 0)[k]? = some y := ⟨_, List.getElem?_eq_getElem (by simp [castI]; omega)⟩
      have cw := own_cellS own hy1
      have f1 := own.frozenAt k
      have HF := Lib.hid (fill_step (n := n) (z := (0 : Int)) hlen (k := k) (q := (k : Int)) (by simp [castI, hlt]))
      have OWN := Lib.hid own
      clear own hy1 hlen
      go_wp2
      go_roundw
      case rel => exact ⟨k + 1, by omega, by go_num, (by rw [← HF.out]; exact own_set1 OWN.out), hbel.setCell hsz0 _, by simpa using hG1⟩
      case measure => simp [intOf] <;> omega
    · obtain rfl : k = n := by omega
      have own' : wr.ownsRow (w.heap.size + 2) 3 1 (.slice (some ⟨G1, 0, none⟩) k k) k (intsV .i64 (castI (List.range k))) := by
        have e : (castI (List.range k)).take k = castI (List.range k) := List.take_of_length_le (by simp [castI])
        simpa [e] using own
      have hbr : wr.cell? ⟨w.heap.size, 0, none⟩ = some (.slice A k c) := (hbel.cell (by simp)).trans hbox0
      have hrr := hr0.below hbel
      clear own
      go_wp2_with (fail)
      refine (ladSort_any (w.heap.size + 2) G1 k k w.heap.size A c xs _ HL.out H1.out hbr (by omega) hrr (by omega) own').mono ?_
      rintro e w5 ⟨rfl, o, ho, own5, hb5⟩
      have hbel5 := hbel.trans hb5
      have hbr5 := (hb5.cell (p := ⟨w.heap.size, 0, none⟩) (by simp)).trans hbr
      have hg5 := (own_ge' own5).2
      have hoW : OrdTo (keysT xs) xs.length o := by rw [HL.out]; exact ho
      have HOW := Lib.hid hoW
      have hol := ho.length
      have HOL := Lib.hid hol
      have tx := hls.yes HOK.out hoW
      have HXS := Lib.hid tx
      have BB := Lib.hid (fun (wk : World) (h : Below (w.heap.size + 2) w0 wk) => (h.cell (p := ⟨w.heap.size, 0, none⟩) (by simp)).trans hbox0)
      have RR := Lib.hid (fun (wk : World) (h : Below (w.heap.size + 2) w0 wk) => hr0.below h)
      have RR2 := Lib.hid (fun (wk : World) (h : Below (w.heap.size + 2) w0 wk) => hr20.below h)
      clear own' hbr hrr hbel hb5 ho hoW hol tx hls hbox0 hr0 hr20
      go_wp2_with (first
        | (at_make; refine wpList_make_full w5 rfl _ _ 26 rfl (w.heap.size + 2) 3 i0 _ 1 Tryd.underlying26 hi hz0 hz1 .i64 .i64 _ _ k rfl rfl (by go_num) (by go_num) (by rw [hz2]; omega) (by unfold maxLen; omega) (by omega) ?_; intro w6 hown6 hgr6; have b56 : Below w5.heap.size w5 w6 := (Below.refl _ _).grown hgr6 (Nat.le_refl _) (by simp); have hbel6 := hbel5.trans (b56.mono (by omega)); have own6 := own_below own5 b56; have hg6 := (own_ge' hown6).2))
      rw [madeI, ← HL.out, ← outRow_nil 0 xs.length (llRun (tapF xs) (endF ts) []).2, HL.out] at hown6
      have OO := Lib.hid own6
      have OW := Lib.hid hown6
      have BL := Lib.hid hbel6
      have OE : Hid (w6.ownsRow w6.heap.size 3 1 (.slice none 0 0) 0 (intsV .i64 (llRun (tapF xs) (endF ts) []).1)) := Lib.hid (World.ownsRow_nil _ _ _ _)
      clear own5 hbel5 hbr5 b56 hbel6 own6 hown6 hgr6
      generalize w5.heap.size = G2 at *
      generalize hB6 : w6.heap.size = B6 at *
      have hB6' : B6 ≤ w6.heap.size := by omega
      clear hB6
      have ne1 : G1 ≠ G2 := by omega
      go_loopw [10, 40] (fun u v wr => ∃ (q m : Nat) (Ae : Option Addr) (ce : Nat), q ≤ k ∧ v = .int .i64 q ∧ u = .slice Ae m ce ∧ (llRun (tapF xs) (endF ts) (o.take q)).1.length = m ∧ wr.ownsRow (w.heap.size + 2) 3 1 (.slice (some ⟨G1, 0, none⟩) k k) k (intsV .i64 (castI o)) ∧ wr.ownsRow (w.heap.size + 2) 3 1 (.slice (some ⟨G2, 0, none⟩) k k) k (intsV .i64 (outRow 0 k (o.take q) (llRun (tapF xs) (endF ts) (o.take q)).2)) ∧ wr.ownsRow B6 3 1 (.slice Ae m ce) m (intsV .i64 (llRun (tapF xs) (endF ts) (o.take q)).1) ∧ Below (w.heap.size + 2) w0 wr ∧ B6 ≤ wr.heap.size) (fun _ v _ => k - (intOf v).toNat)
      case atStart => exact ⟨0, 0, none, 0, Nat.zero_le _, rfl, rfl, rfl, OO.out, OW.out, OE.out, BL.out, hB6'⟩
      case round =>
        clear OO OW OE BL hB6'
        obtain ⟨q, m, Ae, ce, hq, rfl, rfl, hm, own1, own2, own3, hbel, hB6⟩ := hrel
        by_cases hltq : q < k
        · obtain ⟨i, hoi⟩ : ∃ i, o[q]? = some i := ⟨_, List.getElem?_eq_getElem (by rw [HOL.out]; exact hltq)⟩
          obtain ⟨hiw, hni, htake⟩ := ordT_next HOW.out hoi
          have hik : i < k := by rw [← HL.out]; exact hiw
          have ce1 := own_cellS own1 ((by simp [castI, hoi] : (castI o)[q]? = some (i : Int)))
          obtain ⟨⟨kk, t, r⟩, hx⟩ : ∃ q, xs[i]? = some q := ⟨_, List.getElem?_eq_getElem hiw⟩
          obtain ⟨d, hd⟩ : ∃ q, ts[i + 1]? = some q := ⟨_, List.getElem?_eq_getElem (by rw [HL2.out]; omega)⟩
          have HLI := Lib.hid (ord_li HOK.out HOW.out q)
          have hmq : m ≤ q := by
            have h1 := HLI.out.le
            rw [List.length_take] at h1
            omega
          have HX := Lib.hid hx
          have HD := Lib.hid hd
          have HNI := Lib.hid hni
          have HT := Lib.hid (tapF_get hx)
          have HE := Lib.hid (endF_get hd)
          have HTK : Hid (llRun (tapF xs) (endF ts) (o.take (q + 1)) = llStep (tapF xs) (endF ts) (llRun (tapF xs) (endF ts) (o.take q)) i) := Lib.hid (by rw [htake, llRun_snoc])
          have HTK2 := Lib.hid htake
          clear hoi hiw hni htake hx hd
          have hgE : ∀ j, (Value.slice Ae m ce).ownBlock = some j → B6 ≤ j ∧ j < wr.heap.size := fun j hj => own3.lt j hj
          have HGE := Lib.hid hgE
          have OO := Lib.hid (own1.alloc (.cells #[.int .i64 (i : Int)] 3))
          have OW := Lib.hid (own2.alloc (.cells #[.int .i64 (i : Int)] 3))
          have OE := Lib.hid (own3.alloc (.cells #[.int .i64 (i : Int)] 3))
          have hbA := hbel.alloc (show w.heap.size + 2 ≤ wr.heap.size by omega) (.cells #[.int .i64 (i : Int)] 3)
          have cbi : (wr.alloc (.cells #[.int .i64 (i : Int)] 3)).cell? ⟨wr.heap.size, 0, none⟩ = some (.int .i64 (i : Int)) := by go_simp
          have hsA : (wr.alloc (.cells #[.int .i64 (i : Int)] 3)).heap.size = wr.heap.size + 1 := by simp
          clear own1 own2 own3 hbel hgE
          go_wp2_with (fail)
          generalize wr.alloc (.cells #[.int .i64 (i : Int)] 3) = wA at *
          generalize wr.heap.size = bi at *
          refine (ladIdx_any Ae m ce _ w.heap.size bi i A k c xs kk t r _ hm (RdI.of_own OE.out) (by omega) (BB.out _ hbA) cbi HL.out (RR.out _ hbA) (by omega) HX.out).mono ?_
          rintro e w' ⟨rfl, rfl⟩
          have HM := Lib.hid hm
          have hLm := llS_le (llRun (tapF xs) (endF ts) (o.take q)).1 t
          rw [hm] at hLm
          have hidx : idxV (llRun (tapF xs) (endF ts) (o.take q)).1 t = if llS (llRun (tapF xs) (endF ts) (o.take q)).1 t < m then (llS (llRun (tapF xs) (endF ts) (o.take q)).1 t : Int) else -1 := by unfold idxV; rw [hm]
          have hst1 : (llRun (tapF xs) (endF ts) (o.take (q + 1))).1 = if llS (llRun (tapF xs) (endF ts) (o.take q)).1 t < m then (llRun (tapF xs) (endF ts) (o.take q)).1.set (llS (llRun (tapF xs) (endF ts) (o.take q)).1 t) d else (llRun (tapF xs) (endF ts) (o.take q)).1 ++ [d] := by rw [HTK.out, llStep, HT.out, HE.out, HM.out]
          have hst2 : (outRow 0 k (o.take q) (llRun (tapF xs) (endF ts) (o.take q)).2).set i ((llS (llRun (tapF xs) (endF ts) (o.take q)).1 t : Nat) : Int) = outRow 0 k (o.take (q + 1)) (llRun (tapF xs) (endF ts) (o.take (q + 1))).2 := by
            rw [HTK.out, HTK2.out, ← HT.out]
            exact outRow_set HNI.out
          rw [hidx]
          clear hidx hm
          generalize llS (llRun (tapF xs) (endF ts) (o.take q)).1 t = Lq at *
          have HS1 := Lib.hid hst1
          have HS2 := Lib.hid hst2
          clear hst1 hst2
          obtain ⟨y2, hy2⟩ : ∃ y, (outRow 0 k (o.take q) (llRun (tapF xs) (endF ts) (o.take q)).2)[i]? = some y := ⟨_, List.getElem?_eq_getElem (by rw [outRow_len]; exact hik)⟩
          have HY2 := Lib.hid hy2
          have hcd := Lib.hid (fun (wk : World) (h : Below (w.heap.size + 2) w0 wk) => RR2.out wk h (i + 1) d HD.out)
          obtain ⟨bt, offt, hAt, hbt, cd0⟩ := hcd.out _ hbA
          subst hAt
          clear hy2
          by_cases hLlt : Lq < m
          · rw [if_pos hLlt]
            have HS1' : Hid ((llRun (tapF xs) (endF ts) (o.take (q + 1))).1 = (llRun (tapF xs) (endF ts) (o.take q)).1.set Lq d) := Lib.hid (by rw [HS1.out, if_pos hLlt])
            obtain ⟨ge, cc, hform, -, -⟩ := own_form OE.out (by omega)
            injection hform with hA _ hC
            subst hA
            clear hC cc
            obtain ⟨hge1, hge2⟩ := HGE.out ge rfl
            obtain ⟨z, hz⟩ : ∃ z, (llRun (tapF xs) (endF ts) (o.take q)).1[Lq]? = some z := ⟨_, List.getElem?_eq_getElem (by rw [HM.out]; exact hLlt)⟩
            have c2 := own_cellS OW.out HY2.out
            have f2 := OW.out.frozenAt i
            have c3 := own_cellS OE.out hz
            have f3 := OE.out.frozenAt Lq
            have ne2 : G1 ≠ ge := by omega
            have ne3 : G2 ≠ ge := by omega
            have ne4 : ge ≠ G2 := by omega
            have ne5 : G2 ≠ bi := by omega
            have ne6 : G2 ≠ bt := by omega
            clear hz
            go_wp2
            go_roundw
            case rel =>
              refine ⟨q + 1, m, _, ce, by omega, by go_num, rfl, by rw [HS1'.out, List.length_set]; exact HM.out, own_far (own_far OO.out _ ne1 _) _ ne2 _, ?_, ?_, (hbA.setCell (by show w.heap.size + 2 ≤ G2; omega) _).setCell (by show w.heap.size + 2 ≤ ge; omega) _, by simp; omega⟩
              · rw [← HS2.out]
                exact own_far (own_set1 OW.out) _ ne3 _
              · rw [HS1'.out]
                exact own_set1 (own_far OE.out _ ne4 _)
            case measure => simp [intOf] <;> omega
          · obtain rfl : Lq = m := by omega
            rw [if_neg hLlt]
            have HS1' : Hid ((llRun (tapF xs) (endF ts) (o.take (q + 1))).1 = (llRun (tapF xs) (endF ts) (o.take q)).1 ++ [d]) := Lib.hid (by rw [HS1.out, if_neg hLlt])
            go_wp2_with (at_builtin; go_must (refine wpList_append_own_w _ (by rfl) (.tmp 51) (.tmp 52) 26 rfl B6 3 i0 _ 1 8 Tryd.underlying26 hi hz0 hz1 hz2 rfl (by decide) (.slice Ae Lq ce) Lq (intsV .i64 (llRun (tapF xs) (endF ts) (o.take q)).1) rfl (OE.out.alloc _) ⟨bi + 1, 0, none⟩ 1 1 (intsV .i64 [0]) rfl rfl (cells_one1 (Newest.alloc_ hsA)) intsV_one (by unfold maxLen; omega) (by omega) (by simp; omega) ?_); intro v9 w9 hown9 hgr9 hv9; have hbel9 := (hbA.alloc (by omega) (.cells #[.int .i64 0] 3)).grown hgr9 (by simp; omega) (fun j hj => by (have := HGE.out j hj; omega)); have ow9 := own_apart (a1 := G2) (b1 := G2 + 1) (OW.out.alloc (.cells #[.int .i64 0] 3)) hgr9 (fun j hj => by (simp [Value.ownBlock] at hj; omega)) HGE.out (by omega); have oo9 := own_apart (a1 := G1) (b1 := G1 + 1) (OO.out.alloc (.cells #[.int .i64 0] 3)) hgr9 (fun j hj => by (simp [Value.ownBlock] at hj; omega)) HGE.out (by omega); have cbi9 : w9.cell? ⟨bi, 0, none⟩ = some (.int .i64 (i : Int)) := (hgr9.cell (a := ⟨bi, 0, none⟩) (by go_simp) (fun e => by (have := HGE.out bi e.symm; omega))); have hs9 := hgr9.size; rw [World.size_alloc] at hs9; rw [← intsV_append] at hown9; obtain ⟨ge, ce9, rfl, hge1, hge2⟩ := own_form hown9 (by omega); obtain ⟨bt', offt', hAt', hbt', cd9⟩ := hcd.out _ hbel9; injection hAt' with hAt'; injection hAt' with hAt1 hAt2; subst hAt1 hAt2; have c2 := own_cellS ow9 HY2.out; have f2 := ow9.frozenAt i; have c3 := own_cellS hown9 (j := Lq) (x := 0) (by rw [List.getElem?_append_right (by rw [HM.out]; exact Nat.le_refl _), HM.out]; simp); have f3 := hown9.frozenAt Lq; have ne2 : G1 ≠ ge := (by omega); have ne3 : G2 ≠ ge := (by omega); have ne4 : ge ≠ G2 := (by omega); have ne5 : G2 ≠ bi := (by omega); have ne6 : G2 ≠ bt := (by omega); have O9 := Lib.hid oo9; have W9 := Lib.hid ow9; have E9 := Lib.hid hown9; have B9 := Lib.hid hbel9; clear oo9 ow9 hown9 hbel9 hgr9 hv9)
            go_roundw
            case rel =>
              refine ⟨q + 1, Lq + 1, _, ce9, by omega, by go_num, rfl, by rw [HS1'.out, List.length_append, HM.out]; rfl, own_far (own_far O9.out _ ne1 _) _ ne2 _, ?_, ?_, (B9.out.setCell (by show w.heap.size + 2 ≤ G2; omega) _).setCell (by show w.heap.size + 2 ≤ ge; omega) _, by simp; omega⟩
              · rw [← HS2.out]
                exact own_far (own_set1 W9.out) _ ne3 _
              · rw [HS1'.out, ← set_last HM.out 0 d]
                exact own_set1 (own_far E9.out _ ne4 _)
            case measure => simp [intOf] <;> omega
        · obtain rfl : q = k := by omega
          have e1 : o.take q = o := List.take_of_length_le (by rw [HOL.out]; exact Nat.le_refl _)
          rw [e1] at own2
          have e2 : outRow 0 q o (llRun (tapF xs) (endF ts) o).2 = ls := by rw [HXS.out, ladRow, HL.out]
          rw [e2] at own2
          have hlen : ls.length = q := by rw [← e2, outRow_len]
          clear e1 e2 own1 own3
          go_wp2
          go_ret
          exact IntsRow.mk hlen (by omega) own2 (t0.trans (hbel.mono (by omega)))
end Go.Proofs.YtblbfgoifaddiaaDoor
