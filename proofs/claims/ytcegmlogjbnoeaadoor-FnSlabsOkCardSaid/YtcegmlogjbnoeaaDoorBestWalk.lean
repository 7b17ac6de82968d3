/- 'CutBest': both walks. -/
import Derived.Test.YtcegmlogjbnoeaaDoorBestPlain
import Derived.Test.YtcegmlogjbnoeaaDoorCutLeast
import Derived.RegionTactic
namespace Go.Proofs.YtcegmlogjbnoeaaDoor
open Go.RowKit
set_option linter.unusedVariables false
theorem rd_at {k : IntKind} {w : World} {B b off : Nat} {xs : List Int} (h : RdI k w B (some ⟨b, off, none⟩) xs) {j : Nat} {x : Int} (hj : xs[j]? = some x) : b < B ∧ w.cell? ⟨b, off + j, none⟩ = some (.int k x) := by
  obtain ⟨b', off', e, hb, hc⟩ := h j x hj
  cases e
  exact ⟨hb, hc⟩
/-- inside one length: c slabs have been cut off, F is left -/
def CbIn (T : List Int) (v l : Int) (F0 F : Nat) (c : Int) : Prop := c + cbN T v l F = cbN T v l F0 ∧ cbR T v l F = cbR T v l F0
def AtV (T : List Int) (v : Int) (F : Nat) : Prop := T[F]? = some v
def LeftIs (ls T : List Int) (v : Int) (N k F : Nat) : Prop := (cbAll T v (ls.drop k) (N : Int)).2 = (F : Int)
theorem CbIn.start (T : List Int) (v l : Int) (F0 : Nat) : CbIn T v l F0 F0 0 := ⟨by omega, rfl⟩
theorem CbIn.bound {T : List Int} {v l c : Int} {F0 F : Nat} (h1 : 1 ≤ l) (h : CbIn T v l F0 F c) : c ≤ F0 := by
  have a := (cb_facts (T := T) (v := v) h1 F (F : Int) (by omega) (by omega)).1
  have b := cb_facts (T := T) (v := v) h1 F0 (F0 : Int) (by omega) (by omega)
  have := h.1
  omega
theorem CbIn.next {T : List Int} {v c : Int} {F0 F L : Nat} (h1 : 1 ≤ L) (hL : L ≤ F) (h : CbIn T v L F0 F c) (hx : T[F - L]? = some v) : CbIn T v L F0 (F - L) (c + 1) := by
  have ht : cbTest T v L F = true := cbTest_iff.2 ⟨by omega, by rw [show ((F : Int) - (L : Int)).toNat = F - L by omega]; exact hx⟩
  obtain ⟨a, b⟩ := cb_yes (by omega) ht
  have e : (F : Int) - (L : Int) = ((F - L : Nat) : Int) := by omega
  rw [e] at a b
  exact ⟨by have := h.1; omega, by rw [← b]; exact h.2⟩
theorem cb_out {ls T ms : List Int} {v l c : Int} {N F0 F j : Nat} (hl : ls[j]? = some l) (hF0 : LeftIs ls T v N (j + 1) F0) (hrow : CbRow ls T v N (j + 1) ms) (h : CbIn T v l F0 F c) (ht : cbTest T v l F = false) : LeftIs ls T v N j F ∧ CbRow ls T v N j (ms.set j c) := by
  obtain ⟨a, b⟩ := cb_no ht
  have e1 : cbN T v l F0 = c := by have := h.1; omega
  have e2 : cbR T v l F0 = F := by rw [← h.2, b]
  have hr := hrow.next hl
  unfold LeftIs at hF0 ⊢
  rw [hF0, e1] at hr
  refine ⟨?_, hr⟩
  rw [cbAll_drop hl, hF0]
  exact e2
theorem cbTest_short {T : List Int} {v l : Int} {F : Nat} (h : ¬ l ≤ (F : Int)) : cbTest T v l F = false := by
  cases hc : cbTest T v l F with
  | false => rfl
  | true => exact absurd (cbTest_iff.1 hc).1 h
theorem cbTest_other {T : List Int} {v x : Int} {L F : Nat} (hL : L ≤ F) (hx : T[F - L]? = some x) (hne : x ≠ v) : cbTest T v L F = false := by
  cases hc : cbTest T v L F with
  | false => rfl
  | true =>
    have := (cbTest_iff.1 hc).2
    rw [show ((F : Int) - (L : Int)).toNat = F - L by omega, hx] at this
    injection this with h
    exact absurd h hne
set_option maxRecDepth 100000 in
set_option maxHeartbeats 4000000 in
theorem implBest_any (long : Int) (A : Option Addr) (n c : Nat) (ls : List Int) (w : World) (hl : ls.length = n) (hr : RdI .i64 w w.heap.size A ls) (hn : n ≤ 1048576) :
    Calls Tryd.prog 49 #[.int .i64 long, .slice A n c] w (IntsRow 3 (cutBest long ls) w) := by
  obtain ⟨i0, hi, hz0, hz1, hz2⟩ := info_parts info_int
  cases h1 : inB long 0 60
  · rw [cutBest_1 h1]
    go_enter Tryd.func49, Tryd.ntmps49
    go_wp2_with (first | (go_at_call 72; refine (within_any _ _ _ _).mono ?_; rintro e w' ⟨rfl, rfl⟩) | (go_at_call 27; refine (implLengths_any _ _ _ ls _ hl hr (by omega)).mono ?_; rintro e w' ⟨rfl, rfl⟩) | (go_at_call 73; fail))
    go_ret
    exact IntsRow.nil (Below.refl _ _)
  cases h2 : lengthsOk ls
  · rw [cutBest_2 h2]
    go_enter Tryd.func49, Tryd.ntmps49
    go_wp2_with (first | (go_at_call 72; refine (within_any _ _ _ _).mono ?_; rintro e w' ⟨rfl, rfl⟩) | (go_at_call 27; refine (implLengths_any _ _ _ ls _ hl hr (by omega)).mono ?_; rintro e w' ⟨rfl, rfl⟩) | (go_at_call 73; fail))
    go_ret
    exact IntsRow.nil (Below.refl _ _)
  have HL := Lib.hid hl
  have H2 := Lib.hid h2
  obtain ⟨L0, L1⟩ := inB_iff.1 h1
  obtain ⟨N, rfl⟩ : ∃ N : Nat, long = (N : Int) := ⟨long.toNat, by omega⟩
  have H1 := Lib.hid h1
  have hn4 : n ≤ 4 := by have := (lengthsOk_len h2).2; omega
  have hn1 : 1 ≤ n := by have := (lengthsOk_len h2).1; omega
  clear hl
  go_enter Tryd.func49, Tryd.ntmps49
  go_wp2_with (first | (go_at_call 72; refine (within_any _ _ _ _).mono ?_; rintro e w' ⟨rfl, rfl⟩) | (go_at_call 27; refine (implLengths_any _ _ _ ls _ HL.out hr (by omega)).mono ?_; rintro e w' ⟨rfl, rfl⟩) | (go_at_call 73; fail))
  refine (implTable_any N _ _ _ ls _ HL.out hr (by omega) H2.out).mono ?_
  rintro e w3 hrow
  obtain ⟨A', c', rfl, ho, hb3⟩ := hrow.at_ (table_length ls (N + 1))
  obtain ⟨v, hv⟩ : ∃ v, (table ls (N + 1))[N]? = some v := ⟨_, List.getElem?_eq_getElem (by rw [table_length]; omega)⟩
  have HF : Hid (cutBest N ls = (cbAll (table ls (N + 1)) v ls N).1) := Lib.hid (by rw [cutBest_3 H1.out H2.out, cutLeast_3 H1.out H2.out hv])
  have HTL : Hid ((table ls (N + 1)).length = N + 1) := Lib.hid (table_length ls (N + 1))
  have rdT := RdI.of_own ho
  have rdL := hr.up hb3 hb3.size
  obtain ⟨bT, offT, rfl, hbT, hcN⟩ := rdT N v hv
  generalize table ls (N + 1) = T at *
  have HV : AtV T v N := hv
  clear hv h1 h2 ho hr hrow hcN
  have HT := Lib.hid rdT
  have HR := Lib.hid rdL
  have HB3 := Lib.hid hb3
  have hgs := hb3.size
  clear rdT rdL hb3
  go_wp2_with (at_make; refine wpList_make_full _ rfl _ _ 24 rfl w3.heap.size 3 i0 _ 1 Tryd.underlying24 hi hz0 hz1 .i64 .i64 _ _ n rfl rfl (by go_num) (by go_num) (by rw [hz2]; omega) (by unfold maxLen; omega) (Nat.le_refl _) ?_; intro w4 hown4 hgr4)
  rw [madeI] at hown4
  have t4 : Below w3.heap.size w3 w4 := (Below.refl _ _).grown hgr4 (Nat.le_refl _) (by simp)
  clear hgr4
  generalize hg : w3.heap.size = g at *
  have HG := Lib.hid hg
  clear hg
  have HLI : LeftIs ls T v N n N := by
    unfold LeftIs
    rw [List.drop_of_length_le (by rw [HL.out]; exact Nat.le_refl _)]; rfl
  go_loopw [7, 8] (fun s i wr => ∃ (k F : Nat) (q : Int) (ms : List Int), i = .int .i64 q ∧ s = .int .i64 (F : Int) ∧ q + 1 ≤ (k : Int) ∧ (k : Int) ≤ q + 1 ∧ k ≤ n ∧ F ≤ N ∧ LeftIs ls T v N k F ∧ AtV T v F ∧ CbRow ls T v N k ms ∧ wr.ownsRow g 3 1 (.slice (some ⟨g, 0, none⟩) n n) n (intsV .i64 ms) ∧ Below g w3 wr) (fun _ i _ => (intOf i + 1).toNat)
  case atStart => exact ⟨n, N, _, _, rfl, rfl, by omega, by omega, Nat.le_refl _, Nat.le_refl _, HLI, HV, CbRow.start ls T v N HL.out, hown4, t4⟩
  case round =>
    obtain ⟨k, F0, q, ms, rfl, rfl, hq1, hq2, hkn, hF0, hli, hav, hrow, hown, hbel⟩ := hrel
    clear hown4 t4 HLI
    by_cases hlt : 0 ≤ q
    · obtain ⟨j, rfl⟩ : ∃ j : Nat, k = j + 1 := ⟨k - 1, by omega⟩
      obtain rfl : q = (j : Int) := by omega
      clear hq1 hq2 hlt
      obtain ⟨l, hlj⟩ : ∃ l, ls[j]? = some l := ⟨_, List.getElem?_eq_getElem (by rw [HL.out]; omega)⟩
      obtain ⟨l0, l1⟩ := lengthsOk_get H2.out hlj
      obtain ⟨L, rfl⟩ : ∃ L : Nat, l = (L : Int) := ⟨l.toNat, by omega⟩
      obtain ⟨b, off, rfl, hbB, hc0⟩ := HR.out j _ hlj
      have HLJ := Lib.hid hlj
      have HML : Hid (ms.length = n) := Lib.hid (by rw [hrow.length (by rw [HL.out]; omega), HL.out])
      clear hlj hc0
      rw [← hrow.zero] at hown
      go_wp2
      obtain ⟨wo, rfl⟩ : ∃ wo : World, wo = wr := ⟨_, rfl⟩
      go_loopw [7] (fun s ww => ∃ (F : Nat) (c : Int), s = .int .i64 (F : Int) ∧ F ≤ N ∧ 0 ≤ c ∧ CbIn T v L F0 F c ∧ AtV T v F ∧ ww.ownsRow g 3 1 (.slice (some ⟨g, 0, none⟩) n n) n (intsV .i64 (ms.set j c)) ∧ Below g w3 ww) (fun s _ => (intOf s).toNat)
      case atStart => exact ⟨F0, 0, rfl, hF0, Int.le_refl _, CbIn.start T v L F0, hav, hown, hbel⟩
      case round =>
        obtain ⟨F, c, rfl, hF, hc0, hin, hat, hown2, hbel2⟩ := hrel
        clear hown hbel
        have hcb := hin.bound (by omega)
        obtain ⟨_, hc1⟩ := rd_at HR.out HLJ.out
        have hcN := (rd_at HT.out HV).2
        rw [← hbel2.cell (by exact hbB)] at hc1
        rw [← hbel2.cell (by exact hbT)] at hcN
        by_cases s1 : (L : Int) ≤ (F : Int)
        · obtain ⟨x, hx⟩ : ∃ x, T[F - L]? = some x := ⟨_, List.getElem?_eq_getElem (by rw [HTL.out]; omega)⟩
          have hcX := (rd_at HT.out hx).2
          rw [← hbel2.cell (by exact hbT)] at hcX
          have HX := Lib.hid hx
          clear hx
          have d1 : decide ((L : Int) ≤ (F : Int)) = true := by simp; omega
          have hi1 : (0 : Int) ≤ (F : Int) - (L : Int) := by omega
          have f1 := hown2.frozenAt j
          have g1 : wr.cell? ⟨g, j, none⟩ = some (.int .i64 c) := by
            rw [hown2.cellAt j (by omega)]
            simp only [intsV, List.getElem?_map]
            rw [List.getElem?_set_self (by rw [HML.out]; omega)]; rfl
          have HO2 := Lib.hid hown2
          clear hown2
          by_cases s2 : x = v
          · subst s2
            have d2 : (x == x) = true := by simp
            have HIN := Lib.hid (hin.next (by omega) (by omega) HX.out)
            have HAT : Hid (AtV T x (F - L)) := Lib.hid HX.out
            go_wp2_with (fail)
            go_quiet (fail)
            go_wp2
            go_roundw
            case rel =>
              refine ⟨F - L, c + 1, by congr 1; omega, by omega, by omega, HIN.out, HAT.out, ?_, (by repeat' (first | exact Below.refl _ _ | assumption | refine Below.alloc ?_ (by first | omega | (simp; done) | (simp; omega)) _ | refine Below.setCell ?_ (by first | omega | (simp; done) | (simp; omega)) _ | refine Below.drew ?_ | refine below_drawn ?_ _))⟩
              have := own_set1 (k := j) (x := c + 1) HO2.out
              rw [List.set_set] at this
              exact own_drewN this _
            case measure => simp [intOf] <;> omega
          · have d2 : (x == v) = false := by simpa using s2
            have hout := cb_out HLJ.out hli hrow hin (cbTest_other (by omega) HX.out s2)
            have HOUT := Lib.hid hout
            clear hout
            go_wp2_with (fail)
            go_quiet (fail)
            go_wp2
            go_roundw
            case rel => exact ⟨j, F, _, _, rfl, rfl, by omega, by omega, by omega, hF, HOUT.out.1, hat, HOUT.out.2, own_drewN HO2.out _, (by repeat' (first | exact Below.refl _ _ | assumption | refine Below.alloc ?_ (by first | omega | (simp; done) | (simp; omega)) _ | refine Below.setCell ?_ (by first | omega | (simp; done) | (simp; omega)) _ | refine Below.drew ?_ | refine below_drawn ?_ _))⟩
            case measure => simp [intOf] <;> omega
        · have d1 : decide (L ≤ F) = false := by simp; omega
          have hout := cb_out HLJ.out hli hrow hin (cbTest_short s1)
          have HOUT := Lib.hid hout
          have HO2 := Lib.hid hown2
          clear hout hown2
          go_wp2_with (fail)
          go_quiet (fail)
          go_wp2
          go_roundw
          case rel => exact ⟨j, F, _, _, rfl, rfl, by omega, by omega, by omega, hF, HOUT.out.1, hat, HOUT.out.2, own_drewN HO2.out _, (by repeat' (first | exact Below.refl _ _ | assumption | refine Below.alloc ?_ (by first | omega | (simp; done) | (simp; omega)) _ | refine Below.setCell ?_ (by first | omega | (simp; done) | (simp; omega)) _ | refine Below.drew ?_ | refine below_drawn ?_ _))⟩
          case measure => simp [intOf] <;> omega
    · obtain rfl : k = 0 := by omega
      go_wp2
      go_ret
      have hG := HG.out
      subst hG
      refine IntsRow.mk (base := w3.heap.size) ?_ hgs ?_ (below_next HB3.out hbel)
      · rw [HF.out, ← hrow.fin]; rw [hrow.length (Nat.zero_le _), HL.out]
      · rw [HF.out, ← hrow.fin]; exact hown
set_option maxRecDepth 100000 in
set_option maxHeartbeats 4000000 in
theorem specBest_any (long : Int) (A : Option Addr) (n c : Nat) (ls : List Int) (w : World) (hl : ls.length = n) (hr : RdI .i64 w w.heap.size A ls) (hn : n ≤ 1048576) :
    Calls Tryd.prog 51 #[.int .i64 long, .slice A n c] w (IntsRow 3 (cutBest long ls) w) := by
  obtain ⟨i0, hi, hz0, hz1, hz2⟩ := info_parts info_int
  have bad : (hneg : cutLeast long ls < 0) → Calls Tryd.prog 51 #[.int .i64 long, .slice A n c] w (IntsRow 3 [] w) := fun hneg => by
    go_enter Tryd.func51, Tryd.ntmps51
    go_wp2_with (fail)
    refine (specCutLeast_any long _ _ _ ls _ hl hr (by omega)).mono ?_
    rintro e w1 ⟨rfl, t1⟩
    have hs1 := t1.size
    have ho := World.ownsRow_made (e := 3) (size := 1) (base := w1.heap.size) w1 #[] 0 (Nat.le_refl _) (Nat.zero_le _) rfl
    have HO := Lib.hid ho
    clear ho
    go_wp2
    go_ret
    exact IntsRow.mk (L := []) (base := w1.heap.size) rfl t1.size (by simpa [intsV] using HO.out) (by repeat' (first | exact Below.refl _ _ | assumption | refine Below.alloc ?_ (by first | omega | (simp; done) | (simp; omega)) _ | refine Below.setCell ?_ (by first | omega | (simp; done) | (simp; omega)) _ | refine Below.drew ?_ | refine below_drawn ?_ _))
  cases h1 : inB long 0 60
  · rw [cutBest_1 h1]; exact bad (by rw [cutLeast_1 h1]; omega)
  cases h2 : lengthsOk ls
  · rw [cutBest_2 h2]; exact bad (by rw [cutLeast_2 h2]; omega)
  clear bad
  have HL := Lib.hid hl
  have H2 := Lib.hid h2
  obtain ⟨L0, L1⟩ := inB_iff.1 h1
  obtain ⟨N, rfl⟩ : ∃ N : Nat, long = (N : Int) := ⟨long.toNat, by omega⟩
  have H1 := Lib.hid h1
  have hn4 : n ≤ 4 := by have := (lengthsOk_len h2).2; omega
  have hn1 : 1 ≤ n := by have := (lengthsOk_len h2).1; omega
  have hpos : 0 ≤ cutLeast N ls := by
    obtain ⟨v, hv⟩ : ∃ v, (table ls (N + 1))[N]? = some v := ⟨_, List.getElem?_eq_getElem (by rw [table_length]; omega)⟩
    rw [cutLeast_3 h1 h2 hv]
    exact (table_bounds (fun k l h => (lengthsOk_get h2 h).1) _ _ _ hv).1
  clear hl
  go_enter Tryd.func51, Tryd.ntmps51
  go_wp2_with (fail)
  refine (specCutLeast_any N _ _ _ ls _ HL.out hr (by omega)).mono ?_
  rintro e w1 ⟨rfl, t1⟩
  go_wp2_with (fail)
  refine (specTable_any N _ _ _ ls _ HL.out (hr.up t1 t1.size) (by omega) H2.out).mono ?_
  rintro e w3 hrow
  obtain ⟨A', c', rfl, ho, hb2⟩ := hrow.at_ (table_length ls (N + 1))
  have hb3 := below_next t1 hb2
  obtain ⟨v, hv⟩ : ∃ v, (table ls (N + 1))[N]? = some v := ⟨_, List.getElem?_eq_getElem (by rw [table_length]; omega)⟩
  have HF : Hid (cutBest N ls = (cbAll (table ls (N + 1)) v ls N).1) := Lib.hid (by rw [cutBest_3 H1.out H2.out, cutLeast_3 H1.out H2.out hv])
  have HTL : Hid ((table ls (N + 1)).length = N + 1) := Lib.hid (table_length ls (N + 1))
  have rdT := RdI.of_own ho
  have rdL := hr.up hb3 hb3.size
  obtain ⟨bT, offT, rfl, hbT, hcN⟩ := rdT N v hv
  generalize table ls (N + 1) = T at *
  have HV : AtV T v N := hv
  clear hv h1 h2 ho hr hrow hcN hb2 t1 hpos
  have HT := Lib.hid rdT
  have HR := Lib.hid rdL
  have HB3 := Lib.hid hb3
  have hgs := hb3.size
  clear rdT rdL hb3
  go_wp2_with (at_make; refine wpList_make_full _ rfl _ _ 24 rfl w3.heap.size 3 i0 _ 1 Tryd.underlying24 hi hz0 hz1 .i64 .i64 _ _ n rfl rfl (by go_num) (by go_num) (by rw [hz2]; omega) (by unfold maxLen; omega) (Nat.le_refl _) ?_; intro w4 hown4 hgr4)
  rw [madeI] at hown4
  have t4 : Below w3.heap.size w3 w4 := (Below.refl _ _).grown hgr4 (Nat.le_refl _) (by simp)
  clear hgr4
  generalize hg : w3.heap.size = g at *
  have HG := Lib.hid hg
  clear hg
  have HLI : LeftIs ls T v N n N := by
    unfold LeftIs
    rw [List.drop_of_length_le (by rw [HL.out]; exact Nat.le_refl _)]; rfl
  go_loopw [7, 8] (fun s i wr => ∃ (k F : Nat) (q : Int) (ms : List Int), i = .int .i64 q ∧ s = .int .i64 (F : Int) ∧ q + 1 ≤ (k : Int) ∧ (k : Int) ≤ q + 1 ∧ k ≤ n ∧ F ≤ N ∧ LeftIs ls T v N k F ∧ AtV T v F ∧ CbRow ls T v N k ms ∧ wr.ownsRow g 3 1 (.slice (some ⟨g, 0, none⟩) n n) n (intsV .i64 ms) ∧ Below g w3 wr) (fun _ i _ => (intOf i + 1).toNat)
  case atStart => exact ⟨n, N, _, _, rfl, rfl, by omega, by omega, Nat.le_refl _, Nat.le_refl _, HLI, HV, CbRow.start ls T v N HL.out, hown4, t4⟩
  case round =>
    obtain ⟨k, F0, q, ms, rfl, rfl, hq1, hq2, hkn, hF0, hli, hav, hrow, hown, hbel⟩ := hrel
    clear hown4 t4 HLI
    by_cases hlt : 0 ≤ q
    · obtain ⟨j, rfl⟩ : ∃ j : Nat, k = j + 1 := ⟨k - 1, by omega⟩
      obtain rfl : q = (j : Int) := by omega
      clear hq1 hq2 hlt
      obtain ⟨l, hlj⟩ : ∃ l, ls[j]? = some l := ⟨_, List.getElem?_eq_getElem (by rw [HL.out]; omega)⟩
      obtain ⟨l0, l1⟩ := lengthsOk_get H2.out hlj
      obtain ⟨L, rfl⟩ : ∃ L : Nat, l = (L : Int) := ⟨l.toNat, by omega⟩
      obtain ⟨b, off, rfl, hbB, hc0⟩ := HR.out j _ hlj
      have HLJ := Lib.hid hlj
      have HML : Hid (ms.length = n) := Lib.hid (by rw [hrow.length (by rw [HL.out]; omega), HL.out])
      clear hlj hc0
      rw [← hrow.zero] at hown
      go_wp2
      obtain ⟨wo, rfl⟩ : ∃ wo : World, wo = wr := ⟨_, rfl⟩
      go_loopw [7] (fun s ww => ∃ (F : Nat) (c : Int), s = .int .i64 (F : Int) ∧ F ≤ N ∧ 0 ≤ c ∧ CbIn T v L F0 F c ∧ AtV T v F ∧ ww.ownsRow g 3 1 (.slice (some ⟨g, 0, none⟩) n n) n (intsV .i64 (ms.set j c)) ∧ Below g w3 ww) (fun s _ => (intOf s).toNat)
      case atStart => exact ⟨F0, 0, rfl, hF0, Int.le_refl _, CbIn.start T v L F0, hav, hown, hbel⟩
      case round =>
        obtain ⟨F, c, rfl, hF, hc0, hin, hat, hown2, hbel2⟩ := hrel
        clear hown hbel
        have hcb := hin.bound (by omega)
        obtain ⟨_, hc1⟩ := rd_at HR.out HLJ.out
        have hcN := (rd_at HT.out hat).2
        rw [← hbel2.cell (by exact hbB)] at hc1
        rw [← hbel2.cell (by exact hbT)] at hcN
        by_cases s1 : (L : Int) ≤ (F : Int)
        · obtain ⟨x, hx⟩ : ∃ x, T[F - L]? = some x := ⟨_, List.getElem?_eq_getElem (by rw [HTL.out]; omega)⟩
          have hcX := (rd_at HT.out hx).2
          rw [← hbel2.cell (by exact hbT)] at hcX
          have HX := Lib.hid hx
          clear hx
          have d1 : decide ((L : Int) ≤ (F : Int)) = true := by simp; omega
          have hi1 : (0 : Int) ≤ (F : Int) - (L : Int) := by omega
          have f1 := hown2.frozenAt j
          have g1 : wr.cell? ⟨g, j, none⟩ = some (.int .i64 c) := by
            rw [hown2.cellAt j (by omega)]
            simp only [intsV, List.getElem?_map]
            rw [List.getElem?_set_self (by rw [HML.out]; omega)]; rfl
          have HO2 := Lib.hid hown2
          clear hown2
          by_cases s2 : x = v
          · subst s2
            have d2 : (x == x) = true := by simp
            have HIN := Lib.hid (hin.next (by omega) (by omega) HX.out)
            have HAT : Hid (AtV T x (F - L)) := Lib.hid HX.out
            go_wp2_with (fail)
            go_quiet (fail)
            go_wp2
            go_roundw
            case rel =>
              refine ⟨F - L, c + 1, by congr 1; omega, by omega, by omega, HIN.out, HAT.out, ?_, (by repeat' (first | exact Below.refl _ _ | assumption | refine Below.alloc ?_ (by first | omega | (simp; done) | (simp; omega)) _ | refine Below.setCell ?_ (by first | omega | (simp; done) | (simp; omega)) _ | refine Below.drew ?_ | refine below_drawn ?_ _))⟩
              have := own_set1 (k := j) (x := c + 1) HO2.out
              rw [List.set_set] at this
              exact own_drewN this _
            case measure => simp [intOf] <;> omega
          · have d2 : (x == v) = false := by simpa using s2
            have hout := cb_out HLJ.out hli hrow hin (cbTest_other (by omega) HX.out s2)
            have HOUT := Lib.hid hout
            clear hout
            go_wp2_with (fail)
            go_quiet (fail)
            go_wp2
            go_roundw
            case rel => exact ⟨j, F, _, _, rfl, rfl, by omega, by omega, by omega, hF, HOUT.out.1, hat, HOUT.out.2, own_drewN HO2.out _, (by repeat' (first | exact Below.refl _ _ | assumption | refine Below.alloc ?_ (by first | omega | (simp; done) | (simp; omega)) _ | refine Below.setCell ?_ (by first | omega | (simp; done) | (simp; omega)) _ | refine Below.drew ?_ | refine below_drawn ?_ _))⟩
            case measure => simp [intOf] <;> omega
        · have d1 : decide (L ≤ F) = false := by simp; omega
          have hout := cb_out HLJ.out hli hrow hin (cbTest_short s1)
          have HOUT := Lib.hid hout
          have HO2 := Lib.hid hown2
          clear hout hown2
          go_wp2_with (fail)
          go_quiet (fail)
          go_wp2
          go_roundw
          case rel => exact ⟨j, F, _, _, rfl, rfl, by omega, by omega, by omega, hF, HOUT.out.1, hat, HOUT.out.2, own_drewN HO2.out _, (by repeat' (first | exact Below.refl _ _ | assumption | refine Below.alloc ?_ (by first | omega | (simp; done) | (simp; omega)) _ | refine Below.setCell ?_ (by first | omega | (simp; done) | (simp; omega)) _ | refine Below.drew ?_ | refine below_drawn ?_ _))⟩
          case measure => simp [intOf] <;> omega
    · obtain rfl : k = 0 := by omega
      go_wp2
      go_ret
      have hG := HG.out
      subst hG
      refine IntsRow.mk (base := w3.heap.size) ?_ hgs ?_ (below_next HB3.out hbel)
      · rw [HF.out, ← hrow.fin]; rw [hrow.length (Nat.zero_le _), HL.out]
      · rw [HF.out, ← hrow.fin]; exact hown
end Go.Proofs.YtcegmlogjbnoeaaDoor
