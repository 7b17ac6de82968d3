/- 'StrandsLeast' of the program, walked. -/
import Derived.Test.YtcegmlogjbnoeaaDoorLeastPlain
import Derived.Test.YtcegmlogjbnoeaaDoorCutWalk
import Derived.Test.YtcegmlogjbnoeaaDoorSz
import Derived.Test.YtcegmlogjbnoeaaDoorTrail
import Derived.Test.YtcegmlogjbnoeaaDoorOwnApart
import Derived.RegionTactic
import Derived.Outline
namespace Go.Proofs.YtcegmlogjbnoeaaDoor
open Go.RowKit
set_option linter.unusedVariables false
theorem ints_at {w : World} {base g n c : Nat} {e : TypeId} {xs : List Int} (h : w.ownsRow base e 1 (.slice (some ⟨g, 0, none⟩) n c) n (intsV .i64 xs)) {j : Nat} {x : Int} (hj : xs[j]? = some x) : w.cell? ⟨g, j, none⟩ = some (.int .i64 x) := by
  have hl := h.1
  have hlt := (List.getElem?_eq_some_iff.1 hj).1
  simp only [intsV, List.length_map] at hl
  rw [h.cellAt j (by omega)]
  simp [intsV, hj]
theorem opts_zero {ws : List Int} {long : Int} {N : Nat} (hN : 0 < N) : OptsTo ws long (List.replicate N 0) 1 := fun j hj => by
  obtain rfl : j = 0 := by omega
  exact ⟨0, by simp [hN], opt_empty fun i hi => by simp [bitsOf]⟩
theorem sums_zero {ws : List Int} {N : Nat} (hN : 0 < N) : SumsTo ws (List.replicate N 0) 1 := fun j hj => by
  obtain rfl : j = 0 := by omega
  rw [tot_zero]; simp [hN]
def SubOf (P s : Nat) : Prop := P &&& s = P
theorem SubOf.le {P s : Nat} (h : SubOf P s) : P ≤ s := sub_le h
theorem SubOf.next (P s : Nat) : SubOf ((P - 1) &&& s) s := sub_and _ _
theorem tot_small {ws : List Int} {long : Int} (h : wantsOk ws long = true) (S : Nat → Bool) : 0 ≤ tot ws.length (wF ws) S ∧ tot ws.length (wF ws) S ≤ 480 := by
  have a := tot_bounds (wants_fits h) S
  have b := wantsOk_len h
  have c : (ws.length : Int) * long ≤ 8 * 60 := Int.mul_le_mul (by omega) b.2.2 (by omega) (by omega)
  omega
/-- what is behind a first bin -/
theorem opt_rest {ws : List Int} {long : Int} {ms : List Int} {s P lo : Nat} (ho : OptsTo ws long ms s) (hn : ws.length ≤ 8) (hs : s < 65536) (hP : SubOf P s) (hlo : P.testBit lo = true) (hls : s.testBit lo = true) (hl64 : lo < 64) :
    ∃ m : Nat, ms[s &&& (18446744073709551615 - P)]? = some (m : Int) ∧ s &&& (18446744073709551615 - P) < s ∧ IsOpt ws.length (wF ws) long (fun i => bitsOf s i && !bitsOf P i) m := by
  have hPs := hP.le
  have hlt : s &&& (18446744073709551615 - P) < s := by
    have hle : s &&& (18446744073709551615 - P) ≤ s := Nat.and_le_left
    rcases Nat.lt_or_eq_of_le hle with h | h
    · exact h
    · have := andNot_bit (s := s) (p := P) (i := lo) (by omega) hl64
      rw [h, hls, hlo] at this; cases this
  obtain ⟨m, a, b⟩ := ho _ hlt
  exact ⟨m, a, hlt, b.congr fun i hi => andNot_bit (by omega) (by omega)⟩
set_option maxRecDepth 100000 in
set_option maxHeartbeats 8000000 in
theorem implLeast_any {v : Int} (A : Option Addr) (n c : Nat) (ws : List Int) (long : Int) (w : World) (hl : ws.length = n) (hr : RdI .i64 w w.heap.size A ws) (hn : n ≤ 1048576) (hv : SLeast ws long v) (hT : TabAt 1 Lib.deBruijn64tab w) (hg1 : 1 < w.heap.size) :
    Calls Tryd.prog 45 #[.slice A n c, .int .i64 long] w fun e w' => e = .returned (.int .i64 v) ∧ Below w.heap.size w w' := by
  obtain ⟨i0, hi, hz0, hz1, hz2⟩ := info_parts info_int
  have HL := Lib.hid hl
  clear hl
  cases h1 : wantsOk ws long
  · have hv' := hv.no h1
    subst hv'
    go_enter Tryd.func45, Tryd.ntmps45
    go_wp2_with (go_at_call 33; refine (implWants_any _ _ _ ws long _ HL.out hr (by omega)).mono ?_; rintro e w' ⟨rfl, rfl⟩)
    go_ret
    exact ⟨rfl, Below.refl _ _⟩
  have H1 := Lib.hid h1
  have HF := Lib.hid (wants_fits h1)
  obtain ⟨n8, L0, L1⟩ := wantsOk_len h1
  have hn8 : n ≤ 8 := by rw [← HL.out]; exact n8
  obtain ⟨N, hN⟩ : ∃ N, 2 ^ n = N := ⟨_, rfl⟩
  have hp : ((2 : Int) ^ n) = (N : Int) := by rw [pow2_nat, hN]
  have hN1 : 1 ≤ N ∧ N ≤ 256 := by
    obtain ⟨a, b⟩ := pow2_bounds hn8
    rw [hp] at a b; omega
  obtain ⟨hN1, hN2⟩ := hN1
  have HN := Lib.hid hN
  clear hN n8
  have tok1 : True := trivial
  go_enter Tryd.func45, Tryd.ntmps45
  go_wp2_with (first | (go_at_call 33; refine (implWants_any _ _ _ ws long _ HL.out hr (by omega)).mono ?_; rintro e w' ⟨rfl, rfl⟩) | (at_make; have _t := tok1; go_must (refine wpList_make_full _ rfl _ _ 24 rfl w.heap.size 3 i0 _ 1 Tryd.underlying24 hi hz0 hz1 .i64 .i64 _ _ N rfl rfl (by go_num) (by go_num) (by rw [hz2]; omega) (by unfold maxLen; omega) (Nat.le_refl _) ?_); intro w4 hown4 hgr4; clear tok1 _t) | (at_make; go_must (refine wpList_make_full _ rfl _ _ 24 rfl w4.heap.size 3 i0 _ 1 Tryd.underlying24 hi hz0 hz1 .i64 .i64 _ _ N rfl rfl (by go_num) (by go_num) (by rw [hz2]; omega) (by unfold maxLen; omega) (Nat.le_refl _) ?_); intro w5 hown5 hgr5))
  rw [madeI] at hown4 hown5
  have b45 : Below w4.heap.size w4 w5 := (Below.refl _ _).grown hgr5 (Nat.le_refl _) (by simp)
  have b04 : Below w.heap.size w w4 := (Below.refl _ _).grown hgr4 (Nat.le_refl _) (by simp)
  have hgg : w.heap.size < w4.heap.size := (hown4.lt _ rfl).2
  have o5 := own_below hown4 b45
  have t5 := below_next b04 b45
  clear hown4 hgr4 hgr5 b45 b04 hp h1
  generalize hg : w.heap.size = g at *
  have HG := Lib.hid hg
  clear hg
  generalize w4.heap.size = g6 at *
  go_loopw [7] (fun i wr => ∃ (s : Nat) (us ms : List Int), i = .int .i64 s ∧ 1 ≤ s ∧ s ≤ N ∧ SumsTo ws us s ∧ OptsTo ws long ms s ∧ wr.ownsRow g 3 1 (.slice (some ⟨g, 0, none⟩) N N) N (intsV .i64 us) ∧ wr.ownsRow g6 3 1 (.slice (some ⟨g6, 0, none⟩) N N) N (intsV .i64 ms) ∧ Below g w wr) (fun i _ => N - (intOf i).toNat)
  case atStart => exact ⟨1, _, _, rfl, Nat.le_refl _, hN1, sums_zero (by omega), opts_zero (by omega), o5, hown5, t5⟩
  case round =>
    obtain ⟨s, us, ms, rfl, hs1, hs, hsum, hopt, hown1, hown2, hbel⟩ := hrel
    clear o5 hown5 t5
    have hul : us.length = N := by have := hown1.1; simpa [intsV] using this
    have hml : ms.length = N := by have := hown2.1; simpa [intsV] using this
    have HUL := Lib.hid hul
    have HML := Lib.hid hml
    clear hul hml
    by_cases hlt : s < N
    · have HS2 : Hid (s < 2 ^ ws.length) := Lib.hid (by rw [HL.out, HN.out]; exact hlt)
      obtain ⟨c1, c2, c3, c4⟩ := low_bit s (by omega) (by omega)
      have hT' : TabAt 1 Lib.deBruijn64tab wr := tab_up hT hg1 hbel
      have hlon := bit_lt HS2.out c2
      have hlon2 : Lib.ctz 64 s < n := by rw [← HL.out]; exact hlon
      obtain ⟨x, hx⟩ : ∃ x, ws[Lib.ctz 64 s]? = some x := ⟨_, List.getElem?_eq_getElem hlon⟩
      have hstep := sums_step HS2.out (by rw [HL.out]; exact hn8) (by omega) rfl hx
      obtain ⟨x0, x1⟩ := wantsOk_get H1.out hx
      obtain ⟨b, off, rfl, hbB, hcx⟩ := hr _ x hx
      rw [← hbel.cell (by exact hbB)] at hcx
      obtain ⟨z0, z1⟩ := tot_small H1.out (bitsOf (s &&& (s - 1)))
      have hcq := ints_at hown1 (hsum _ c4)
      have hq : bits .and .i64 (s : Int) ((s : Int) - 1) = ((s &&& (s - 1) : Nat) : Int) := by
        rw [show (s : Int) - 1 = ((s - 1 : Nat) : Int) by omega]; exact i64_and_nat s (s - 1) (by omega) (by omega)
      have HTZ : Hid (∀ W : World, TabAt 1 Lib.deBruijn64tab W → Calls Tryd.prog 82 #[.int .u64 s] W fun e w' => e = .returned (.int .i64 (Lib.ctz 64 s : Nat)) ∧ W = w') := Lib.hid (fun W h => tz_any s (by omega) (by omega) W h)
      have HST := Lib.hid hstep
      have HC2 := Lib.hid c2
      clear hx hstep c2 c3 hr
      generalize Lib.ctz 64 s = lo at *
      generalize htq : tot ws.length (wF ws) (bitsOf (s &&& (s - 1))) = tq at *
      generalize s &&& (s - 1) = q at *
      have HTQ := Lib.hid htq
      clear htq
      obtain ⟨u1, e1⟩ : ∃ u, wr.cell? ⟨g, s, none⟩ = some u := ⟨_, (hown1.cellAt s (by omega)).trans (List.getElem?_eq_getElem (by have := hown1.1; omega))⟩
      obtain ⟨u2, e2⟩ : ∃ u, wr.cell? ⟨g6, s, none⟩ = some u := ⟨_, (hown2.cellAt s (by omega)).trans (List.getElem?_eq_getElem (by have := hown2.1; omega))⟩
      have f1 := hown1.frozenAt s
      have f2 := hown2.frozenAt s
      have hne : g6 ≠ g := by omega
      have hne2 : g ≠ g6 := by omega
      -- behind both stores
      have HOA := Lib.hid (own_set1 (k := s) (x := tq + x) hown1)
      have HOB := Lib.hid (own_far hown2 ⟨g, s, none⟩ hne (.int .i64 (tq + x)))
      have HSU := Lib.hid (hsum.set (v := tq + x) (by rw [HUL.out]; exact hlt) HST.out.symm)
      have HOP := Lib.hid hopt
      clear hown1 hown2 hsum hopt
      obtain ⟨wo, rfl⟩ : ∃ wo : World, wo = wr := ⟨_, rfl⟩
      go_wp2_with (go_at_call 82; refine (HTZ.out _ hT').mono ?_; rintro e w' ⟨rfl, rfl⟩)
      go_region
      go_wp2
      have hpi0 : PartInv ws.length (wF ws) long s lo s n := by
        have := PartInv.start HF.out (s := s) (lo := lo)
        rw [HL.out] at this ⊢; exact this
      have hss : SubOf s s := Nat.and_self s
      have HO1 := Lib.hid (own_drew (own_far HOA.out ⟨g6, s, none⟩ hne2 (.int .i64 (n : Int))))
      have HO2 := Lib.hid (own_drew (own_set1 (k := s) (x := (n : Int)) HOB.out))
      have tB : Below g w ((wo.setCell ⟨g, s, none⟩ (.int .i64 (tq + x))).setCell ⟨g6, s, none⟩ (.int .i64 (n : Int))).drew := (by repeat' (first | exact Below.refl _ _ | assumption | refine Below.alloc ?_ (by first | omega | (simp; done) | (simp; omega)) _ | refine Below.setCell ?_ (by first | omega | (simp; done) | (simp; omega)) _ | refine Below.drew ?_ | refine below_drawn ?_ _))
      clear HOA HOB e1 e2 f1 f2 hcx hcq
      go_loopw [9] (fun p ww => ∃ (P v : Nat), p = .int .i64 P ∧ SubOf P s ∧ PartInv ws.length (wF ws) long s lo P v ∧ v ≤ 300 ∧ ww.ownsRow g 3 1 (.slice (some ⟨g, 0, none⟩) N N) N (intsV .i64 (us.set s (tq + x))) ∧ ww.ownsRow g6 3 1 (.slice (some ⟨g6, 0, none⟩) N N) N (intsV .i64 (ms.set s (v : Int))) ∧ Below g w ww) (fun p _ => (intOf p).toNat)
      case atStart => exact ⟨s, n, rfl, hss, hpi0, by omega, HO1.out, HO2.out, tB⟩
      case round =>
        obtain ⟨P, v, rfl, hsub, hpi, hv300, hown1, hown2, hbel2⟩ := hrel
        clear tB hpi0 hss
        have hPs := hsub.le
        by_cases hP0 : 0 < P
        · obtain ⟨y0, y1⟩ := tot_small H1.out (bitsOf P)
          have hcP := ints_at hown1 (HSU.out P (by omega))
          have hand : bits .and .i64 ((P : Int) - 1) (s : Int) = (((P - 1) &&& s : Nat) : Int) := by
            rw [show (P : Int) - 1 = ((P - 1 : Nat) : Int) by omega]; exact i64_and_nat (P - 1) s (by omega) (by omega)
          have hnle : (P - 1) &&& s ≤ P - 1 := Nat.and_le_left
          have HSN := Lib.hid (SubOf.next P s)
          have HPI := Lib.hid hpi
          have HSUB := Lib.hid hsub
          have HO1' := Lib.hid hown1
          have hnon : tot ws.length (wF ws) (bitsOf P) ≤ long ∨ ¬ tot ws.length (wF ws) (bitsOf P) ≤ long := by omega
          generalize htp : tot ws.length (wF ws) (bitsOf P) = tp at *
          have HTP := Lib.hid htp
          clear htp hpi hsub hown1 hnon
          cases hb : bitsOf P lo
          · have d1 : (bits .and .i64 ((P : Int) / 2 ^ lo) 1 == 1) = false := by
              rw [and1_bit]
              have : ¬ bitI (P : Int) lo = 1 := fun h => by rw [bitI_one.1 h] at hb; cases hb
              simpa using this
            have HNX := Lib.hid (HPI.out.skip HS2.out HSUB.out (fun h => by have := h.1; unfold bitsOf at hb; rw [hb] at this; cases this))
            generalize (P - 1) &&& s = P2 at *
            go_wp2
            go_roundw
            case rel => exact ⟨P2, v, rfl, HSN.out, HNX.out, hv300, HO1'.out, hown2, hbel2⟩
            case measure => simp [intOf] <;> omega
          · have d1 : (bits .and .i64 ((P : Int) / 2 ^ lo) 1 == 1) = true := by
              rw [and1_bit, bitI_one.2 hb]; rfl
            by_cases s1 : tp ≤ long
            · obtain ⟨m, hm1, hm2, hm3⟩ := opt_rest HOP.out (by rw [HL.out]; exact hn8) (by omega) HSUB.out hb HC2.out (by omega)
              have hanot : bits .andNot .i64 (s : Int) (P : Int) = ((s &&& (18446744073709551615 - P) : Nat) : Int) := i64_andNot_nat s P (by omega) (by omega)
              have hmn : m ≤ n := by have := hm3.le HF.out; rw [HL.out] at this; exact this
              have hk : OptsTo ws long (ms.set s (v : Int)) s := HOP.out.keep
              have hcm : wr.cell? ⟨g6, s &&& (18446744073709551615 - P), none⟩ = some (.int .i64 (m : Int)) := ints_at hown2 (by rw [List.getElem?_set_ne (by omega)]; exact hm1)
              have hcs : wr.cell? ⟨g6, s, none⟩ = some (.int .i64 (v : Int)) := ints_at hown2 (List.getElem?_set_self (by rw [HML.out]; exact hlt))
              have hf := hown2.frozenAt s
              have HM3 := Lib.hid hm3
              have HO2' := Lib.hid hown2
              clear hm1 hm3 hk hown2
              have htotP : tot ws.length (wF ws) (bitsOf P) ≤ long := by rw [HTP.out]; exact s1
              have HTO := Lib.hid htotP
              clear htotP
              generalize s &&& (18446744073709551615 - P) = q2 at *
              by_cases s2 : (m : Int) + 1 < (v : Int)
              · have HNX := Lib.hid (HPI.out.take (v' := m + 1) HS2.out HSUB.out HTO.out HM3.out (.inr ⟨rfl, by omega⟩))
                generalize (P - 1) &&& s = P2 at *
                go_wp2
                go_region
                go_wp2
                go_roundw
                case rel =>
                  refine ⟨P2, m + 1, rfl, HSN.out, HNX.out, by omega, own_drew (own_far HO1'.out ⟨g6, s, none⟩ hne2 _), ?_, (by repeat' (first | exact Below.refl _ _ | assumption | refine Below.alloc ?_ (by first | omega | (simp; done) | (simp; omega)) _ | refine Below.setCell ?_ (by first | omega | (simp; done) | (simp; omega)) _ | refine Below.drew ?_ | refine below_drawn ?_ _))⟩
                  have := own_set1 (k := s) (x := ((m + 1 : Nat) : Int)) HO2'.out
                  rw [List.set_set] at this
                  exact own_drew this
                case measure => simp [intOf] <;> omega
              · have HNX := Lib.hid (HPI.out.take (v' := v) HS2.out HSUB.out HTO.out HM3.out (.inl ⟨rfl, by omega⟩))
                generalize (P - 1) &&& s = P2 at *
                go_wp2
                go_region
                go_wp2
                go_roundw
                case rel =>
                  refine ⟨P2, v, rfl, HSN.out, HNX.out, by omega, own_drew (own_far HO1'.out ⟨g6, s, none⟩ hne2 _), ?_, (by repeat' (first | exact Below.refl _ _ | assumption | refine Below.alloc ?_ (by first | omega | (simp; done) | (simp; omega)) _ | refine Below.setCell ?_ (by first | omega | (simp; done) | (simp; omega)) _ | refine Below.drew ?_ | refine below_drawn ?_ _))⟩
                  have := own_set1 (k := s) (x := (v : Int)) HO2'.out
                  rw [List.set_set] at this
                  exact own_drew this
                case measure => simp [intOf] <;> omega
            · have d2 : decide (tp ≤ long) = false := by simpa using s1
              have HNX := Lib.hid (HPI.out.skip HS2.out HSUB.out (fun h => by have := h.2; rw [HTP.out] at this; exact s1 this))
              generalize (P - 1) &&& s = P2 at *
              go_wp2
              go_roundw
              case rel => exact ⟨P2, v, rfl, HSN.out, HNX.out, hv300, HO1'.out, hown2, hbel2⟩
              case measure => simp [intOf] <;> omega
        · obtain rfl : P = 0 := by omega
          have HOPT := Lib.hid (HOP.out.set (by rw [HML.out]; exact hlt) (hpi.fin HF.out HS2.out HC2.out))
          clear hpi
          go_wp2
          go_roundw
          case rel => exact ⟨s + 1, _, _, by go_num, by omega, by omega, HSU.out, HOPT.out, hown1, hown2, hbel2⟩
          case measure => simp [intOf] <;> omega
    · obtain ⟨m, hm1, hm2⟩ := hopt (N - 1) (by omega)
      have hc := ints_at hown2 hm1
      have HV := Lib.hid (hv.yes H1.out (s := N - 1) (by rw [HL.out, HN.out]; omega) hm2)
      clear hm1 hm2 hopt hsum
      have hN0 : (0 : Int) ≤ (N : Int) - 1 := by omega
      have hNN : ((N : Int) - 1).toNat = N - 1 := by omega
      go_wp2
      go_ret
      have hG := HG.out
      subst hG
      exact ⟨ret_int HV.out.symm, hbel⟩
end Go.Proofs.YtcegmlogjbnoeaaDoor
