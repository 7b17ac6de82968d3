/- 'StrandsOk': both walks. -/
import Derived.Test.YtcegmlogjbnoeaaDoorStrPlain
import Derived.Test.YtcegmlogjbnoeaaDoorCutWalk
import Derived.Test.YtcegmlogjbnoeaaDoorSz
import Derived.RegionTactic
import Derived.Outline
namespace Go.Proofs.YtcegmlogjbnoeaaDoor
open Go.RowKit
set_option linter.unusedVariables false
/-- the first k places are right -/
def StrPre (ws ps : List Int) (k : Nat) : Prop := ((ps.take k).all fun p => inB p 0 ((ws.length : Int) - 1)) = true
def SumPre (ws ps : List Int) (long : Int) (n k : Nat) : Prop := ∀ s : Nat, s < n → sumAt ws ps (s : Int) k ≤ long
section
variable {ws ps : List Int} {long : Int}
theorem StrPre.zero : StrPre ws ps 0 := by simp [StrPre]
theorem StrPre.next {k : Nat} {p : Int} (h : StrPre ws ps k) (hp : ps[k]? = some p) (hb : inB p 0 ((ws.length : Int) - 1) = true) : StrPre ws ps (k + 1) := by
  unfold StrPre at h ⊢
  rw [allI_take_succ hp, h, hb]; rfl
theorem StrPre.fin {k : Nat} (h : StrPre ws ps k) (hk : ps.length ≤ k) : (ps.all fun p => inB p 0 ((ws.length : Int) - 1)) = true := by
  unfold StrPre at h; rwa [List.take_of_length_le hk] at h
theorem SumPre.zero {n : Nat} (h : 0 ≤ long) : SumPre ws ps long n 0 := fun s _ => by simp [sumAt]; exact h
theorem SumPre.next {n k : Nat} {p : Nat} {x : Int} (h : SumPre ws ps long n k) (hw : ws[k]? = some x) (hp : ps[k]? = some (p : Int)) (hle : sumAt ws ps (p : Int) k + x ≤ long) : SumPre ws ps long n (k + 1) := fun s hs => by
  by_cases e : s = p
  · subst e; rw [sumAt_hit hw hp]; exact hle
  · rw [sumAt_miss hw hp (by omega)]; exact h s hs
end
set_option maxRecDepth 100000 in
set_option maxHeartbeats 4000000 in
theorem implStrands_any (A1 : Option Addr) (n1 c1 : Nat) (ws : List Int) (long : Int) (A2 : Option Addr) (n2 c2 : Nat) (ps : List Int) (w : World)
    (hl1 : ws.length = n1) (hr1 : RdI .i64 w w.heap.size A1 ws) (hn1 : n1 ≤ 1048576) (hl2 : ps.length = n2) (hr2 : RdI .i64 w w.heap.size A2 ps) (hn2 : n2 ≤ 1048576) :
    Calls Tryd.prog 53 #[.slice A1 n1 c1, .int .i64 long, .slice A2 n2 c2] w fun e w' => e = .returned (.bool (strandsOk ws long ps)) ∧ Below w.heap.size w w' := by
  obtain ⟨i0, hi, hz0, hz1, hz2⟩ := info_parts info_int
  have HL1 := Lib.hid hl1
  have HL2 := Lib.hid hl2
  clear hl1 hl2
  cases h1 : wantsOk ws long
  · go_enter Tryd.func53, Tryd.ntmps53
    go_wp2_with (go_at_call 33; refine (implWants_any _ _ _ ws long _ HL1.out hr1 (by omega)).mono ?_; rintro e w' ⟨rfl, rfl⟩)
    go_ret
    exact ⟨ret_bool (strandsOk_1 h1).symm, Below.refl _ _⟩
  by_cases h2 : n2 = n1
  · subst h2
    have H1 := Lib.hid h1
    obtain ⟨n8, L0, L1⟩ := wantsOk_len h1
    have hn8 : n2 ≤ 8 := by rw [← HL1.out]; exact n8
    have hne : ((n2 : Int) != (n2 : Int)) = false := by simp
    go_enter Tryd.func53, Tryd.ntmps53
    go_wp2_with (first | (go_at_call 33; refine (implWants_any _ _ _ ws long _ HL1.out hr1 (by omega)).mono ?_; rintro e w' ⟨rfl, rfl⟩) | (at_make; refine wpList_make_full _ rfl _ _ 24 rfl w.heap.size 3 i0 _ 1 Tryd.underlying24 hi hz0 hz1 .i64 .i64 _ _ n2 rfl rfl (by go_num) (by go_num) (by rw [hz2]; omega) (by unfold maxLen; omega) (Nat.le_refl _) ?_; intro w4 hown4 hgr4))
    rw [madeI, ← cutRow_zero ws ps] at hown4
    have t4 : Below w.heap.size w w4 := (Below.refl _ _).grown hgr4 (Nat.le_refl _) (by simp)
    clear hgr4 h1
    generalize hg : w.heap.size = g at *
    have HG := Lib.hid hg
    clear hg hne
    go_loopw [26] (fun i wr => ∃ k : Nat, k ≤ n2 ∧ i = .int .i64 k ∧ StrPre ws ps k ∧ SumPre ws ps long n2 k ∧ wr.ownsRow g 3 1 (.slice (some ⟨g, 0, none⟩) n2 n2) n2 (intsV .i64 (cutRow ws ps n2 k)) ∧ Below g w wr) (fun i _ => n2 - (intOf i).toNat)
    case atStart => exact ⟨0, Nat.zero_le _, rfl, StrPre.zero, SumPre.zero (by omega), hown4, t4⟩
    case round =>
      obtain ⟨k, hk, rfl, hpre, hsum, hown, hbel⟩ := hrel
      clear hown4 t4
      by_cases hlt : k < n2
      · obtain ⟨p, hp⟩ : ∃ p, ps[k]? = some p := ⟨_, List.getElem?_eq_getElem (by rw [HL2.out]; omega)⟩
        obtain ⟨x, hx⟩ : ∃ x, ws[k]? = some x := ⟨_, List.getElem?_eq_getElem (by rw [HL1.out]; omega)⟩
        obtain ⟨b2, off2, rfl, hbB2, hc2⟩ := hr2 k p hp
        obtain ⟨b1, off1, rfl, hbB1, hc1⟩ := hr1 k x hx
        obtain ⟨x0, x1⟩ := wantsOk_get H1.out hx
        rw [← hbel.cell (by exact hbB2)] at hc2
        rw [← hbel.cell (by exact hbB1)] at hc1
        have HP := Lib.hid hp
        have HX := Lib.hid hx
        clear hp hx hr1 hr2
        cases g1 : inB p 0 ((n2 : Int) - 1)
        · go_wp2_with (go_at_call 72; refine (within_any _ _ _ _).mono ?_; rintro e w' ⟨rfl, rfl⟩)
          go_ret
          have hG := HG.out
          subst hG
          exact ⟨ret_bool (strandsOk_3 HP.out (by rw [HL1.out]; exact g1)).symm, hbel⟩
        obtain ⟨p0, p1⟩ := inB_iff.1 g1
        obtain ⟨P, rfl⟩ : ∃ P : Nat, p = (P : Int) := ⟨p.toNat, by omega⟩
        have HPRE : StrPre ws ps (k + 1) := hpre.next HP.out (by rw [HL1.out]; exact g1)
        obtain ⟨z0, z1⟩ := sumAt_bounds (ws := ws) (ps := ps) (s := (P : Int)) H1.out k
        have hd1 : wr.cell? ⟨g, P, none⟩ = some (.int .i64 (sumAt ws ps (P : Int) k)) := by
          rw [hown.cellAt P (by omega)]
          simp only [intsV, List.getElem?_map]
          rw [cutRow_get (by omega)]; rfl
        have hf := hown.frozenAt P
        have HO := Lib.hid hown
        clear hown
        have HCR := Lib.hid (cutRow_succ (n := n2) HX.out HP.out)
        have HSN : Hid (sumAt ws ps (P : Int) k + x ≤ long → SumPre ws ps long n2 (k + 1)) := Lib.hid (hsum.next HX.out HP.out)
        have HBAD : Hid (long < sumAt ws ps (P : Int) k + x → strandsOk ws long ps = false) := Lib.hid (fun h => strandsOk_4 (s := P) (by rw [HL1.out]; omega) (by
          have := sumAt_mono (ps := ps) (s := (P : Int)) H1.out (k + 1) ws.length (by rw [HL1.out]; omega)
          rw [sumAt_hit HX.out HP.out] at this; omega))
        generalize sumAt ws ps (P : Int) k = q at *
        by_cases s1 : long < q + x
        · go_wp2_with (go_at_call 72; refine (within_any _ _ _ _).mono ?_; rintro e w' ⟨rfl, rfl⟩)
          go_region
          go_wp2
          go_ret
          have hG := HG.out
          subst hG
          exact ⟨ret_bool (HBAD.out s1).symm, (by repeat' (first | exact Below.refl _ _ | assumption | refine Below.alloc ?_ (by first | omega | (simp; done) | (simp; omega)) _ | refine Below.setCell ?_ (by first | omega | (simp; done) | (simp; omega)) _ | refine Below.drew ?_ | refine below_drawn ?_ _))⟩
        · go_wp2_with (go_at_call 72; refine (within_any _ _ _ _).mono ?_; rintro e w' ⟨rfl, rfl⟩)
          go_region
          go_wp2
          go_roundw
          case rel =>
            refine ⟨k + 1, by omega, by go_num, HPRE, HSN.out (by omega), ?_, (by repeat' (first | exact Below.refl _ _ | assumption | refine Below.alloc ?_ (by first | omega | (simp; done) | (simp; omega)) _ | refine Below.setCell ?_ (by first | omega | (simp; done) | (simp; omega)) _ | refine Below.drew ?_ | refine below_drawn ?_ _))⟩
            rw [HCR.out]
            exact own_drew (own_set1 (k := P) (x := q + x) HO.out)
          case measure => simp [intOf] <;> omega
      · go_wp2
        go_ret
        have hG := HG.out
        subst hG
        have hkn : ws.length = k := by rw [HL1.out]; omega
        exact ⟨ret_bool (strandsOk_mk H1.out (by rw [HL1.out, HL2.out]) (hpre.fin (by rw [HL2.out]; omega)) (fun s hs => by rw [hkn]; exact hsum s (by omega))).symm, hbel⟩
  · have hne : ((n2 : Int) != (n1 : Int)) = true := by rw [bne_iff_ne]; omega
    go_enter Tryd.func53, Tryd.ntmps53
    go_wp2_with (go_at_call 33; refine (implWants_any _ _ _ ws long _ HL1.out hr1 (by omega)).mono ?_; rintro e w' ⟨rfl, rfl⟩)
    go_ret
    exact ⟨ret_bool (strandsOk_2 (by rw [HL1.out, HL2.out]; exact h2)).symm, Below.refl _ _⟩
/-- strands before s are not too full; and if there is one, all places are right -/
def StrAll (ws ps : List Int) (long : Int) (n s : Nat) : Prop := (∀ t : Nat, t < s → sumAt ws ps (t : Int) n ≤ long) ∧ (s = 0 ∨ StrPre ws ps n)
set_option maxRecDepth 100000 in
set_option maxHeartbeats 4000000 in
theorem specStrands_any (A1 : Option Addr) (n1 c1 : Nat) (ws : List Int) (long : Int) (A2 : Option Addr) (n2 c2 : Nat) (ps : List Int) (w : World)
    (hl1 : ws.length = n1) (hr1 : RdI .i64 w w.heap.size A1 ws) (hn1 : n1 ≤ 1048576) (hl2 : ps.length = n2) (hr2 : RdI .i64 w w.heap.size A2 ps) (hn2 : n2 ≤ 1048576) :
    Calls Tryd.prog 54 #[.slice A1 n1 c1, .int .i64 long, .slice A2 n2 c2] w fun e w' => e = .returned (.bool (strandsOk ws long ps)) ∧ w = w' := by
  have HL1 := Lib.hid hl1
  have HL2 := Lib.hid hl2
  clear hl1 hl2
  cases h1 : wantsOk ws long
  · go_enter Tryd.func54, Tryd.ntmps54
    go_wp2_with (go_at_call 34; refine (specWants_any _ _ _ ws long _ HL1.out hr1 (by omega)).mono ?_; rintro e w' ⟨rfl, rfl⟩)
    go_ret
    exact ⟨ret_bool (strandsOk_1 h1).symm, rfl⟩
  by_cases h2 : n2 = n1
  · subst h2
    have H1 := Lib.hid h1
    obtain ⟨n8, L0, L1⟩ := wantsOk_len h1
    have hn8 : n2 ≤ 8 := by rw [← HL1.out]; exact n8
    have hne : ((n2 : Int) != (n2 : Int)) = false := by simp
    go_enter Tryd.func54, Tryd.ntmps54
    go_wp2_with (go_at_call 34; refine (specWants_any _ _ _ ws long _ HL1.out hr1 (by omega)).mono ?_; rintro e w' ⟨rfl, rfl⟩)
    clear hne h1
    go_loop [7] (fun i => ∃ s : Nat, s ≤ n2 ∧ i = .int .i64 s ∧ StrAll ws ps long n2 s) (fun i => n2 - (intOf i).toNat)
    case atStart => exact ⟨0, Nat.zero_le _, rfl, fun t ht => absurd ht (Nat.not_lt_zero _), .inl rfl⟩
    case round =>
      obtain ⟨s, hs, rfl, hall⟩ := hrel
      by_cases hlt : s < n2
      · go_wp2
        go_loop [8, 9] (fun t i => ∃ k : Nat, k ≤ n2 ∧ i = .int .i64 k ∧ t = .int .i64 (sumAt ws ps (s : Int) k) ∧ StrPre ws ps k) (fun _ i => n2 - (intOf i).toNat)
        case atStart => exact ⟨0, Nat.zero_le _, rfl, rfl, StrPre.zero⟩
        case round =>
          obtain ⟨k, hk, rfl, rfl, hpre⟩ := hrel
          obtain ⟨z0, z1⟩ := sumAt_bounds (ws := ws) (ps := ps) (s := (s : Int)) H1.out k
          by_cases hltk : k < n2
          · obtain ⟨p, hp⟩ : ∃ p, ps[k]? = some p := ⟨_, List.getElem?_eq_getElem (by rw [HL2.out]; omega)⟩
            obtain ⟨x, hx⟩ : ∃ x, ws[k]? = some x := ⟨_, List.getElem?_eq_getElem (by rw [HL1.out]; omega)⟩
            obtain ⟨b2, off2, rfl, hbB2, hc2⟩ := hr2 k p hp
            obtain ⟨b1, off1, rfl, hbB1, hc1⟩ := hr1 k x hx
            obtain ⟨x0, x1⟩ := wantsOk_get H1.out hx
            have HP := Lib.hid hp
            have HX := Lib.hid hx
            clear hp hx hr1 hr2
            cases g1 : inB p 0 ((n2 : Int) - 1)
            · go_wp2_with (go_at_call 75; refine (in_any _ _ _ _).mono ?_; rintro e w' ⟨rfl, rfl⟩)
              go_ret
              exact ⟨ret_bool (strandsOk_3 HP.out (by rw [HL1.out]; exact g1)).symm, rfl⟩
            obtain ⟨p0, p1⟩ := inB_iff.1 g1
            have HPRE : StrPre ws ps (k + 1) := hpre.next HP.out (by rw [HL1.out]; exact g1)
            by_cases s1 : p = (s : Int)
            · subst s1
              have HH := Lib.hid (sumAt_hit HX.out HP.out)
              have d : (((s : Int)) == (s : Int)) = true := by simp
              generalize sumAt ws ps (s : Int) k = q at *
              go_wp2_with (go_at_call 75; refine (in_any _ _ _ _).mono ?_; rintro e w' ⟨rfl, rfl⟩)
              go_round
              case rel => exact ⟨k + 1, by omega, by go_num, by rw [HH.out], HPRE⟩
              case measure => simp [intOf] <;> omega
            · have HH := Lib.hid (sumAt_miss HX.out HP.out s1)
              have d : (p == (s : Int)) = false := by simpa using s1
              generalize sumAt ws ps (s : Int) k = q at *
              go_wp2_with (go_at_call 75; refine (in_any _ _ _ _).mono ?_; rintro e w' ⟨rfl, rfl⟩)
              go_round
              case rel => exact ⟨k + 1, by omega, by go_num, by rw [HH.out], HPRE⟩
              case measure => simp [intOf] <;> omega
          · obtain rfl : k = n2 := by omega
            by_cases s1 : long < sumAt ws ps (s : Int) k
            · go_wp2
              go_ret
              exact ⟨ret_bool (strandsOk_4 (s := s) (by rw [HL1.out]; omega) (by rw [HL1.out]; exact s1)).symm, rfl⟩
            · have HNX : StrAll ws ps long k (s + 1) := ⟨fun t ht => by
                by_cases e : t = s
                · subst e; omega
                · exact hall.1 t (by omega), .inr hpre⟩
              go_wp2
              go_round
              case rel => exact ⟨s + 1, by omega, by go_num, HNX⟩
              case measure => simp [intOf] <;> omega
      · go_wp2
        go_ret
        obtain rfl : s = n2 := by omega
        refine ⟨ret_bool (strandsOk_mk H1.out (by rw [HL1.out, HL2.out]) ?_ (fun t ht => by rw [HL1.out] at ht ⊢; exact hall.1 t ht)).symm, rfl⟩
        rcases hall.2 with h | h
        · exact StrPre.fin (k := 0) StrPre.zero (by rw [HL2.out]; omega)
        · exact h.fin (by rw [HL2.out]; exact Nat.le_refl _)
  · have hne : ((n2 : Int) != (n1 : Int)) = true := by rw [bne_iff_ne]; omega
    go_enter Tryd.func54, Tryd.ntmps54
    go_wp2_with (go_at_call 34; refine (specWants_any _ _ _ ws long _ HL1.out hr1 (by omega)).mono ?_; rintro e w' ⟨rfl, rfl⟩)
    go_ret
    exact ⟨ret_bool (strandsOk_2 (by rw [HL1.out, HL2.out]; exact h2)).symm, rfl⟩
end Go.Proofs.YtcegmlogjbnoeaaDoor
