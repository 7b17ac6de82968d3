/- The walk of the law FnPassesOk (written by genlaws.py). -/
import Derived.Test.YtiddlpgpbafdmaaDoorDrawPb
import Derived.Test.YtiddlpgpbafdmaaDoorFL2
import Derived.Test.YtiddlpgpbafdmaaDoorOkAny
import Derived.Test.YtiddlpgpbafdmaaDoorFurnFn2
import Derived.Test.YtiddlpgpbafdmaaDoorAlive
namespace Go.Proofs.YtiddlpgpbafdmaaDoor
open Go.RowKit
set_option linter.unusedVariables false
set_option maxRecDepth 100000 in
set_option maxHeartbeats 1000000 in
theorem walkFnPassesOk (w : World) (A : Option Addr) (n c : Nat) (xs : List Int) (hl : xs.length = n) (rd : RdI .u8 w w.heap.size A xs) (hc : n ≤ c) (hx : ∀ x ∈ xs, 0 ≤ x ∧ x ≤ 255) :
    Calls Tryd.prog 11 #[.slice A n c] w fun e w' => e = .returned (.bool true) ∧ Below w.heap.size w w' := by
  by_cases hs0 : 1048576 < (n : Int)
  · go_enter Tryd.func11, Tryd.ntmps11
    go_wp2
    go_ret
    exact ⟨rfl, Below.refl _ _⟩
  have hn : n ≤ 1048576 := by omega
  go_enter Tryd.func11, Tryd.ntmps11
  go_wp2_with (fail)
  refine (dDrawPassesOk_st hl hc rd hn hx).mono ?_
  rintro e w1 ⟨⟨A4, m, c4, L, r, p, A5, m5, c5, M, rfl, hL, hn9, hM, hn5, o1, o2⟩, hb⟩
  clear rd hx hl hc
  obtain ⟨i0, hi, hz0, hz1, hz2⟩ := info_parts info_Pass
  have hs1 := hb.size
  have hrd := RdP.of_own o1
  have HL := Lib.hid hL
  have HM := Lib.hid hM
  have bw : Below w1.heap.size w1 (w1.alloc (.cells #[.int .i64 r, .int .i64 p] 24)) := (Below.refl _ w1).alloc (Nat.le_refl _) _
  have fl : FL w (w1.alloc (.cells #[.int .i64 r, .int .i64 p] 24)) w1.heap.size r p A4 L := ⟨⟨hb.alloc hs1 _, by simp, by go_simp, by go_simp⟩, hrd.up bw bw.size⟩
  have gm : PO w (w1.alloc (.cells #[.int .i64 r, .int .i64 p] 24)) 47 (.slice A5 m5 c5) m5 M := ⟨hb.alloc hs1 _, o2.alloc _⟩
  clear bw hrd o1 o2 hb hL hM
  have cx := fl.fx.x
  have cy := fl.fx.y
  cases hok : passesOk L r p M
  · go_wp2_with (first
      | (go_at_call 41; refine (implOk_any _ _ _ L r p _ _ _ M _ HL.out fl.rd (by omega) HM.out gm.rd (by omega)).mono ?_; rintro e w2 ⟨rfl, hb2⟩; have fl := fl.next hb2; have gm := gm.next hb2; have cx := fl.fx.x; have cy := fl.fx.y)
      | (go_at_call 43; refine (specOk_any _ _ _ L r p _ _ _ M _ HL.out fl.rd (by omega) HM.out gm.rd (by omega)).mono ?_; rintro e w2 ⟨rfl, hb2⟩; have fl := fl.next hb2; have gm := gm.next hb2; have cx := fl.fx.x; have cy := fl.fx.y)
      | (go_at_call 18; refine (alive_any _).mono ?_; rintro e w2 ⟨rfl, hb2⟩; have fl := fl.next hb2))
    go_ret
    exact ⟨rfl, fl.fx.be⟩
  · obtain ⟨p1, p2, p3, p4⟩ := passesOk_parts hok
    have hr1 := (furnOk_iff.1 p2).1
    have hto : ∃ R : Nat, r = R ∧ timesOf L r p = passTimes R p L := by
      obtain ⟨R, rfl⟩ := Int.eq_ofNat_of_zero_le (show 0 ≤ r by omega)
      exact ⟨R, rfl, timesOf_ok (by simp [p1, p2])⟩
    have hN : (timesOf L r p).length = m5 := by
      obtain ⟨R, e1, e2⟩ := hto
      rw [e2, passTimes_length, ← p3, HM.out]
    have hle : ∀ (k : Nat) (i o a b : Int), (timesOf L r p)[k]? = some (i, o) → M[k]? = some (a, b) → i ≤ a ∧ o ≤ b := by
      obtain ⟨R, e1, e2⟩ := hto
      subst e1
      rw [e2]
      exact times_least (by omega) p3 p4
    have hlat : (∀ (k : Nat) (a b : Int), M[k]? = some (a, b) → b ≤ 9998) → passesOk L r p (laterAll M) = true := later_ok hok
    have hbd : ∀ (k : Nat) (a b : Int), M[k]? = some (a, b) → 0 ≤ a ∧ a ≤ 9999 ∧ 0 ≤ b ∧ b ≤ 9999 := fun k a b h => by
      obtain ⟨_, h2, h3⟩ := passesOk_facts hok
      have hk : k < L.length := by have := (List.getElem?_eq_some_iff.1 h).1; omega
      exact (h3 k _ _ a b (List.getElem?_eq_getElem hk) h).2.2
    have cI := fun A n c W h1 h2 h3 => implTimes_any A n c L r p W h1 h2 h3
    clear hto p1 p2 p3 p4 hr1
    generalize timesOf L r p = N at cI hN hle
    have CI := Lib.hid cI
    have HN := Lib.hid hN
    have HLE := Lib.hid hle
    have HLAT := Lib.hid hlat
    have HBD := Lib.hid hbd
    clear cI hN hle hlat hbd
    go_wp2_with (first
      | (go_at_call 41; refine (implOk_any _ _ _ L r p _ _ _ M _ HL.out fl.rd (by omega) HM.out gm.rd (by omega)).mono ?_; rintro e w2 ⟨rfl, hb2⟩; have fl := fl.next hb2; have gm := gm.next hb2; have cx := fl.fx.x; have cy := fl.fx.y)
      | (go_at_call 43; refine (specOk_any _ _ _ L r p _ _ _ M _ HL.out fl.rd (by omega) HM.out gm.rd (by omega)).mono ?_; rintro e w2 ⟨rfl, hb2⟩; have fl := fl.next hb2; have gm := gm.next hb2; have cx := fl.fx.x; have cy := fl.fx.y)
      | (go_at_call 38; refine (CI.out _ _ _ _ HL.out fl.rd (by omega)).mono ?_; intro e w2 hrow; obtain ⟨A6, c6, rfl, own6, hb2⟩ := hrow.at_ HN.out; have gs : PO w w2 47 (.slice A6 m5 c6) m5 N := ⟨fl.fx.be.trans (hb2.mono fl.fx.be.size), own_lower own6 fl.fx.be.size⟩; have fl := fl.next hb2; have gm := gm.next hb2; have cx := fl.fx.x; have cy := fl.fx.y))
    have FLH := Lib.hid fl
    have GMH := Lib.hid gm
    have GSH := Lib.hid gs
    clear fl gm gs own6 hb2 cx cy hrow
    go_loopw [8, 9, 10] (fun v8 v9 v10 wr => ∃ (k : Nat) (A8 : Option Addr) (c8 : Nat) (z : Int), k ≤ m5 ∧ v8 = .slice A8 k c8 ∧ v9 = .int .i64 z ∧ v10 = .int .i64 k ∧ 0 ≤ z ∧ z ≤ 9999 ∧ (∀ (j : Nat) (a b : Int), j < k → M[j]? = some (a, b) → b ≤ z) ∧ Below w2.heap.size w2 wr ∧ wr.ownsRow w2.heap.size 47 2 (.slice A8 k c8) k (pairsV (laterAll (M.take k)))) (fun _ _ i _ => m5 - (intOf i).toNat)
    case atStart => exact ⟨0, _, _, 0, Nat.zero_le _, rfl, rfl, rfl, by omega, by omega, fun j a b h => absurd h (by omega), (Below.refl _ _).alloc (Nat.le_refl _) _, own_made0 (Nat.le_refl _) _ _⟩
    case round =>
      obtain ⟨k, A8, c8, z, hk, rfl, rfl, rfl, hz8, hz9, hmax, be, own8⟩ := hrel
      have fl := FLH.out.next be
      have gm := GMH.out.next be
      have gs := GSH.out.next be
      have hsz := be.size
      clear FLH GMH GSH
      by_cases hlt : k < m5
      · obtain ⟨g, cc, hform, -, -⟩ := own_form gm.own (by omega)
        injection hform with hA _ hC
        subst hA
        clear hC
        obtain ⟨g6, cc6, hform6, -, -⟩ := own_form gs.own (by omega)
        injection hform6 with hA6 _ hC6
        subst hA6
        clear hC6
        obtain ⟨⟨a, b⟩, hab⟩ : ∃ q, M[k]? = some q := ⟨_, List.getElem?_eq_getElem (by rw [HM.out]; omega)⟩
        obtain ⟨⟨i, o⟩, hio⟩ : ∃ q, N[k]? = some q := ⟨_, List.getElem?_eq_getElem (by rw [HN.out]; omega)⟩
        obtain ⟨t1, t2⟩ := HLE.out k i o a b hio hab
        obtain ⟨b1, b2, b3, b4⟩ := HBD.out k a b hab
        obtain ⟨e1, e2⟩ := own_pair gm.own hab
        obtain ⟨e3, e4⟩ := own_pair gs.own hio
        have D1 : decide (a < i) = false := decide_eq_false (by omega)
        have D2 : decide (b < o) = false := decide_eq_false (by omega)
        have W1 : IntKind.i64.wrap (a + 1) = a + 1 := IntWalk.i64_in _ (by omega)
        have W2 : IntKind.i64.wrap (b + 1) = b + 1 := IntWalk.i64_in _ (by omega)
        have W3 : IntKind.i64.wrap ((k : Int) + 1) = (k : Int) + 1 := IntWalk.i64_in _ (by omega)
        have K1 : (k : Int) < m5 := by omega
        have HAB := Lib.hid hab
        have HMAX := Lib.hid hmax
        clear hab hio hmax
        have hstep : laterAll (M.take k) ++ [(a + 1, b + 1)] = laterAll (M.take (k + 1)) := by
          rw [List.take_add_one, HAB.out]; simp [laterAll]
        have HST := Lib.hid hstep
        clear hstep
        obtain ⟨z', hz', hz0', hz9', hzz, hzb⟩ : ∃ z', (if z < b then b else z) = z' ∧ 0 ≤ z' ∧ z' ≤ 9999 ∧ z ≤ z' ∧ b ≤ z' := ⟨_, rfl, by split <;> omega, by split <;> omega, by split <;> omega, by split <;> omega⟩
        go_wp2_with (fail)
        go_quiet (fail)
        go_wp2_with (fail)
        go_region_law (first
          | (refine step_append_own rfl (.tmp 79) (.tmp 93) 43 rfl w2.heap.size 47 i0 _ 2 16 Tryd.underlying43 hi hz0 hz1 hz2 rfl (by decide) (.slice A8 k c8) k (pairsV (laterAll (M.take k))) rfl ((own_drew own8).alloc (.cells #[.int .i64 (a + 1), .int .i64 (b + 1)] 47)) ⟨wr.heap.size, 0, none⟩ 1 1 (pairsV [(a + 1, b + 1)]) rfl rfl (cells_one2 (Newest.alloc_ rfl)) pairsV_one (by unfold maxLen; omega) (by omega) (by simp; omega) ?_; intro v9 w9 hown9 hgr9; rw [← pairsV_append, HST.out] at hown9; obtain ⟨g9, c9, rfl, -, -⟩ := own_form hown9 (by omega); have be9 : Below w2.heap.size w2 w9 := Below.grown ((below_drawn be _).alloc hsz (.cells #[.int .i64 (a + 1), .int .i64 (b + 1)] 47)) hgr9 (by simp; omega) (fun q hq => own_ge own8 hq)))
        all_goals
          clear e1 e2 e3 e4 own8 hgr9
          go_wp2
          go_roundw
          case rel => exact ⟨k + 1, _, c9, z', by omega, rfl, rfl, by go_num, hz0', hz9', fun j x y hj h => by
            by_cases hjk : j < k
            · have := HMAX.out j x y hjk h
              omega
            · have hj2 : j = k := by omega
              rw [hj2, HAB.out] at h
              injection h with h
              injection h with h1 h2
              omega, be9, hown9⟩
          case measure => simp [intOf] <;> omega
      · have hkm : k = m5 := by omega
        subst hkm
        have cx := fl.fx.x
        have cy := fl.fx.y
        have HMAX := Lib.hid hmax
        have hM8 : (laterAll (M.take k)) = laterAll M := by rw [← HM.out, List.take_length]
        rw [hM8] at own8
        have hl8 : (laterAll M).length = k := by simp [laterAll, HM.out]
        have HL8 := Lib.hid hl8
        clear hM8 hl8 hmax hlt
        by_cases h99 : z = 9999
        · subst h99
          go_wp2
          go_ret
          exact ⟨rfl, fl.fx.be⟩
        · have hh := HLAT.out (fun j a b h => by
            have := HMAX.out j a b (by have := (List.getElem?_eq_some_iff.1 h).1; rw [HM.out] at this; exact this) h
            omega)
          have h98 : (z == 9999) = false := by simp; omega
          go_wp2_with (first
            | (go_at_call 41; refine (implOk_any _ _ _ L r p _ _ _ (laterAll M) _ HL.out fl.rd (by omega) HL8.out (RdP.of_own own8) (by omega)).mono ?_; rintro e w9 ⟨rfl, hb9⟩; have fl := fl.next hb9))
          go_ret
          exact ⟨rfl, fl.fx.be⟩
end Go.Proofs.YtiddlpgpbafdmaaDoor
