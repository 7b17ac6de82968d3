/- The walk of the law FnPassEnd. -/
import Derived.Test.YtiddlpgpbafdmaaDoorDrawPE
import Derived.Test.YtiddlpgpbafdmaaDoorWFnFurn
import Derived.Test.YtiddlpgpbafdmaaDoorPassEnd
import Derived.Test.YtiddlpgpbafdmaaDoorFurnFn2
import Derived.Test.YtiddlpgpbafdmaaDoorQuietC
namespace Go.Proofs.YtiddlpgpbafdmaaDoor
open Go.RowKit
set_option linter.unusedVariables false
/-- the drawn slabs and the drawn furnace, in a later world -/
structure FL (w wk : World) (b : Nat) (r p : Int) (A : Option Addr) (L : List (Int × Int)) : Prop where
  fx : FX w wk b r p
  rd : RdP wk wk.heap.size A L
theorem FL.next {w wk w' : World} {b : Nat} {r p : Int} {A : Option Addr} {L : List (Int × Int)} (h : FL w wk b r p A L) (hb : Below wk.heap.size wk w') : FL w w' b r p A L :=
  ⟨h.fx.next hb, h.rd.up hb hb.size⟩
theorem rd_take {w : World} {B : Nat} {A : Option Addr} {L : List (Int × Int)} (h : RdP w B A L) (m : Nat) : RdP w B A (L.take m) := fun j x y hj => by
  rw [List.getElem?_take] at hj
  split at hj
  · exact h j x y hj
  · cases hj
theorem RdP.drew_ {w : World} {A : Option Addr} {L : List (Int × Int)} (h : RdP w w.heap.size A L) : RdP w.drew w.drew.heap.size A L := h
theorem end_parts {L : List (Int × Int)} {r p : Int} (h : 0 ≤ passEnd L r p) : ∃ R : Nat, r = R ∧ chargesOk L = true ∧ furnOk R p = true := by
  cases hv : chargesOk L && furnOk r p
  · rw [passEnd_no hv] at h; omega
  · simp only [Bool.and_eq_true] at hv
    have h1 : 1 ≤ r := by have h2 := hv.2; simp only [furnOk, Bool.and_eq_true] at h2; exact (inB_iff.1 h2.1).1
    obtain ⟨R, rfl⟩ := Int.eq_ofNat_of_zero_le (show 0 ≤ r by omega)
    exact ⟨R, rfl, hv.1, hv.2⟩
theorem end_neg {L : List (Int × Int)} {r p : Int} (h : passEnd L r p < 0) : passEnd L r p = -1 := by
  cases hv : chargesOk L && furnOk r p
  · exact passEnd_no hv
  · simp only [Bool.and_eq_true] at hv
    have h1 : 1 ≤ r := by have h2 := hv.2; simp only [furnOk, Bool.and_eq_true] at h2; exact (inB_iff.1 h2.1).1
    obtain ⟨R, rfl⟩ := Int.eq_ofNat_of_zero_le (show 0 ≤ r by omega)
    have := passEnd_nonneg hv.1 hv.2
    omega
set_option maxRecDepth 100000 in
set_option maxHeartbeats 4000000 in
theorem walkFnPassEnd (w : World) (A : Option Addr) (n c : Nat) (xs : List Int) (hl : xs.length = n) (rd : RdI .u8 w w.heap.size A xs) (hc : n ≤ c) (hx : ∀ x ∈ xs, 0 ≤ x ∧ x ≤ 255) :
    Calls Tryd.prog 9 #[.slice A n c] w fun e w' => e = .returned (.bool true) ∧ Below w.heap.size w w' := by
  by_cases hs0 : 1048576 < (n : Int)
  · go_enter Tryd.func9, Tryd.ntmps9
    go_wp2
    go_ret
    exact ⟨rfl, Below.refl _ _⟩
  have hn : n ≤ 1048576 := by omega
  go_enter Tryd.func9, Tryd.ntmps9
  go_wp2_with (fail)
  refine (drawEnd_st hl hc rd hn hx).mono ?_
  rintro e w1 ⟨A4, m, c4, L, r, p, rfl, hL, hn9, hown, hb⟩
  clear rd hx hl hc 
  have hs1 := hb.size
  have hcap := own_cap hown
  have hrd := RdP.of_own hown
  have HL := Lib.hid hL
  have bw : Below w1.heap.size w1 (w1.alloc (.cells #[.int .i64 r, .int .i64 p] 24)) := (Below.refl _ w1).alloc (Nat.le_refl _) _
  have fl0 : FL w (w1.alloc (.cells #[.int .i64 r, .int .i64 p] 24)) w1.heap.size r p A4 L := ⟨⟨hb.alloc hs1 _, by simp, by go_simp, by go_simp⟩, hrd.up bw bw.size⟩
  clear bw hrd hown hb hL
  by_cases hneg : passEnd L r p < 0
  · have hm := end_neg hneg
    go_wp2_with (first
      | (go_at_call 35; refine (implEnd_any _ _ _ L _ _ _ HL.out (FL.rd (by assumption)) (by omega)).mono ?_; rintro e w2 ⟨rfl, hb2⟩; have fl := FL.next (by assumption) hb2; have cx := fl.fx.x; have cy := fl.fx.y)
      | (go_at_call 36; refine (specEnd_any _ _ _ L _ _ _ HL.out (FL.rd (by assumption)) (by omega)).mono ?_; rintro e w2 ⟨rfl, hb2⟩; have fl := FL.next (by assumption) hb2; have cx := fl.fx.x; have cy := fl.fx.y)
      | (go_at_call 18; refine (alive_any _).mono ?_; rintro e w2 ⟨rfl, hb2⟩; have fl := FL.next (by assumption) hb2))
    go_ret
    exact ⟨rfl, fl.fx.be⟩
  · obtain ⟨R, rfl, hx, hf⟩ := end_parts (by omega : 0 ≤ passEnd L r p)
    have hm8 := chargesOk_len hx
    go_wp2_with (first
      | (go_at_call 35; refine (implEnd_any _ _ _ L _ _ _ HL.out (FL.rd (by assumption)) (by omega)).mono ?_; rintro e w2 ⟨rfl, hb2⟩; have fl := FL.next (by assumption) hb2; have cx := fl.fx.x; have cy := fl.fx.y)
      | (go_at_call 36; refine (specEnd_any _ _ _ L _ _ _ HL.out (FL.rd (by assumption)) (by omega)).mono ?_; rintro e w2 ⟨rfl, hb2⟩; have fl := FL.next (by assumption) hb2; have cx := fl.fx.x; have cy := fl.fx.y))
    have FLH := Lib.hid fl
    have HX := Lib.hid hx
    have HF := Lib.hid hf
    clear cx cy fl hx hf fl0 hb2
    go_loopw [6] (fun i wr => ∃ k : Nat, k ≤ m ∧ i = .int .i64 k ∧ FL w wr w1.heap.size R p A4 L) (fun i _ => m - (intOf i).toNat)
    case atStart => exact ⟨0, Nat.zero_le _, rfl, FLH.out⟩
    case round =>
      obtain ⟨k, hk, rfl, fl⟩ := hrel
      by_cases hlt : k < m
      · obtain ⟨⟨x, y⟩, hxy⟩ : ∃ q, L[k]? = some q := ⟨_, List.getElem?_eq_getElem (by rw [HL.out]; omega)⟩
        obtain ⟨b, off, rfl, hbB, hc1, hc2⟩ := fl.rd k x y hxy
        obtain ⟨g1, g2, g3, g4⟩ := chargesOk_get HX.out hxy
        have each := passEnd_each HX.out HF.out hxy
        have FLr := Lib.hid fl
        clear hxy fl
        go_wp2_with (fail)
        go_quiet (fail)
        go_wp2
        go_roundw
        case rel => exact ⟨k + 1, by omega, by go_num, FLr.out.next (below_drawn (Below.refl _ _) _)⟩
        case measure => simp [intOf] <;> omega
      · obtain rfl : k = m := by omega
        have cx := fl.fx.x
        have cy := fl.fx.y
        by_cases hz : k = 0
        · subst hz
          have h0 : passEnd L R p = 0 := by
            have : L = [] := List.eq_nil_of_length_eq_zero HL.out
            subst this
            rw [passEnd_ok (by simp [HX.out, HF.out])]; rfl
          clear hneg
          go_wp2_with (fail)
          go_quiet (fail)
          go_wp2
          go_ret
          exact ⟨rfl, below_drawn fl.fx.be _⟩
        · obtain ⟨j, rfl⟩ : ∃ j, k = j + 1 := ⟨k - 1, by omega⟩
          have hless := passEnd_less HX.out HF.out (m := j) HL.out
          have FLr := Lib.hid fl
          have HT : Hid ((L.take j).length = j) := Lib.hid (by rw [List.length_take, HL.out]; exact Nat.min_eq_left (by omega))
          have W1 : IntKind.i64.wrap (j : Int) = j := IntWalk.i64_in _ (by omega)
          have B0 : ((j : Int) + 1 == 0) = false := by simp; omega
          have B1 : (0 : Int) < (j : Int) + 1 := by omega
          have B2 : (j : Int) ≤ c4 := by omega
          have B3 : (j : Int) ≤ (j : Int) + 1 := by omega
          clear fl hneg
          go_wp2_with (fail)
          refine region_class (fun w' => FL w w' w1.heap.size R p A4 L) (by kernel_rfl) (by kernel_rfl) (FLr.out.next (Below.refl _ _).drew) ?_
          repeat
            first
              | (refine qstep_skip (by rfl) ?_
                 simp only [Act.put, List.setIfInBounds_toArray, List.set_cons_zero, List.set_cons_succ])
              | (refine qstep_value (by rfl) ?_
                 apply Exists.intro
                 refine ⟨fun w' hw' => ?_, ?_⟩
                 · have hx := hw'.fx.x
                   have hy := hw'.fx.y
                   go_simp
                   try with_reducible rfl
                 simp only [Act.put, List.setIfInBounds_toArray, List.set_cons_zero, List.set_cons_succ])
              | (refine qstep_call (f := 35) (args := #[.slice A4 j c4, .agg #[.int .i64 R, .int .i64 p]]) (by rfl) (fun w' hw' => ?_) ?_
                 · go_simp
                 apply Exists.intro
                 refine ⟨fun w' hw' => ?_, ?_⟩
                 · refine (implEnd_any _ _ _ (L.take j) _ _ _ HT.out (rd_take hw'.rd _) (by omega)).mono ?_
                   rintro e w2 ⟨rfl, hb2⟩
                   exact ⟨rfl, hw'.next hb2⟩
                 simp only [Act.put, List.setIfInBounds_toArray, List.set_cons_zero, List.set_cons_succ])
          refine wpQuiet_nil ?_
          intro w9 flz
          go_wp2
          go_ret
          exact ⟨rfl, flz.fx.be⟩
end Go.Proofs.YtiddlpgpbafdmaaDoor
