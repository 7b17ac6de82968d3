/- The walk of the law FnPassInside (written by genlaws.py). -/
import Derived.Test.YtiddlpgpbafdmaaDoorDrawPi
import Derived.Test.YtiddlpgpbafdmaaDoorFL2
import Derived.Test.YtiddlpgpbafdmaaDoorOver
import Derived.Test.YtiddlpgpbafdmaaDoorFurnFn2
import Derived.Test.YtiddlpgpbafdmaaDoorAlive
import Derived.Test.YtiddlpgpbafdmaaDoorQuietC
namespace Go.Proofs.YtiddlpgpbafdmaaDoor
open Go.RowKit
set_option linter.unusedVariables false
set_option maxRecDepth 100000 in
set_option maxHeartbeats 1000000 in
theorem walkFnPassInside (w : World) (A : Option Addr) (n c : Nat) (xs : List Int) (hl : xs.length = n) (rd : RdI .u8 w w.heap.size A xs) (hc : n ≤ c) (hx : ∀ x ∈ xs, 0 ≤ x ∧ x ≤ 255) :
    Calls Tryd.prog 14 #[.slice A n c] w fun e w' => e = .returned (.bool true) ∧ Below w.heap.size w w' := by
  by_cases hs0 : 1048576 < (n : Int)
  · go_enter Tryd.func14, Tryd.ntmps14
    go_wp2
    go_ret
    exact ⟨rfl, Below.refl _ _⟩
  have hn : n ≤ 1048576 := by omega
  go_enter Tryd.func14, Tryd.ntmps14
  go_wp2_with (fail)
  refine (dDrawPassInside_st hl hc rd hn hx).mono ?_
  rintro e w1 ⟨⟨A4, m, c4, L, r, p, A5, m5, c5, M, t, rfl, hL, hn9, hM, hn5, o1, o2⟩, hb⟩
  clear rd hx hl hc
  have hs1 := hb.size
  have hrd := RdP.of_own o1
  have HL := Lib.hid hL
  have HM := Lib.hid hM
  have bw : Below w1.heap.size w1 (w1.alloc (.cells #[.int .i64 r, .int .i64 p] 24)) := (Below.refl _ w1).alloc (Nat.le_refl _) _
  have fl : FL w (w1.alloc (.cells #[.int .i64 r, .int .i64 p] 24)) w1.heap.size r p A4 L := ⟨⟨hb.alloc hs1 _, by simp, by go_simp, by go_simp⟩, hrd.up bw bw.size⟩
  have gm : PO w (w1.alloc (.cells #[.int .i64 r, .int .i64 p] 24)) 47 (.slice A5 m5 c5) m5 M := ⟨hb.alloc hs1 _, o2.alloc _⟩
  clear bw hrd o1 o2 hb hL hM
  have cx := fl.fx.x
  have cy := fl.fx.y
  cases hok : passesOk L r p M
  · have hz := passInside_no (t := t) hok
    go_wp2_with (first
      | (go_at_call 52; refine (implInside_any _ _ _ L r p _ _ _ M t _ HL.out fl.rd (by omega) HM.out gm.rd (by omega)).mono ?_; rintro e w2 ⟨rfl, hb2⟩; have fl := fl.next hb2; have gm := gm.next hb2; have cx := fl.fx.x; have cy := fl.fx.y)
      | (go_at_call 53; refine (specInside_any _ _ _ L r p _ _ _ M t _ HL.out fl.rd (by omega) HM.out gm.rd (by omega)).mono ?_; rintro e w2 ⟨rfl, hb2⟩; have fl := fl.next hb2; have gm := gm.next hb2; have cx := fl.fx.x; have cy := fl.fx.y)
      | (go_at_call 43; refine (specOk_any _ _ _ L r p _ _ _ M _ HL.out fl.rd (by omega) HM.out gm.rd (by omega)).mono ?_; rintro e w2 ⟨rfl, hb2⟩; have fl := fl.next hb2; have gm := gm.next hb2; have cx := fl.fx.x; have cy := fl.fx.y)
      | (go_at_call 18; refine (alive_any _).mono ?_; rintro e w2 ⟨rfl, hb2⟩; have fl := fl.next hb2))
    go_ret
    exact ⟨rfl, fl.fx.be⟩
  · have HI : Hid (∀ t : Int, 0 ≤ passInside L r p M t ∧ passInside L r p M t ≤ r) := Lib.hid (fun t => by rw [passInside_ok hok]; exact inside_le hok)
    obtain ⟨hi0, hi1⟩ := HI.out t
    go_wp2_with (first
      | (go_at_call 52; refine (implInside_any _ _ _ L r p _ _ _ M t _ HL.out fl.rd (by omega) HM.out gm.rd (by omega)).mono ?_; rintro e w2 ⟨rfl, hb2⟩; have fl := fl.next hb2; have gm := gm.next hb2; have cx := fl.fx.x; have cy := fl.fx.y)
      | (go_at_call 53; refine (specInside_any _ _ _ L r p _ _ _ M t _ HL.out fl.rd (by omega) HM.out gm.rd (by omega)).mono ?_; rintro e w2 ⟨rfl, hb2⟩; have fl := fl.next hb2; have gm := gm.next hb2; have cx := fl.fx.x; have cy := fl.fx.y)
      | (go_at_call 43; refine (specOk_any _ _ _ L r p _ _ _ M _ HL.out fl.rd (by omega) HM.out gm.rd (by omega)).mono ?_; rintro e w2 ⟨rfl, hb2⟩; have fl := fl.next hb2; have gm := gm.next hb2; have cx := fl.fx.x; have cy := fl.fx.y))
    have FLH := Lib.hid fl
    have GMH := Lib.hid gm
    clear fl gm hb2 cx cy
    go_loopw [8] (fun i wr => ∃ k : Nat, k ≤ m5 ∧ i = .int .i64 k ∧ FL w wr w1.heap.size r p A4 L ∧ PO w wr 47 (.slice A5 m5 c5) m5 M) (fun i _ => m5 - (intOf i).toNat)
    case atStart => exact ⟨0, Nat.zero_le _, rfl, FLH.out, GMH.out⟩
    case round =>
      obtain ⟨k, hk, rfl, fl, gm⟩ := hrel
      clear FLH GMH
      by_cases hlt : k < m5
      · obtain ⟨g, cc, hform, -, -⟩ := own_form gm.own (by omega)
        injection hform with hA _ hC
        subst hA
        clear hC
        obtain ⟨⟨x, y⟩, hxy⟩ : ∃ q, M[k]? = some q := ⟨_, List.getElem?_eq_getElem (by rw [HM.out]; omega)⟩
        have HXY := Lib.hid hxy
        have hdec : decide (r < passInside L r p M x) = false := decide_eq_false (by have := (HI.out x).2; omega)
        have B5 : k < m5 := hlt
        clear hxy
        go_wp2_with (fail)
        refine region_class (fun w' => FL w w' w1.heap.size r p A4 L ∧ PO w w' 47 (.slice (some ⟨g, 0, none⟩) m5 c5) m5 M) (by kernel_rfl) (by kernel_rfl) ⟨fl.next (Below.refl _ _).drew, gm.next (Below.refl _ _).drew⟩ ?_
        repeat
          first
            | (refine qstep_skip (by rfl) ?_
               simp only [Act.put, List.setIfInBounds_toArray, List.set_cons_zero, List.set_cons_succ])
            | (refine qstep_value (by rfl) ?_
               apply Exists.intro
               refine ⟨fun w' hw' => ?_, ?_⟩
               · have hx := hw'.1.fx.x
                 have hy := hw'.1.fx.y
                 have hc := (own_pair hw'.2.own HXY.out).1
                 go_simp
                 try with_reducible rfl
               simp only [Act.put, List.setIfInBounds_toArray, List.set_cons_zero, List.set_cons_succ])
            | (refine qstep_call (f := 52) (args := #[.slice A4 m c4, .agg #[.int .i64 r, .int .i64 p], .slice (some ⟨g, 0, none⟩) m5 c5, .int .i64 x]) (by rfl) (fun w' hw' => ?_) ?_
               · go_simp
               apply Exists.intro
               refine ⟨fun w' hw' => ?_, ?_⟩
               · refine (implInside_any _ _ _ L r p _ _ _ M x _ HL.out hw'.1.rd (by omega) HM.out hw'.2.rd (by omega)).mono ?_
                 rintro e w2 ⟨rfl, hb2⟩
                 exact ⟨rfl, hw'.1.next hb2, hw'.2.next hb2⟩
               simp only [Act.put, List.setIfInBounds_toArray, List.set_cons_zero, List.set_cons_succ])
        refine wpQuiet_nil ?_
        rintro w9 ⟨fl9, gm9⟩
        clear fl gm
        go_wp2
        go_roundw
        case rel => exact ⟨k + 1, by omega, by go_num, fl9, gm9⟩
        case measure => simp [intOf] <;> omega
      · have cx := fl.fx.x
        have cy := fl.fx.y
        go_wp2
        go_ret
        exact ⟨rfl, fl.fx.be⟩
end Go.Proofs.YtiddlpgpbafdmaaDoor
