/- The walk of the law FnPassTimes (written by genlaws.py). -/
import Derived.Test.YtiddlpgpbafdmaaDoorWFnPassEnd
import Derived.Test.YtiddlpgpbafdmaaDoorPassWalk
import Derived.Test.YtiddlpgpbafdmaaDoorPassSpec
import Derived.Test.YtiddlpgpbafdmaaDoorOkAny
import Derived.Test.YtiddlpgpbafdmaaDoorSame
import Derived.Test.YtiddlpgpbafdmaaDoorFurnFn
namespace Go.Proofs.YtiddlpgpbafdmaaDoor
open Go.RowKit
set_option linter.unusedVariables false
def GP2 (wk : World) (A : Option Addr) (L : List (Int × Int)) : Prop := RdP wk wk.heap.size A L
theorem GP2.next {wk w' : World} {A : Option Addr} {L : List (Int × Int)} (h : GP2 wk A L) (hb : Below wk.heap.size wk w') : GP2 w' A L := RdP.up h hb hb.size
theorem times_wide' {L : List (Int × Int)} {R : Nat} {p : Int} (hx : chargesOk L = true) (hf : furnOk R p = true) : ∀ (k : Nat) (i o a b : Int), (timesOf L ((R : Int) + 1) p)[k]? = some (i, o) → (timesOf L R p)[k]? = some (a, b) → i ≤ a ∧ o ≤ b := by
  intro k i o a b h1 h2
  rw [timesOf_ok (by simp [hx, hf])] at h2
  cases hv : chargesOk L && furnOk ((R : Int) + 1) p
  · rw [timesOf_no hv] at h1; simp at h1
  · have e : ((R : Int) + 1) = ((R + 1 : Nat) : Int) := by omega
    rw [e] at h1 hv
    rw [timesOf_ok hv] at h1
    exact times_wide hx hf k i o a b h1 h2
set_option maxRecDepth 100000 in
set_option maxHeartbeats 1000000 in
theorem walkFnPassTimes (w : World) (A : Option Addr) (n c : Nat) (xs : List Int) (hl : xs.length = n) (rd : RdI .u8 w w.heap.size A xs) (hc : n ≤ c) (hx : ∀ x ∈ xs, 0 ≤ x ∧ x ≤ 255) :
    Calls Tryd.prog 10 #[.slice A n c] w fun e w' => e = .returned (.bool true) ∧ Below w.heap.size w w' := by
  by_cases hs0 : 1048576 < (n : Int)
  · go_enter Tryd.func10, Tryd.ntmps10
    go_wp2
    go_ret
    exact ⟨rfl, Below.refl _ _⟩
  have hn : n ≤ 1048576 := by omega
  go_enter Tryd.func10, Tryd.ntmps10
  go_wp2_with (fail)
  refine (drawTimes_st hl hc rd hn hx).mono ?_
  rintro e w1 ⟨A4, m, c4, L, r, p, rfl, hL, hn9, hown, hb⟩
  clear rd hx hl hc
  have hs1 := hb.size
  have hrd := RdP.of_own hown
  have HL := Lib.hid hL
  have bw : Below w1.heap.size w1 (w1.alloc (.cells #[.int .i64 r, .int .i64 p] 24)) := (Below.refl _ w1).alloc (Nat.le_refl _) _
  have fl : FL w (w1.alloc (.cells #[.int .i64 r, .int .i64 p] 24)) w1.heap.size r p A4 L := ⟨⟨hb.alloc hs1 _, by simp, by go_simp, by go_simp⟩, hrd.up bw bw.size⟩
  clear bw hrd hown hb hL
  have cI := fun A n c W h1 h2 h3 => implTimes_any A n c L r p W h1 h2 h3
  have cS := fun A n c W h1 h2 h3 => specTimes_any A n c L r p W h1 h2 h3
  obtain ⟨q, hq⟩ : ∃ q, q = r + 1 := ⟨_, rfl⟩
  have cW := fun A n c W h1 h2 h3 => implTimes_any A n c L q p W h1 h2 h3
  have hlen := timesOf_len L r p
  have hlen2 := timesOf_len L q p
  have hno : (chargesOk L && furnOk r p) = false → timesOf L r p = [] := fun h => timesOf_no h
  have hyes : chargesOk L = true → furnOk r p = true → passesOk L r p (timesOf L r p) = true ∧ ∀ (k : Nat) (i o a b : Int), (timesOf L q p)[k]? = some (i, o) → (timesOf L r p)[k]? = some (a, b) → i ≤ a ∧ o ≤ b := fun h1 h2 => by
    have hr := (furnOk_iff.1 h2).1
    subst hq
    obtain ⟨R, rfl⟩ := Int.eq_ofNat_of_zero_le (show 0 ≤ r by omega)
    exact ⟨by rw [timesOf_ok (by simp [h1, h2])]; exact times_ok h1 h2, times_wide' h1 h2⟩
  generalize timesOf L r p = M at cI cS hlen hno hyes
  generalize timesOf L q p = N at cW hlen2 hyes
  obtain ⟨nM, hnM⟩ : ∃ k, M.length = k := ⟨_, rfl⟩
  obtain ⟨nN, hnN⟩ : ∃ k, N.length = k := ⟨_, rfl⟩
  rw [hnM] at hlen
  rw [hnN] at hlen2
  have HM := Lib.hid hnM
  have HN := Lib.hid hnN
  have CI := Lib.hid cI
  have CS := Lib.hid cS
  have CW := Lib.hid cW
  clear cI cS cW hnM hnN
  have cx := fl.fx.x
  have cy := fl.fx.y
  cases hv1 : chargesOk L
  · have hM := hno (by rw [hv1]; rfl)
    have hz : nM = 0 := by rw [← HM.out, hM]; rfl
    subst hz
    clear hno hyes hM
    go_wp2_with (first
      | (go_at_call 38; refine (CI.out _ _ _ _ HL.out fl.rd (by omega)).mono ?_; intro e w2 hrow; obtain ⟨A6, c6, rfl, own6, hb2⟩ := hrow.at_ HM.out; have fl := fl.next hb2; have cx := fl.fx.x; have cy := fl.fx.y; have gm : GP2 w2 A6 M := RdP.of_own own6)
      | (go_at_call 40; refine (CS.out _ _ _ _ HL.out fl.rd (by omega)).mono ?_; intro e w2 hrow; obtain ⟨A7, c7, rfl, own7, hb2⟩ := hrow.at_ HM.out; have fl := fl.next hb2; have cx := fl.fx.x; have cy := fl.fx.y; have gm := gm.next hb2; have gs : GP2 w2 A7 M := RdP.of_own own7)
      | (go_at_call 39; refine (samePasses_same _ _ _ _ _ M _ HM.out gm gs (by omega)).mono ?_; rintro e w2 ⟨rfl, hb2⟩; have fl := fl.next hb2; have cx := fl.fx.x; have cy := fl.fx.y; have gm := gm.next hb2)
      | (go_at_call 27; refine (specCharges_any _ _ _ L _ HL.out fl.rd (by omega)).mono ?_; rintro e w9 ⟨rfl, rfl⟩)
      | (go_at_call 18; refine (alive_any _).mono ?_; rintro e w2 ⟨rfl, hb2⟩; have fl := fl.next hb2))
    go_ret
    exact ⟨rfl, fl.fx.be⟩
  cases hv2 : furnOk r p
  · have hM := hno (by rw [hv1, hv2]; rfl)
    have hz : nM = 0 := by rw [← HM.out, hM]; rfl
    subst hz
    clear hno hyes hM
    go_wp2_with (first
      | (go_at_call 38; refine (CI.out _ _ _ _ HL.out fl.rd (by omega)).mono ?_; intro e w2 hrow; obtain ⟨A6, c6, rfl, own6, hb2⟩ := hrow.at_ HM.out; have fl := fl.next hb2; have cx := fl.fx.x; have cy := fl.fx.y; have gm : GP2 w2 A6 M := RdP.of_own own6)
      | (go_at_call 40; refine (CS.out _ _ _ _ HL.out fl.rd (by omega)).mono ?_; intro e w2 hrow; obtain ⟨A7, c7, rfl, own7, hb2⟩ := hrow.at_ HM.out; have fl := fl.next hb2; have cx := fl.fx.x; have cy := fl.fx.y; have gm := gm.next hb2; have gs : GP2 w2 A7 M := RdP.of_own own7)
      | (go_at_call 39; refine (samePasses_same _ _ _ _ _ M _ HM.out gm gs (by omega)).mono ?_; rintro e w2 ⟨rfl, hb2⟩; have fl := fl.next hb2; have cx := fl.fx.x; have cy := fl.fx.y; have gm := gm.next hb2)
      | (go_at_call 27; refine (specCharges_any _ _ _ L _ HL.out fl.rd (by omega)).mono ?_; rintro e w9 ⟨rfl, rfl⟩)
      | (go_at_call 17; refine (specFurn_any _ _ _).mono ?_; rintro e w2 ⟨rfl, hb2⟩; have fl := fl.next hb2; have cx := fl.fx.x; have cy := fl.fx.y; have gm := gm.next hb2)
      | (go_at_call 18; refine (alive_any _).mono ?_; rintro e w2 ⟨rfl, hb2⟩; have fl := fl.next hb2))
    go_ret
    exact ⟨rfl, fl.fx.be⟩
  · obtain ⟨hok, hw⟩ := hyes hv1 hv2
    have hr := furnOk_iff.1 hv2
    have HW := Lib.hid hw
    have W0 : IntKind.i64.wrap (r + 1) = q := by rw [hq]; exact IntWalk.i64_in _ (by omega)
    clear hq
    clear hno hyes hw
    go_wp2_with (first
      | (go_at_call_of 38 q; refine (CW.out _ _ _ _ HL.out fl.rd (by omega)).mono ?_; intro e w2 hrow; obtain ⟨A8, c8, rfl, own8, hb2⟩ := hrow.at_ HN.out; have fl := fl.next hb2; have cx := fl.fx.x; have cy := fl.fx.y; have gm := gm.next hb2; have gn : GP2 w2 A8 N := RdP.of_own own8)
      | (go_at_call 38; refine (CI.out _ _ _ _ HL.out fl.rd (by omega)).mono ?_; intro e w2 hrow; obtain ⟨A6, c6, rfl, own6, hb2⟩ := hrow.at_ HM.out; have fl := fl.next hb2; have cx := fl.fx.x; have cy := fl.fx.y; have gm : GP2 w2 A6 M := RdP.of_own own6)
      | (go_at_call 40; refine (CS.out _ _ _ _ HL.out fl.rd (by omega)).mono ?_; intro e w2 hrow; obtain ⟨A7, c7, rfl, own7, hb2⟩ := hrow.at_ HM.out; have fl := fl.next hb2; have cx := fl.fx.x; have cy := fl.fx.y; have gm := gm.next hb2; have gs : GP2 w2 A7 M := RdP.of_own own7)
      | (go_at_call 39; refine (samePasses_same _ _ _ _ _ M _ HM.out gm gs (by omega)).mono ?_; rintro e w2 ⟨rfl, hb2⟩; have fl := fl.next hb2; have cx := fl.fx.x; have cy := fl.fx.y; have gm := gm.next hb2)
      | (go_at_call 27; refine (specCharges_any _ _ _ L _ HL.out fl.rd (by omega)).mono ?_; rintro e w9 ⟨rfl, rfl⟩)
      | (go_at_call 17; refine (specFurn_any _ _ _).mono ?_; rintro e w2 ⟨rfl, hb2⟩; have fl := fl.next hb2; have cx := fl.fx.x; have cy := fl.fx.y; have gm := gm.next hb2))
    have FLH := Lib.hid fl
    have GMH := Lib.hid gm
    have GNH := Lib.hid gn
    clear fl gm gs gn hb2 cx cy
    go_loopw [7] (fun i wr => ∃ k : Nat, i = .int .i64 k ∧ k ≤ nN ∧ FL w wr w1.heap.size r p A4 L ∧ GP2 wr A6 M ∧ GP2 wr A8 N) (fun i _ => nN - (intOf i).toNat)
    case atStart => exact ⟨0, rfl, Nat.zero_le _, FLH.out, GMH.out, GNH.out⟩
    case round =>
      obtain ⟨k, rfl, hk, fl, gm, gn⟩ := hrel
      clear FLH GMH GNH
      have FL1 := Lib.hid fl
      have GM1 := Lib.hid gm
      have GN1 := Lib.hid gn
      have cx := fl.fx.x
      have cy := fl.fx.y
      by_cases hlt : k < nN
      · by_cases hlt2 : k < nM
        · obtain ⟨⟨x, y⟩, hxy⟩ : ∃ q, N[k]? = some q := ⟨_, List.getElem?_eq_getElem (by rw [HN.out]; omega)⟩
          obtain ⟨⟨a, b⟩, hab⟩ : ∃ q, M[k]? = some q := ⟨_, List.getElem?_eq_getElem (by rw [HM.out]; omega)⟩
          obtain ⟨b1, off1, e1, hbB1, hc1, hc2⟩ := gn k x y hxy
          obtain ⟨b2, off2, e2, hbB2, hd1, hd2⟩ := gm k a b hab
          obtain ⟨l1, l2⟩ := HW.out k x y a b hxy hab
          subst e1
          subst e2
          have D1 : decide (a < x) = false := decide_eq_false (by omega)
          have D2 : decide (b < y) = false := decide_eq_false (by omega)
          clear fl gm gn hxy hab cx cy
          go_wp2_with (fail)
          go_quiet (fail)
          go_wp2
          go_roundw
          case rel => exact ⟨k + 1, by go_num, by omega, FL1.out.next (below_drawn (Below.refl _ _) _), GM1.out.next (below_drawn (Below.refl _ _) _), GN1.out.next (below_drawn (Below.refl _ _) _)⟩
          case measure => simp [intOf] <;> omega
        · clear gm gn
          go_wp2_with (go_at_call 41; refine (implOk_any _ _ _ L r p _ _ _ M _ HL.out fl.rd (by omega) HM.out GM1.out (by omega)).mono ?_; rintro e w2 ⟨rfl, hb2⟩; have fl := fl.next hb2)
          go_ret
          exact ⟨rfl, fl.fx.be⟩
      · clear gm gn
        go_wp2_with (go_at_call 41; refine (implOk_any _ _ _ L r p _ _ _ M _ HL.out fl.rd (by omega) HM.out GM1.out (by omega)).mono ?_; rintro e w2 ⟨rfl, hb2⟩; have fl := fl.next hb2)
        go_ret
        exact ⟨rfl, fl.fx.be⟩
end Go.Proofs.YtiddlpgpbafdmaaDoor
