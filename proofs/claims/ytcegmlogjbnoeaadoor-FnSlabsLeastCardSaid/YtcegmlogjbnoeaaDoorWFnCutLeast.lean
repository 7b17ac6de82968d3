/- The walk of the law FnCutLeast. -/
import Derived.Test.YtcegmlogjbnoeaaDoorDrawCut
import Derived.Test.YtcegmlogjbnoeaaDoorAlive
import Derived.Test.YtcegmlogjbnoeaaDoorCutLeast
import Derived.Test.YtcegmlogjbnoeaaDoorCutFn
namespace Go.Proofs.YtcegmlogjbnoeaaDoor
open Go.RowKit
set_option linter.unusedVariables false
theorem cutLeast_no {v : Int} {L : List Int} (h : (inB v 0 60 && lengthsOk L) = false) : cutLeast v L = -1 := by
  cases h1 : inB v 0 60
  · exact cutLeast_1 h1
  · rw [h1] at h; exact cutLeast_2 (by simpa using h)
theorem cutLeast_more {N l : Nat} {L : List Int} {k : Nat} (h : lengthsOk L = true) (hN : N + l ≤ 60) (hl : L[k]? = some (l : Int)) : ¬ cutLeast N L < cutLeast ((N : Int) + l) L := by
  have e1 := cutLeast_tb (N := N) (inB_true (by omega) (by omega)) h
  have e2 := cutLeast_tb (N := N + l) (inB_true (by omega) (by omega)) h
  have := tb_more h (n := N) hl
  rw [Int.natCast_add] at e2
  rw [e1, e2]; omega
theorem cutLeast_succ {N : Nat} {L : List Int} (h : lengthsOk L = true) (hN : N + 1 ≤ 60) : cutLeast ((N : Int) + 1) L ≤ cutLeast N L + 1 := by
  have e1 := cutLeast_tb (N := N) (inB_true (by omega) (by omega)) h
  have e2 := cutLeast_tb (N := N + 1) (inB_true (by omega) (by omega)) h
  have := tb_succ h N
  rw [Int.natCast_succ] at e2
  rw [e1, e2]; omega
set_option maxRecDepth 100000 in
set_option maxHeartbeats 4000000 in
theorem walkFnCutLeast (w : World) (A : Option Addr) (n c : Nat) (xs : List Int) (hl : xs.length = n) (rd : RdI .u8 w w.heap.size A xs) (hc : n ≤ c) (hx : ∀ x ∈ xs, 0 ≤ x ∧ x ≤ 255) :
    Calls Tryd.prog 8 #[.slice A n c] w fun e w' => e = .returned (.bool true) ∧ Below w.heap.size w w' := by
  by_cases hs0 : 1048576 < (n : Int)
  · go_enter Tryd.func8, Tryd.ntmps8
    go_wp2
    go_ret
    exact ⟨rfl, Below.refl _ _⟩
  have hn : n ≤ 1048576 := by omega
  go_enter Tryd.func8, Tryd.ntmps8
  go_wp2_with (fail)
  refine (drawCut_st hl hc rd hn hx).mono ?_
  rintro e w1 ⟨v, A4, m, c4, L, rfl, v0, v1, hL, hn9, hown, hb⟩
  clear rd hx hl hc
  have gi0 : GI w w1 A4 L := ⟨hb, RdI.of_own hown⟩
  have HL := Lib.hid hL
  clear hown hb hL
  cases hv : inB v 0 60 && lengthsOk L
  · have hneg := cutLeast_no hv
    clear hv
    go_wp2_with (first
      | (go_at_call 25; refine (implCutLeast_any _ _ _ _ L _ HL.out (GI.rd (by assumption)) (by omega)).mono ?_; rintro e w2 ⟨rfl, hb2⟩; have gi := GI.next (by assumption) hb2)
      | (go_at_call 36; refine (specCutLeast_any _ _ _ _ L _ HL.out (GI.rd (by assumption)) (by omega)).mono ?_; rintro e w2 ⟨rfl, hb2⟩; have gi := GI.next (by assumption) hb2)
      | (go_at_call 21; refine (alive_any _).mono ?_; rintro e w2 ⟨rfl, hb2⟩; have gi := GI.next (by assumption) hb2))
    go_ret
    exact ⟨rfl, gi.be⟩
  · simp only [Bool.and_eq_true] at hv
    obtain ⟨hv1, hv2⟩ := hv
    have hvb := inB_iff.1 hv1
    obtain ⟨N, rfl⟩ := Int.eq_ofNat_of_zero_le hvb.1
    have htb := cutLeast_tb hv1 hv2
    have h0 := tb_nonneg hv2 N
    have h1 := tb_le hv2 N
    have HV := Lib.hid hv2
    rw [← htb] at h0 h1
    have hnn : ¬ cutLeast N L < 0 := by omega
    have HT := Lib.hid htb
    clear htb hv1 hv2 v0 v1
    go_wp2_with (first
      | (go_at_call 25; refine (implCutLeast_any _ _ _ _ L _ HL.out (GI.rd (by assumption)) (by omega)).mono ?_; rintro e w2 ⟨rfl, hb2⟩; have gi := GI.next (by assumption) hb2)
      | (go_at_call 36; refine (specCutLeast_any _ _ _ _ L _ HL.out (GI.rd (by assumption)) (by omega)).mono ?_; rintro e w2 ⟨rfl, hb2⟩; have gi := GI.next (by assumption) hb2))
    have gi9 := Lib.hid gi
    clear gi gi0 hb2
    go_loopw [6] (fun i wr => ∃ k : Nat, k ≤ m ∧ i = .int .i64 k ∧ GI w wr A4 L) (fun i _ => m - (intOf i).toNat)
    case atStart => exact ⟨0, Nat.zero_le _, rfl, gi9.out⟩
    case round =>
      obtain ⟨k, hk, rfl, gi⟩ := hrel
      clear gi9
      by_cases hlt : k < m
      · obtain ⟨l, hxl⟩ : ∃ q, L[k]? = some q := ⟨_, List.getElem?_eq_getElem (by rw [HL.out]; omega)⟩
        obtain ⟨b, off, rfl, hbB, hc1⟩ := gi.rd k l hxl
        obtain ⟨l1, l2⟩ := lengthsOk_get HV.out hxl
        obtain ⟨l, rfl⟩ := Int.eq_ofNat_of_zero_le (show 0 ≤ l by omega)
        have W1 : IntKind.i64.wrap ((N : Int) + l) = N + l := IntWalk.i64_in _ (by omega)
        by_cases hle : (N : Int) + l ≤ 60
        · have hmore := cutLeast_more HV.out (N := N) (l := l) (by omega) hxl
          clear hxl
          go_wp2_with (go_at_call 25; refine (implCutLeast_any _ _ _ _ L _ HL.out (GI.rd (by assumption)) (by omega)).mono ?_; rintro e w2 ⟨rfl, hb2⟩; have gi2 := GI.next (by assumption) hb2)
          go_roundw
          case rel => exact ⟨k + 1, by omega, by go_num, gi2⟩
          case measure => simp [intOf] <;> omega
        · clear hxl
          go_wp2
          go_roundw
          case rel => exact ⟨k + 1, by omega, by go_num, gi⟩
          case measure => simp [intOf] <;> omega
      · obtain ⟨l, hxl⟩ : ∃ q, L[0]? = some q := ⟨_, List.getElem?_eq_getElem (by have := lengthsOk_len HV.out; omega)⟩
        obtain ⟨b, off, rfl, hbB, hc1⟩ := gi.rd 0 l hxl
        rw [Nat.add_zero] at hc1
        have hm1 := (lengthsOk_len HV.out).1
        rw [HL.out] at hm1
        have hm0 : (0 : Int) < m := by omega
        obtain ⟨l1, l2⟩ := lengthsOk_get HV.out hxl
        have hlt2 := tb_lt HV.out hxl N
        have hsh : (N : Int) < l → cutLeast N L = N := fun h => by rw [HT.out]; exact tb_short HV.out hxl h
        rw [← HT.out] at hlt2
        have W1 : IntKind.i64.wrap ((N : Int) + 1) = N + 1 := IntWalk.i64_in _ (by omega)
        have W2 : IntKind.i64.wrap (cutLeast N L + 1) = cutLeast N L + 1 := IntWalk.i64_in _ (by omega)
        have hl1 : ¬ l < 1 := by omega
        have HSH := Lib.hid hsh
        clear hsh hxl
        by_cases h60 : (N : Int) = 60
        · obtain rfl : N = 60 := by omega
          by_cases hge : l ≤ (60 : Int)
          · have h1' : cutLeast 60 L ≤ 60 := h1
            have hlt3 : cutLeast 60 L < l := hlt2
            clear h1 hlt2
            go_wp2
            go_ret
            exact ⟨rfl, gi.be⟩
          · omega
        · have hsucc := cutLeast_succ HV.out (N := N) (by omega)
          by_cases hge : l ≤ (N : Int)
          · go_wp2_with (go_at_call 25; refine (implCutLeast_any _ _ _ _ L _ HL.out (GI.rd (by assumption)) (by omega)).mono ?_; rintro e w2 ⟨rfl, hb2⟩; have gi2 := GI.next (by assumption) hb2; have hc3 := (hb2.cell (p := ⟨b, off, none⟩) (by exact hbB)).trans hc1)
            go_ret
            exact ⟨rfl, gi2.be⟩
          · have hsh := HSH.out (by omega)
            go_wp2_with (go_at_call 25; refine (implCutLeast_any _ _ _ _ L _ HL.out (GI.rd (by assumption)) (by omega)).mono ?_; rintro e w2 ⟨rfl, hb2⟩; have gi2 := GI.next (by assumption) hb2; have hc3 := (hb2.cell (p := ⟨b, off, none⟩) (by exact hbB)).trans hc1)
            go_ret
            exact ⟨rfl, gi2.be⟩
end Go.Proofs.YtcegmlogjbnoeaaDoor
