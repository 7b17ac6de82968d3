/- The walk of the law FnCutBest. -/
import Derived.Test.YtcegmlogjbnoeaaDoorWFnCutLeast
import Derived.Test.YtcegmlogjbnoeaaDoorBestWalk
import Derived.Test.YtcegmlogjbnoeaaDoorWaste
import Derived.Test.YtcegmlogjbnoeaaDoorSame
namespace Go.Proofs.YtcegmlogjbnoeaaDoor
open Go.RowKit
set_option linter.unusedVariables false
theorem ints_at' {E : TypeId} {L : List Int} {n : Nat} {w w' : World} {e : Ending} (h : IntsRow E L w e w') (hn : L.length = n) : ∃ A c, e = .returned (.slice A n c) ∧ w'.ownsRow w.heap.size E 1 (.slice A n c) n (intsV .i64 L) ∧ Below w.heap.size w w' := by
  subst hn; exact h
set_option maxRecDepth 100000 in
set_option maxHeartbeats 1000000 in
theorem walkFnCutBest (w : World) (A : Option Addr) (n c : Nat) (xs : List Int) (hl : xs.length = n) (rd : RdI .u8 w w.heap.size A xs) (hc : n ≤ c) (hx : ∀ x ∈ xs, 0 ≤ x ∧ x ≤ 255) :
    Calls Tryd.prog 12 #[.slice A n c] w fun e w' => e = .returned (.bool true) ∧ Below w.heap.size w w' := by
  by_cases hs0 : 1048576 < (n : Int)
  · go_enter Tryd.func12, Tryd.ntmps12
    go_wp2
    go_ret
    exact ⟨rfl, Below.refl _ _⟩
  have hn : n ≤ 1048576 := by omega
  go_enter Tryd.func12, Tryd.ntmps12
  go_wp2_with (fail)
  refine (drawCutBest_st hl hc rd hn hx).mono ?_
  rintro e w1 ⟨v, A4, m, c4, L, rfl, v0, v1, hL, hn9, hown, hb⟩
  clear rd hx hl hc
  have gi : GI w w1 A4 L := ⟨hb, RdI.of_own hown⟩
  have HL := Lib.hid hL
  clear hown hb hL
  have cI := fun A n c W h1 h2 h3 => implBest_any v A n c L W h1 h2 h3
  have cS := fun A n c W h1 h2 h3 => specBest_any v A n c L W h1 h2 h3
  have hlen := cutBest_len v L
  have hno : (inB v 0 60 && lengthsOk L) = false → cutBest v L = [] := fun h => by
    cases h1 : inB v 0 60
    · exact cutBest_1 h1
    · rw [h1] at h; exact cutBest_2 (by simpa using h)
  have hyes : inB v 0 60 = true → lengthsOk L = true → cutWaste v L (cutBest v L) = cutLeast v L := fun h1 h2 => cutBest_waste h1 h2
  generalize cutBest v L = M at cI cS hlen hno hyes
  obtain ⟨nM, hnM⟩ : ∃ k, M.length = k := ⟨_, rfl⟩
  rw [hnM] at hlen
  have HN := Lib.hid hnM
  have CI := Lib.hid cI
  have CS := Lib.hid cS
  clear cI cS hnM
  cases hv : inB v 0 60 && lengthsOk L
  · have hneg := cutLeast_no hv
    have hM := hno hv
    have hz : nM = 0 := by rw [← HN.out, hM]; rfl
    subst hz
    clear hv hno hyes hM
    go_wp2_with (first
      | (go_at_call 49; refine (CI.out _ _ _ _ HL.out gi.rd (by omega)).mono ?_; intro e w2 hrow; obtain ⟨A5, c5, rfl, own5, hb2⟩ := ints_at' hrow HN.out; have gi := gi.next hb2; have gm : GI w w2 A5 M := ⟨gi.be, RdI.of_own own5⟩)
      | (go_at_call 51; refine (CS.out _ _ _ _ HL.out gi.rd (by omega)).mono ?_; intro e w2 hrow; obtain ⟨A6, c6, rfl, own6, hb2⟩ := ints_at' hrow HN.out; have gi := gi.next hb2; have gm := gm.next hb2; have gs : GI w w2 A6 M := ⟨gi.be, RdI.of_own own6⟩)
      | (go_at_call 50; refine (sameInts_same _ _ _ _ _ M _ HN.out gm.rd gs.rd (by omega)).mono ?_; rintro e w2 ⟨rfl, hb2⟩; have gi := gi.next hb2; have gm := gm.next hb2)
      | (go_at_call 25; refine (implCutLeast_any _ _ _ _ L _ HL.out gi.rd (by omega)).mono ?_; rintro e w2 ⟨rfl, hb2⟩; have gi := gi.next hb2)
      | (go_at_call 21; refine (alive_any _).mono ?_; rintro e w2 ⟨rfl, hb2⟩; have gi := gi.next hb2))
    go_ret
    exact ⟨rfl, gi.be⟩
  · simp only [Bool.and_eq_true] at hv
    obtain ⟨hv1, hv2⟩ := hv
    have hvb := inB_iff.1 hv1
    have hw := hyes hv1 hv2
    have h0 : ¬ cutLeast v L < 0 := by
      obtain ⟨N, rfl⟩ := Int.eq_ofNat_of_zero_le hvb.1
      have := tb_nonneg hv2 N
      rw [cutLeast_tb hv1 hv2]; omega
    clear hno hyes hv1 hv2 v0 v1
    go_wp2_with (first
      | (go_at_call 49; refine (CI.out _ _ _ _ HL.out gi.rd (by omega)).mono ?_; intro e w2 hrow; obtain ⟨A5, c5, rfl, own5, hb2⟩ := ints_at' hrow HN.out; have gi := gi.next hb2; have gm : GI w w2 A5 M := ⟨gi.be, RdI.of_own own5⟩)
      | (go_at_call 51; refine (CS.out _ _ _ _ HL.out gi.rd (by omega)).mono ?_; intro e w2 hrow; obtain ⟨A6, c6, rfl, own6, hb2⟩ := ints_at' hrow HN.out; have gi := gi.next hb2; have gm := gm.next hb2; have gs : GI w w2 A6 M := ⟨gi.be, RdI.of_own own6⟩)
      | (go_at_call 50; refine (sameInts_same _ _ _ _ _ M _ HN.out gm.rd gs.rd (by omega)).mono ?_; rintro e w2 ⟨rfl, hb2⟩; have gi := gi.next hb2; have gm := gm.next hb2)
      | (go_at_call 25; refine (implCutLeast_any _ _ _ _ L _ HL.out gi.rd (by omega)).mono ?_; rintro e w2 ⟨rfl, hb2⟩; have gi := gi.next hb2; have gm := gm.next hb2)
      | (go_at_call 42; refine (implWaste_any _ _ _ _ L _ _ _ M _ HL.out gi.rd (by omega) HN.out gm.rd (by omega)).mono ?_; rintro e w9 ⟨rfl, rfl⟩))
    go_ret
    exact ⟨rfl, gi.be⟩
end Go.Proofs.YtcegmlogjbnoeaaDoor
