/- The walk of the law FnSlabsBest (written by genlaws.py). -/
import Derived.Test.YtcegmlogjbnoeaaDoorDrawBW
import Derived.Test.YtcegmlogjbnoeaaDoorRows2
import Derived.Test.YtcegmlogjbnoeaaDoorAlive
import Derived.Test.YtcegmlogjbnoeaaDoorSlabBest
import Derived.Test.YtcegmlogjbnoeaaDoorSlabWaste
import Derived.Test.YtcegmlogjbnoeaaDoorSlabFn2
import Derived.Test.YtcegmlogjbnoeaaDoorSame
import Derived.Test.YtcegmlogjbnoeaaDoorWFnCutLeast
namespace Go.Proofs.YtcegmlogjbnoeaaDoor
open Go.RowKit
set_option linter.unusedVariables false
set_option maxRecDepth 100000 in
set_option maxHeartbeats 1000000 in
theorem walkFnSlabsBest (w : World) (A : Option Addr) (n c : Nat) (xs : List Int) (hl : xs.length = n) (rd : RdI .u8 w w.heap.size A xs) (hc : n ≤ c) (hx : ∀ x ∈ xs, 0 ≤ x ∧ x ≤ 255) :
    Calls Tryd.prog 16 #[.slice A n c] w fun e w' => e = .returned (.bool true) ∧ Below w.heap.size w w' := by
  by_cases hs0 : 1048576 < (n : Int)
  · go_enter Tryd.func16, Tryd.ntmps16
    go_wp2
    go_ret
    exact ⟨rfl, Below.refl _ _⟩
  have hn : n ≤ 1048576 := by omega
  go_enter Tryd.func16, Tryd.ntmps16
  go_wp2_with (fail)
  refine (drawSlabsBest_st hl hc rd hn hx).mono ?_
  rintro e w1 ⟨A4, m, c4, L, v, A5, m5, c5, ls, rfl, hL, hn9, v0, v1, hls, hn5, o1, o2, hb⟩
  clear rd hx hl hc
  have gp : GP w w1 A4 L := ⟨hb, RdP.of_own o1⟩
  have gi : GI w w1 A5 ls := ⟨hb, RdI.of_own o2⟩
  have HL := Lib.hid hL
  have HS := Lib.hid hls
  clear o1 o2 hb hL hls
  have cI := fun A n c A2 n2 c2 W h1 h2 h3 h4 h5 h6 => implSBest_any v A n c L A2 n2 c2 ls W h1 h2 h3 h4 h5 h6
  have cS := fun A n c A2 n2 c2 W h1 h2 h3 h4 h5 h6 => specSBest_any v A n c L A2 n2 c2 ls W h1 h2 h3 h4 h5 h6
  have cN := fun A2 n2 c2 W h4 h5 h6 => implSBest_any v none 0 0 [] A2 n2 c2 ls W rfl RdP.nil (by omega) h4 h5 h6
  have hlen : (slabsBest v L ls).length ≤ 1000 := (by have := slabsBest_len v L ls; omega)
  have hlen2 : (slabsBest v [] ls).length ≤ 1000 := (by have := slabsBest_len v [] ls; omega)
  have hno1 : badOk v L = false → slabsBest v L ls = [] := fun h => slabsBest_1 h
  have hno2 : lengthsOk ls = false → slabsBest v L ls = [] := fun h => slabsBest_2 h
  have hyes : badOk v L = true → lengthsOk ls = true → slabsOk v L ls (slabsBest v L ls) = true := fun h1 h2 => (best_facts2 h1 h2).1
  have hyes2 : badOk v L = true → lengthsOk ls = true → slabsWaste v [] ls (slabsBest v [] ls) = cutLeast v ls := fun h1 h2 => slabsBest_nil (inB_true (badOk_long h1).1 (badOk_long h1).2) h2
  generalize slabsBest v L ls = M at cI cS hlen hno1 hno2 hyes
  generalize slabsBest v [] ls = M0 at cN hlen2 hyes2
  obtain ⟨nM, hnM⟩ : ∃ k, M.length = k := ⟨_, rfl⟩
  obtain ⟨nN, hnN⟩ : ∃ k, M0.length = k := ⟨_, rfl⟩
  rw [hnM] at hlen
  rw [hnN] at hlen2
  have HM := Lib.hid hnM
  have HN := Lib.hid hnN
  have CI := Lib.hid cI
  have CS := Lib.hid cS
  have CN := Lib.hid cN
  clear cI cS cN hnM hnN
  cases hv1 : badOk v L
  · have hM := hno1 hv1
    have hz : nM = 0 := by rw [← HM.out, hM]; rfl
    subst hz
    clear hno1 hno2 hyes hyes2 hM
    go_wp2_with (first
      | (go_at_call 62; refine (CI.out _ _ _ _ _ _ _ HL.out gp.rd (by omega) HS.out gi.rd (by omega)).mono ?_; intro e w2 hrow; obtain ⟨A6, c6, rfl, own6, hb2⟩ := pairs_at' hrow HM.out; have gp := gp.next hb2; have gi := gi.next hb2; have gm : GP w w2 A6 M := ⟨gi.be, RdP.of_own own6⟩)
      | (go_at_call 64; refine (CS.out _ _ _ _ _ _ _ HL.out gp.rd (by omega) HS.out gi.rd (by omega)).mono ?_; intro e w2 hrow; obtain ⟨A7, c7, rfl, own7, hb2⟩ := pairs_at' hrow HM.out; have gp := gp.next hb2; have gi := gi.next hb2; have gm := gm.next hb2; have gs : GP w w2 A7 M := ⟨gi.be, RdP.of_own own7⟩)
      | (go_at_call 63; refine (sameSlabs_same _ _ _ _ _ M _ HM.out gm.rd gs.rd (by omega)).mono ?_; rintro e w2 ⟨rfl, hb2⟩; have gp := gp.next hb2; have gi := gi.next hb2; have gm := gm.next hb2)
      | (go_at_call 31; refine (specBad_any _ _ _ _ L _ HL.out gp.rd (by omega)).mono ?_; rintro e w2 ⟨rfl, hb2⟩; have gp := gp.next hb2; have gi := gi.next hb2; have gm := gm.next hb2)
      | (go_at_call 21; refine (alive_any _).mono ?_; rintro e w2 ⟨rfl, hb2⟩; have gi := gi.next hb2))
    go_ret
    exact ⟨rfl, gi.be⟩
  cases hv2 : lengthsOk ls
  · have hM := hno2 hv2
    have hz : nM = 0 := by rw [← HM.out, hM]; rfl
    subst hz
    clear hno1 hno2 hyes hyes2 hM
    go_wp2_with (first
      | (go_at_call 62; refine (CI.out _ _ _ _ _ _ _ HL.out gp.rd (by omega) HS.out gi.rd (by omega)).mono ?_; intro e w2 hrow; obtain ⟨A6, c6, rfl, own6, hb2⟩ := pairs_at' hrow HM.out; have gp := gp.next hb2; have gi := gi.next hb2; have gm : GP w w2 A6 M := ⟨gi.be, RdP.of_own own6⟩)
      | (go_at_call 64; refine (CS.out _ _ _ _ _ _ _ HL.out gp.rd (by omega) HS.out gi.rd (by omega)).mono ?_; intro e w2 hrow; obtain ⟨A7, c7, rfl, own7, hb2⟩ := pairs_at' hrow HM.out; have gp := gp.next hb2; have gi := gi.next hb2; have gm := gm.next hb2; have gs : GP w w2 A7 M := ⟨gi.be, RdP.of_own own7⟩)
      | (go_at_call 63; refine (sameSlabs_same _ _ _ _ _ M _ HM.out gm.rd gs.rd (by omega)).mono ?_; rintro e w2 ⟨rfl, hb2⟩; have gp := gp.next hb2; have gi := gi.next hb2; have gm := gm.next hb2)
      | (go_at_call 31; refine (specBad_any _ _ _ _ L _ HL.out gp.rd (by omega)).mono ?_; rintro e w2 ⟨rfl, hb2⟩; have gp := gp.next hb2; have gi := gi.next hb2; have gm := gm.next hb2)
      | (go_at_call 28; refine (specLengths_any _ _ _ ls _ HS.out gi.rd (by omega)).mono ?_; rintro e w2 ⟨rfl, hb2⟩; have gp := gp.next hb2; have gi := gi.next hb2; have gm := gm.next hb2)
      | (go_at_call 21; refine (alive_any _).mono ?_; rintro e w2 ⟨rfl, hb2⟩; have gi := gi.next hb2))
    go_ret
    exact ⟨rfl, gi.be⟩
  · have hok := hyes hv1 hv2
    have hw := hyes2 hv1 hv2
    clear hno1 hno2 hyes hyes2
    go_wp2_with (first
      | (go_at_call_of 62 (Value.slice none 0 0); refine (CN.out _ _ _ _ HS.out gi.rd (by omega)).mono ?_; intro e w2 hrow; obtain ⟨A8, c8, rfl, own8, hb2⟩ := pairs_at' hrow HN.out; have gp := gp.next hb2; have gi := gi.next hb2; have g0 : GP w w2 A8 M0 := ⟨gi.be, RdP.of_own own8⟩)
      | (go_at_call 62; refine (CI.out _ _ _ _ _ _ _ HL.out gp.rd (by omega) HS.out gi.rd (by omega)).mono ?_; intro e w2 hrow; obtain ⟨A6, c6, rfl, own6, hb2⟩ := pairs_at' hrow HM.out; have gp := gp.next hb2; have gi := gi.next hb2; have gm : GP w w2 A6 M := ⟨gi.be, RdP.of_own own6⟩)
      | (go_at_call 64; refine (CS.out _ _ _ _ _ _ _ HL.out gp.rd (by omega) HS.out gi.rd (by omega)).mono ?_; intro e w2 hrow; obtain ⟨A7, c7, rfl, own7, hb2⟩ := pairs_at' hrow HM.out; have gp := gp.next hb2; have gi := gi.next hb2; have gm := gm.next hb2; have gs : GP w w2 A7 M := ⟨gi.be, RdP.of_own own7⟩)
      | (go_at_call 63; refine (sameSlabs_same _ _ _ _ _ M _ HM.out gm.rd gs.rd (by omega)).mono ?_; rintro e w2 ⟨rfl, hb2⟩; have gp := gp.next hb2; have gi := gi.next hb2; have gm := gm.next hb2)
      | (go_at_call 31; refine (specBad_any _ _ _ _ L _ HL.out gp.rd (by omega)).mono ?_; rintro e w2 ⟨rfl, hb2⟩; have gp := gp.next hb2; have gi := gi.next hb2; have gm := gm.next hb2)
      | (go_at_call 28; refine (specLengths_any _ _ _ ls _ HS.out gi.rd (by omega)).mono ?_; rintro e w2 ⟨rfl, hb2⟩; have gp := gp.next hb2; have gi := gi.next hb2; have gm := gm.next hb2)
      | (go_at_call 59; refine (implSlabs_any _ _ _ _ L _ _ _ ls _ _ _ M _ HL.out gp.rd (by omega) HS.out gi.rd (by omega) HM.out gm.rd (by omega)).mono ?_; rintro e w2 ⟨rfl, hb2⟩; have gi := gi.next hb2; have gp := gp.next hb2)
      | (go_at_call 19; refine (implWasteOf_any _ none 0 0 [] _ _ _ ls _ _ _ M0 _ rfl RdP.nil (by omega) HS.out gi.rd (by omega) HN.out g0.rd (by omega)).mono ?_; rintro e w2 ⟨rfl, hb2⟩; have gi := gi.next hb2)
      | (go_at_call 25; refine (implCutLeast_any _ _ _ _ ls _ HS.out gi.rd (by omega)).mono ?_; rintro e w2 ⟨rfl, hb2⟩; have gi := gi.next hb2))
    go_ret
    exact ⟨rfl, gi.be⟩
end Go.Proofs.YtcegmlogjbnoeaaDoor
