/- The walk of the law FnPassOver (written by genlaws.py). -/
import Derived.Test.YtiddlpgpbafdmaaDoorDrawPb
import Derived.Test.YtiddlpgpbafdmaaDoorFL2
import Derived.Test.YtiddlpgpbafdmaaDoorOver
import Derived.Test.YtiddlpgpbafdmaaDoorFurnFn2
import Derived.Test.YtiddlpgpbafdmaaDoorAlive
namespace Go.Proofs.YtiddlpgpbafdmaaDoor
open Go.RowKit
set_option linter.unusedVariables false
theorem own_set3 {w : World} {base g n c : Nat} {e : TypeId} {L : List (Int × Int)} (h : w.ownsRow base e 2 (.slice (some ⟨g, 0, none⟩) n c) n (pairsV L)) {k : Nat} {x y : Int} (hk : L[k]? = some (x, y)) (z : Int) :
    (w.setCell ⟨g, k * 2 + 1, none⟩ (.int .i64 z)).ownsRow base e 2 (.slice (some ⟨g, 0, none⟩) n c) n (pairsV (L.set k (x, z))) := by
  rw [pairsV_set3 z hk]; exact (h.stored (k * 2 + 1) _).1
set_option maxRecDepth 100000 in
set_option maxHeartbeats 1000000 in
theorem walkFnPassOver (w : World) (A : Option Addr) (n c : Nat) (xs : List Int) (hl : xs.length = n) (rd : RdI .u8 w w.heap.size A xs) (hc : n ≤ c) (hx : ∀ x ∈ xs, 0 ≤ x ∧ x ≤ 255) :
    Calls Tryd.prog 12 #[.slice A n c] w fun e w' => e = .returned (.bool true) ∧ Below w.heap.size w w' := by
  by_cases hs0 : 1048576 < (n : Int)
  · go_enter Tryd.func12, Tryd.ntmps12
    go_wp2
    go_ret
    exact ⟨rfl, Below.refl _ _⟩
  have hn : n ≤ 1048576 := by omega
  go_enter Tryd.func12, Tryd.ntmps12
  go_wp2_with (fail)
  refine (dDrawPassOver_st hl hc rd hn hx).mono ?_
  rintro e w1 ⟨⟨A4, m, c4, L, r, p, A5, m5, c5, M, rfl, hL, hn9, hM, hn5, o1, o2⟩, hb⟩
  clear rd hx hl hc
  obtain ⟨i0, hi, hz0, hz1, hz2⟩ := info_parts info_Pass
  have hs1 := hb.size
  have hrd := RdP.of_own o1
  have HL := Lib.hid hL
  have HM := Lib.hid hM
  have bw : Below w1.heap.size w1 (w1.alloc (.cells #[.int .i64 r, .int .i64 p] 24)) := (Below.refl _ w1).alloc (Nat.le_refl _) _
  have fl : FL w (w1.alloc (.cells #[.int .i64 r, .int .i64 p] 24)) w1.heap.size r p A4 L := ⟨⟨hb.alloc hs1 _, by simp, by go_simp, by go_simp⟩, hrd.up bw bw.size⟩
  have gm : PO w (w1.alloc (.cells #[.int .i64 r, .int .i64 p] 24)) 47 (.slice A5 m5 c5) m5 M := ⟨hb.alloc hs1 _, o2.alloc _⟩
  clear bw hrd o1 o2 hb hL hM
  have cx := fl.fx.x
  have cy := fl.fx.y
  by_cases hneg : passOver L r p M < 0
  · obtain ⟨hm, hok⟩ := passOver_neg hneg
    clear hneg
    go_wp2_with (first
      | (go_at_call 45; refine (implOver_any _ _ _ L r p _ _ _ M _ HL.out fl.rd (by omega) HM.out gm.rd (by omega)).mono ?_; rintro e w2 ⟨rfl, hb2⟩; have fl := fl.next hb2; have gm := gm.next hb2; have cx := fl.fx.x; have cy := fl.fx.y)
      | (go_at_call 46; refine (specOver_any _ _ _ L r p _ _ _ M _ HL.out fl.rd (by omega) HM.out gm.rd (by omega)).mono ?_; rintro e w2 ⟨rfl, hb2⟩; have fl := fl.next hb2; have gm := gm.next hb2; have cx := fl.fx.x; have cy := fl.fx.y)
      | (go_at_call 41; refine (implOk_any _ _ _ L r p _ _ _ M _ HL.out fl.rd (by omega) HM.out gm.rd (by omega)).mono ?_; rintro e w2 ⟨rfl, hb2⟩; have fl := fl.next hb2; have gm := gm.next hb2; have cx := fl.fx.x; have cy := fl.fx.y)
      | (go_at_call 18; refine (alive_any _).mono ?_; rintro e w2 ⟨rfl, hb2⟩; have fl := fl.next hb2))
    go_ret
    exact ⟨rfl, fl.fx.be⟩
  · have hok : passesOk L r p M = true := by
      cases h : passesOk L r p M
      · rw [passOver_no h] at hneg; omega
      · rfl
    obtain ⟨hl8, hle, hf⟩ := passesOk_facts hok
    rw [HL.out] at hl8 hle
    rw [HM.out] at hle
    by_cases hm0 : m5 = 0
    · have hx0 : passOver L r p M = 0 := by rw [passOver_ok hok, HL.out, ← hle, hm0]; rfl
      have B0 : ((m5 : Int) == 0) = true := by simp [hm0]
      clear hm0 hok hneg hle hf
      go_wp2_with (first
        | (go_at_call 45; refine (implOver_any _ _ _ L r p _ _ _ M _ HL.out fl.rd (by omega) HM.out gm.rd (by omega)).mono ?_; rintro e w2 ⟨rfl, hb2⟩; have fl := fl.next hb2; have gm := gm.next hb2; have cx := fl.fx.x; have cy := fl.fx.y)
        | (go_at_call 46; refine (specOver_any _ _ _ L r p _ _ _ M _ HL.out fl.rd (by omega) HM.out gm.rd (by omega)).mono ?_; rintro e w2 ⟨rfl, hb2⟩; have fl := fl.next hb2; have gm := gm.next hb2; have cx := fl.fx.x; have cy := fl.fx.y))
      go_ret
      exact ⟨rfl, fl.fx.be⟩
    · obtain ⟨j, rfl⟩ : ∃ j, m5 = j + 1 := ⟨m5 - 1, by omega⟩
      subst hle
      obtain ⟨g, cc, hform, -, -⟩ := own_form gm.own (by omega)
      injection hform with hA _ hC
      subst hA
      clear hC
      obtain ⟨⟨a, b⟩, hab⟩ : ∃ q, M[j]? = some q := ⟨_, List.getElem?_eq_getElem (by rw [HM.out]; omega)⟩
      obtain ⟨⟨x1, x2⟩, hxj⟩ : ∃ q, L[j]? = some q := ⟨_, List.getElem?_eq_getElem (by rw [HL.out]; omega)⟩
      obtain ⟨f1, f2, f3, f4, f5, f6⟩ := hf j x1 x2 a b hxj hab
      have hbd := (overTo_bounds hok L.length (Nat.le_refl _)).2
      rw [← passOver_ok hok, HL.out] at hbd
      have hlater : b + 1 ≤ 9999 → passOver L r p (M.set j (a, b + 1)) = passOver L r p M + 1 := fun h => lastLater_over hok HM.out hab h
      have HLT := Lib.hid hlater
      have HAB := Lib.hid hab
      have B0 : ((j : Int) + 1 == 0) = false := by simp; omega
      have W1 : IntKind.i64.wrap (j : Int) = j := IntWalk.i64_in _ (by omega)
      have W2 : IntKind.i64.wrap (b + 1) = b + 1 := IntWalk.i64_in _ (by omega)
      have W3 : IntKind.i64.wrap (passOver L r p M + 1) = passOver L r p M + 1 := IntWalk.i64_in _ (by omega)
      have B1 : (j : Int) < (j : Int) + 1 := by omega
      have B2 : j < j + 1 := by omega
      clear hm0 hok hf hlater hab hxj
      by_cases hbig : 9999 < b + 1
      · go_wp2_with (first
          | (go_at_call_of 45 c5; refine (implOver_any _ _ _ L r p _ _ _ M _ HL.out fl.rd (by omega) HM.out gm.rd (by omega)).mono ?_; rintro e w2 ⟨rfl, hb2⟩; have fl := fl.next hb2; have gm := gm.next hb2; have cx := fl.fx.x; have cy := fl.fx.y)
          | (go_at_call 46; refine (specOver_any _ _ _ L r p _ _ _ M _ HL.out fl.rd (by omega) HM.out gm.rd (by omega)).mono ?_; rintro e w2 ⟨rfl, hb2⟩; have fl := fl.next hb2; have gm := gm.next hb2; have cx := fl.fx.x; have cy := fl.fx.y)
          | (at_builtin; go_must (refine wpList_append_own_w _ (by rfl) (.tmp 46) (.tmp 47) 43 rfl w2.heap.size 47 i0 _ 2 16 Tryd.underlying43 hi hz0 hz1 hz2 rfl (by decide) (.slice (some ⟨w2.heap.size, 0, none⟩) 0 0) 0 [] rfl (own_made0 (Nat.le_refl _) _ _) ⟨g, 0, none⟩ (j + 1) c5 (pairsV M) rfl (by rw [pairsV_length, HM.out]) (own_cells (gm.own.alloc _)) pairsV_one (by unfold maxLen; omega) (by omega) (by simp) ?_); intro v6 w6 hown6 hgr6 hv6; simp only [Nat.zero_add, List.nil_append] at hown6; have be6 := Below.grown ((Below.refl w2.heap.size w2).alloc (Nat.le_refl _) (.cells #[] 47)) hgr6 (by simp) (fun k hk => own_ge (own_made0 (Nat.le_refl w2.heap.size) 47 2) hk); obtain ⟨g6, c6, rfl, hg6, -⟩ := own_form hown6 (by omega); obtain ⟨e1, e2⟩ := own_pair hown6 HAB.out; have e3 := hown6.frozenAt (j * 2 + 1); have fl6 := fl.next be6; have cx := fl6.fx.x; have cy := fl6.fx.y; have hlt6 := fl.fx.lt; have hne : ¬ w1.heap.size = g6 := (by omega); have b8 := Below.setCell (p := ⟨g6, j * 2 + 1, none⟩) be6 hg6 (.int .i64 (b + 1)); have fl8 := fl.next b8; have own8 := own_set3 hown6 HAB.out (b + 1)))
        go_ret
        exact ⟨rfl, fl8.fx.be⟩
      · have hl := HLT.out (by omega)
        go_wp2_with (first
          | (go_at_call_of 45 c6; refine (implOver_any _ _ _ L r p _ _ _ (M.set j (a, b + 1)) _ HL.out fl8.rd (by omega) (by rw [List.length_set]; exact HM.out) (RdP.of_own own8) (by omega)).mono ?_; rintro e w9 ⟨rfl, hb9⟩; have fl9 := fl8.next hb9)
          | (go_at_call_of 45 c5; refine (implOver_any _ _ _ L r p _ _ _ M _ HL.out fl.rd (by omega) HM.out gm.rd (by omega)).mono ?_; rintro e w2 ⟨rfl, hb2⟩; have fl := fl.next hb2; have gm := gm.next hb2; have cx := fl.fx.x; have cy := fl.fx.y)
          | (go_at_call 46; refine (specOver_any _ _ _ L r p _ _ _ M _ HL.out fl.rd (by omega) HM.out gm.rd (by omega)).mono ?_; rintro e w2 ⟨rfl, hb2⟩; have fl := fl.next hb2; have gm := gm.next hb2; have cx := fl.fx.x; have cy := fl.fx.y)
          | (at_builtin; go_must (refine wpList_append_own_w _ (by rfl) (.tmp 46) (.tmp 47) 43 rfl w2.heap.size 47 i0 _ 2 16 Tryd.underlying43 hi hz0 hz1 hz2 rfl (by decide) (.slice (some ⟨w2.heap.size, 0, none⟩) 0 0) 0 [] rfl (own_made0 (Nat.le_refl _) _ _) ⟨g, 0, none⟩ (j + 1) c5 (pairsV M) rfl (by rw [pairsV_length, HM.out]) (own_cells (gm.own.alloc _)) pairsV_one (by unfold maxLen; omega) (by omega) (by simp) ?_); intro v6 w6 hown6 hgr6 hv6; simp only [Nat.zero_add, List.nil_append] at hown6; have be6 := Below.grown ((Below.refl w2.heap.size w2).alloc (Nat.le_refl _) (.cells #[] 47)) hgr6 (by simp) (fun k hk => own_ge (own_made0 (Nat.le_refl w2.heap.size) 47 2) hk); obtain ⟨g6, c6, rfl, hg6, -⟩ := own_form hown6 (by omega); obtain ⟨e1, e2⟩ := own_pair hown6 HAB.out; have e3 := hown6.frozenAt (j * 2 + 1); have fl6 := fl.next be6; have cx := fl6.fx.x; have cy := fl6.fx.y; have hlt6 := fl.fx.lt; have hne : ¬ w1.heap.size = g6 := (by omega); have b8 := Below.setCell (p := ⟨g6, j * 2 + 1, none⟩) be6 hg6 (.int .i64 (b + 1)); have fl8 := fl.next b8; have own8 := own_set3 hown6 HAB.out (b + 1)))
        go_ret
        exact ⟨rfl, fl9.fx.be⟩
end Go.Proofs.YtiddlpgpbafdmaaDoor
