/- The walk of the law FnSplitEnd (written by genlaws.py). -/
import Derived.Test.YtiddlpgpbafdmaaDoorDrawSp
import Derived.Test.YtiddlpgpbafdmaaDoorSplitBest
import Derived.Test.YtiddlpgpbafdmaaDoorFurnFn2
import Derived.Test.YtiddlpgpbafdmaaDoorQuietC
import Derived.Test.YtiddlpgpbafdmaaDoorAlive
import Derived.Test.YtiddlpgpbafdmaaDoorFL2
namespace Go.Proofs.YtiddlpgpbafdmaaDoor
open Go.RowKit
set_option linter.unusedVariables false
set_option maxRecDepth 100000 in
set_option maxHeartbeats 1000000 in
theorem walkFnSplitEnd (w : World) (A : Option Addr) (n c : Nat) (xs : List Int) (hl : xs.length = n) (rd : RdI .u8 w w.heap.size A xs) (hc : n ≤ c) (hx : ∀ x ∈ xs, 0 ≤ x ∧ x ≤ 255) :
    Calls Tryd.prog 13 #[.slice A n c] w fun e w' => e = .returned (.bool true) ∧ Below w.heap.size w w' := by
  by_cases hs0 : 1048576 < (n : Int)
  · go_enter Tryd.func13, Tryd.ntmps13
    go_wp2
    go_ret
    exact ⟨rfl, Below.refl _ _⟩
  have hn : n ≤ 1048576 := by omega
  go_enter Tryd.func13, Tryd.ntmps13
  go_wp2_with (fail)
  refine (drawSplit_st hl hc rd hn hx).mono ?_
  rintro e w1 ⟨A4, m, c4, L, r, p, s, rfl, hL, hn9, hown, hb⟩
  clear rd hx hl hc
  have hs1 := hb.size
  have hrd := RdP.of_own hown
  have HL := Lib.hid hL
  have bw : Below w1.heap.size w1 (w1.alloc (.cells #[.int .i64 r, .int .i64 p] 24)) := (Below.refl _ w1).alloc (Nat.le_refl _) _
  have fl : FL w (w1.alloc (.cells #[.int .i64 r, .int .i64 p] 24)) w1.heap.size r p A4 L := ⟨⟨hb.alloc hs1 _, by simp, by go_simp, by go_simp⟩, hrd.up bw bw.size⟩
  clear bw hrd hown hb hL
  have cx := fl.fx.x
  have cy := fl.fx.y
  by_cases hneg : splitEnd L r p s < 0
  · have hm := splitEnd_neg hneg
    clear hneg
    go_wp2_with (first
      | (go_at_call 48; refine (implSplit_any _ _ _ L r p s _ HL.out fl.rd (by omega)).mono ?_; rintro e w2 ⟨rfl, hb2⟩; have fl := fl.next hb2; have cx := fl.fx.x; have cy := fl.fx.y)
      | (go_at_call 49; refine (specSplit_any _ _ _ L r p s _ HL.out fl.rd (by omega)).mono ?_; rintro e w2 ⟨rfl, hb2⟩; have fl := fl.next hb2; have cx := fl.fx.x; have cy := fl.fx.y)
      | (go_at_call 18; refine (alive_any _).mono ?_; rintro e w2 ⟨rfl, hb2⟩; have fl := fl.next hb2))
    go_ret
    exact ⟨rfl, fl.fx.be⟩
  · have h0 : 0 ≤ splitEnd L r p s := by omega
    obtain ⟨h1, h2, h3⟩ := splitEnd_valid h0
    obtain ⟨hb1, hb2'⟩ := splitBest_least h0
    have hflip := splitEnd_flip h1 h2 h3
    have hzero := splitEnd_zero h1 h2
    have h8 := chargesOk_len h1
    rw [HL.out] at h3 hflip h8
    obtain ⟨hp1, hp2⟩ := pow2_bounds h8
    obtain ⟨s0, s1⟩ := inB_iff.1 h3
    clear h0 h1 h2 h3
    go_wp2_with (first
      | (go_at_call 48; refine (implSplit_any _ _ _ L r p s _ HL.out fl.rd (by omega)).mono ?_; rintro e w2 ⟨rfl, hb2⟩; have fl := fl.next hb2; have cx := fl.fx.x; have cy := fl.fx.y)
      | (go_at_call 49; refine (specSplit_any _ _ _ L r p s _ HL.out fl.rd (by omega)).mono ?_; rintro e w2 ⟨rfl, hb2⟩; have fl := fl.next hb2; have cx := fl.fx.x; have cy := fl.fx.y))
    clear cx cy hb2
    have W1 : IntKind.i64.wrap ((2 : Int) ^ m - 1 - s) = 2 ^ m - 1 - s := IntWalk.i64_in _ (by omega)
    refine region_class (fun w' => FL w w' w1.heap.size r p A4 L) (by kernel_rfl) (by kernel_rfl) (fl.next (Below.refl _ _).drew) ?_
    repeat
      first
        | (refine qstep_skip (by rfl) ?_
           simp only [Act.put, List.setIfInBounds_toArray, List.set_cons_zero, List.set_cons_succ])
        | (refine qstep_value (by rfl) ?_
           apply Exists.intro
           refine ⟨fun w' hw' => ?_, ?_⟩
           · have hx := hw'.fx.x
             have hy := hw'.fx.y
             go_simp
             try with_reducible rfl
           simp only [Act.put, List.setIfInBounds_toArray, List.set_cons_zero, List.set_cons_succ])
        | (refine qstep_call (f := 50) (args := #[.slice A4 m c4, .agg #[.int .i64 r, .int .i64 p]]) (by rfl) (fun w' hw' => ?_) ?_
           · go_simp
           apply Exists.intro
           refine ⟨fun w' hw' => ?_, ?_⟩
           · refine (implSplitBest_any _ _ _ L r p _ HL.out hw'.rd (by omega)).mono ?_
             rintro e w2 ⟨rfl, hb2⟩
             exact ⟨rfl, hw'.next hb2⟩
           simp only [Act.put, List.setIfInBounds_toArray, List.set_cons_zero, List.set_cons_succ])
        | (refine qstep_call (f := 48) (args := #[.slice A4 m c4, .agg #[.int .i64 r, .int .i64 p], .int .i64 (splitBest L r p)]) (by rfl) (fun w' hw' => ?_) ?_
           · go_simp
           apply Exists.intro
           refine ⟨fun w' hw' => ?_, ?_⟩
           · refine (implSplit_any _ _ _ L r p (splitBest L r p) _ HL.out hw'.rd (by omega)).mono ?_
             rintro e w2 ⟨rfl, hb2⟩
             exact ⟨rfl, hw'.next hb2⟩
           simp only [Act.put, List.setIfInBounds_toArray, List.set_cons_zero, List.set_cons_succ])
    refine wpQuiet_nil ?_
    intro w9 fl
    go_wp2_with (fail)
    refine region_class (fun w' => FL w w' w1.heap.size r p A4 L) (by kernel_rfl) (by kernel_rfl) (fl.next (Below.refl _ _).drew) ?_
    repeat
      first
        | (refine qstep_skip (by rfl) ?_
           simp only [Act.put, List.setIfInBounds_toArray, List.set_cons_zero, List.set_cons_succ])
        | (refine qstep_value (by rfl) ?_
           apply Exists.intro
           refine ⟨fun w' hw' => ?_, ?_⟩
           · have hx := hw'.fx.x
             have hy := hw'.fx.y
             go_simp
             try with_reducible rfl
           simp only [Act.put, List.setIfInBounds_toArray, List.set_cons_zero, List.set_cons_succ])
        | (refine qstep_call (f := 48) (args := #[.slice A4 m c4, .agg #[.int .i64 r, .int .i64 p], .int .i64 ((2 : Int) ^ m - 1 - s)]) (by rfl) (fun w' hw' => ?_) ?_
           · go_simp
           apply Exists.intro
           refine ⟨fun w' hw' => ?_, ?_⟩
           · refine (implSplit_any _ _ _ L r p ((2 : Int) ^ m - 1 - s) _ HL.out hw'.rd (by omega)).mono ?_
             rintro e w2 ⟨rfl, hb2⟩
             exact ⟨rfl, hw'.next hb2⟩
           simp only [Act.put, List.setIfInBounds_toArray, List.set_cons_zero, List.set_cons_succ])
        | (refine qstep_call (f := 48) (args := #[.slice A4 m c4, .agg #[.int .i64 r, .int .i64 p], .int .i64 0]) (by rfl) (fun w' hw' => ?_) ?_
           · go_simp
           apply Exists.intro
           refine ⟨fun w' hw' => ?_, ?_⟩
           · refine (implSplit_any _ _ _ L r p 0 _ HL.out hw'.rd (by omega)).mono ?_
             rintro e w2 ⟨rfl, hb2⟩
             exact ⟨rfl, hw'.next hb2⟩
           simp only [Act.put, List.setIfInBounds_toArray, List.set_cons_zero, List.set_cons_succ])
        | (refine qstep_call (f := 35) (args := #[.slice A4 m c4, .agg #[.int .i64 r, .int .i64 p]]) (by rfl) (fun w' hw' => ?_) ?_
           · go_simp
           apply Exists.intro
           refine ⟨fun w' hw' => ?_, ?_⟩
           · refine (implEnd_any _ _ _ L r p _ HL.out hw'.rd (by omega)).mono ?_
             rintro e w2 ⟨rfl, hb2⟩
             exact ⟨rfl, hw'.next hb2⟩
           simp only [Act.put, List.setIfInBounds_toArray, List.set_cons_zero, List.set_cons_succ])
    refine wpQuiet_nil ?_
    intro w9 fl
    go_wp2
    go_ret
    exact ⟨rfl, fl.fx.be⟩
end Go.Proofs.YtiddlpgpbafdmaaDoor
