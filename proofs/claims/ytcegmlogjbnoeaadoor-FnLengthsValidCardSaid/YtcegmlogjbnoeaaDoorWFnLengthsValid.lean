/- The walk of the law FnLengthsValid (written by genlaws.py). -/
import Derived.Test.YtcegmlogjbnoeaaDoorDrawCut
import Derived.Test.YtcegmlogjbnoeaaDoorRows2
import Derived.Test.YtcegmlogjbnoeaaDoorAppW
import Derived.Test.YtcegmlogjbnoeaaDoorAlive
import Derived.Test.YtcegmlogjbnoeaaDoorLenWalk
import Derived.Test.YtcegmlogjbnoeaaDoorLenFn
namespace Go.Proofs.YtcegmlogjbnoeaaDoor
open Go.RowKit
set_option linter.unusedVariables false
theorem own_made_at {w : World} {base k : Nat} (hb : base ≤ w.heap.size) (hk : w.heap.size = k) (e : TypeId) (sz : Nat) : (w.alloc (.cells #[] e)).ownsRow base e sz (.slice (some ⟨k, 0, none⟩) 0 0) 0 [] := by
  subst hk; exact own_made0 hb e sz
theorem own_lt' {w : World} {base : Nat} {e : TypeId} {size n : Nat} {v : Value} {xs : List Value} (h : w.ownsRow base e size v n xs) {k : Nat} (hk : v.ownBlock = some k) : k < w.heap.size := (h.lt k hk).2
theorem step_append_ow {P : Program} {ops : Array Oper} {o : Oper} {a : Act} {w : World} {K : Act → World → Prop} {Q : Exit → Act → World → Prop} {E : Prop}
    (hw : Region.wanted o (yielded ops a.tmps) = true) (s x : Operand) (t : TypeId) (hop : o.op = Op.call { callee := Callee.builtin Builtin.append, args := #[s, x], argTypes := #[t, t] })
    (base : Nat) (e : TypeId) (i : TypeInfo) (z : Value) (size bytes : Nat) (h1 : P.underlying t = some (.slice e)) (h2 : P.info? e = some i) (h3 : i.zero = some z) (h4 : i.size = size) (h5 : i.bytes = bytes) (h6 : z.cells.size = size) (h7 : 0 < size)
    (v : Value) (n : Nat) (xs : List Value) (hs : a.eval s = v) (hown : w.ownsRow base e size v n xs)
    (ad : Addr) (m c : Nat) (news : List Value) (hx : a.eval x = .slice (some ad) m c) (hn : news.length = m * size) (hc : ∀ j u, news[j]? = some u → w.cell? (ad.add j) = some u) (h1c : ∀ u ∈ news, u.oneCell' = true)
    (b1 : n + m ≤ maxLen) (b2 : (n + m) * bytes ≤ 140737488355328) (hbase : base ≤ w.heap.size)
    (hK : ∀ v' w', w'.ownsRow base e size v' (n + m) (xs ++ news) → w.grownBy w' v.ownBlock → K (a.put o.dst v') w') :
    if Region.wanted o (yielded ops a.tmps) = true then Oper.wp P o a w K Q else E := by
  rw [if_pos hw]
  obtain ⟨v', w', hrun, r1, r2, _⟩ := run_append_own (P := P) w base t o.type e i z size bytes h1 h2 h3 h4 h5 h6 h7 v n xs hown ad m c news hn hc h1c b1 b2 hbase
  unfold Oper.wp
  simp [execOp, hop, resolve, invoke, builtin, hs, hx, hrun, Result.andThen]
  exact hK v' w' r1 r2
set_option maxRecDepth 100000 in
set_option maxHeartbeats 1000000 in
theorem walkFnLengthsValid (w : World) (A : Option Addr) (n c : Nat) (xs : List Int) (hl : xs.length = n) (rd : RdI .u8 w w.heap.size A xs) (hc : n ≤ c) (hx : ∀ x ∈ xs, 0 ≤ x ∧ x ≤ 255) :
    Calls Tryd.prog 5 #[.slice A n c] w fun e w' => e = .returned (.bool true) ∧ Below w.heap.size w w' := by
  by_cases hs0 : 1048576 < (n : Int)
  · go_enter Tryd.func5, Tryd.ntmps5
    go_wp2
    go_ret
    exact ⟨rfl, Below.refl _ _⟩
  have hn : n ≤ 1048576 := by omega
  go_enter Tryd.func5, Tryd.ntmps5
  go_wp2_with (fail)
  refine (drawLengths_st hl hc rd hn hx).mono ?_
  rintro e w1 ⟨A4, m, c4, L, rfl, hL, hn9, hown, hb⟩
  clear rd hx hl hc
  obtain ⟨i0, hi, hz0, hz1, hz2⟩ := info_parts info_int
  have gi : GI w w1 A4 L := ⟨hb, RdI.of_own hown⟩
  have HL := Lib.hid hL
  have hnil := lengthsOk_nil
  cases hv : lengthsOk L
  · clear hown hb hL
    go_wp2_with (first
      | (go_at_call_of 27 A4; refine (implLengths_any A4 _ _ L _ HL.out gi.rd (by omega)).mono ?_; rintro e w9 ⟨rfl, rfl⟩)
      | (go_at_call_of 27 (Value.slice none 0 0); refine (implLengths_any none 0 0 [] _ rfl RdI.nil (by omega)).mono ?_; rintro e w9 ⟨rfl, rfl⟩)
      | (go_at_call 28; refine (specLengths_any _ _ _ L _ HL.out gi.rd (by omega)).mono ?_; rintro e w2 ⟨rfl, hb2⟩; have gi := gi.next hb2)
      | (go_at_call 21; refine (alive_any _).mono ?_; rintro e w2 ⟨rfl, hb2⟩; have gi := gi.next hb2))
    go_ret
    exact ⟨rfl, gi.be⟩
  have hm1 := (lengthsOk_len hv).1
  rw [hL] at hm1
  by_cases hm2 : m < 2
  · have B0 : (m : Int) < 2 := by omega
    clear hown hb hL
    go_wp2_with (first
      | (go_at_call_of 27 A4; refine (implLengths_any A4 _ _ L _ HL.out gi.rd (by omega)).mono ?_; rintro e w9 ⟨rfl, rfl⟩)
      | (go_at_call_of 27 (Value.slice none 0 0); refine (implLengths_any none 0 0 [] _ rfl RdI.nil (by omega)).mono ?_; rintro e w9 ⟨rfl, rfl⟩)
      | (go_at_call 28; refine (specLengths_any _ _ _ L _ HL.out gi.rd (by omega)).mono ?_; rintro e w2 ⟨rfl, hb2⟩; have gi := gi.next hb2)
      | (go_at_call 21; refine (alive_any _).mono ?_; rintro e w2 ⟨rfl, hb2⟩; have gi := gi.next hb2))
    go_ret
    exact ⟨rfl, gi.be⟩
  · have B0 : ¬ (m : Int) < 2 := by omega
    obtain ⟨g, cc, hform, -, -⟩ := own_form hown (by omega)
    injection hform with hA _ hC
    subst hA
    clear hC
    have hcap := own_cap hown
    obtain ⟨x, hx⟩ : ∃ x, L[0]? = some x := ⟨_, List.getElem?_eq_getElem (by omega)⟩
    have hagain := lengthsOk_again hv hx
    have htail : lengthsOk L.tail = true := by
      cases L with
      | nil => simp at hx
      | cons a r => cases r with
        | nil => simp at hL; omega
        | cons b r => exact lengthsOk_tail hv
    have gq : IO1 w w1 3 (.slice (some ⟨g, 0, none⟩) m c4) m L := ⟨hb, hown⟩
    have HX := Lib.hid hx
    have HT : Hid ((L.drop 1).length = m - 1) := Lib.hid (by rw [List.length_drop, HL.out])
    have B1 : (1 : Int) ≤ m := by omega
    have B2 : (1 : Int) < c4 := by omega
    have B3 : ¬ c4 = 1 := by omega
    have B4 : (0 : Int) < m := by omega
    have B5 : 0 < m := by omega
    clear hown hb hL hx gi
    go_wp2_with (first
      | (go_at_call_of 27 c4; refine (implLengths_any (some ⟨g, 0, none⟩) m c4 L _ HL.out gq.rd (by omega)).mono ?_; rintro e w9 ⟨rfl, rfl⟩)
      | (go_at_call 28; refine (specLengths_any _ _ _ L _ HL.out gq.rd (by omega)).mono ?_; rintro e w2 ⟨rfl, hb2⟩; have gq := gq.next hb2))
    have hc0 := own_int gq.own HX.out
    have hglt : g < w2.heap.size := own_lt' gq.own rfl
    go_region_law (first
      | (go_simp; go_at_call_of 27 (some (⟨g, 1, none⟩ : Addr)); refine (implLengths_any (some ⟨g, 1, none⟩) (m - 1) (c4 - 1) (L.drop 1) _ HT.out (own_tail1 (own_drew gq.own)) (by omega)).mono ?_; rintro e w9 ⟨rfl, rfl⟩)
      | (go_simp; go_at_call_of 27 g6; refine (implLengths_any (some ⟨g6, 0, none⟩) (m + 1) cc6 (L ++ [x]) _ (by rw [List.length_append, HL.out]; rfl) (RdI.of_own hown6) (by omega)).mono ?_; rintro e w9 ⟨rfl, rfl⟩)
      | (refine step_append_ow (by rfl) (.tmp 34) (.tmp 38) 24 rfl w2.heap.size 3 i0 _ 1 8 Tryd.underlying24 hi hz0 hz1 hz2 rfl (by decide) (.slice (some ⟨g5, 0, none⟩) m cc5) m (intsV .i64 L) rfl (hown5.alloc _) ⟨w5.heap.size, 0, none⟩ 1 1 (intsV .i64 [x]) rfl rfl (cells_one1 (Newest.alloc_ rfl)) intsV_one (by unfold maxLen; omega) (by omega) (by (have := be5.size); (simp); try omega) ?_; intro v6 w6 hown6 hgr6; rw [← intsV_append] at hown6; obtain ⟨g6, cc6, rfl, -, -⟩ := own_form hown6 (by omega); have be6 := Below.grown (be5.alloc be5.size (.cells #[.int .i64 x] 3)) hgr6 (by (have := be5.size); (try simp); try omega) (fun k hk => own_ge hown5 hk))
      | (refine step_append_ow (by rfl) (.tmp 34) (.tmp 38) 24 rfl w2.heap.size 3 i0 _ 1 8 Tryd.underlying24 hi hz0 hz1 hz2 rfl (by decide) (.slice (some ⟨g5, 0, none⟩) m cc5) m (intsV .i64 L) rfl hown5 ⟨(w2.heap.size + 1), 0, none⟩ 1 1 (intsV .i64 [x]) rfl rfl (news_int d5) intsV_one (by unfold maxLen; omega) (by omega) (by (have := be5.size); (simp); try omega) ?_; intro v6 w6 hown6 hgr6; rw [← intsV_append] at hown6; obtain ⟨g6, cc6, rfl, -, -⟩ := own_form hown6 (by omega); have be6 := Below.grown be5 hgr6 (by (have := be5.size); (try simp); try omega) (fun k hk => own_ge hown5 hk))
      | (refine step_append_ow (by rfl) (.tmp 34) (.tmp 38) 24 rfl w2.heap.size 3 i0 _ 1 8 Tryd.underlying24 hi hz0 hz1 hz2 rfl (by decide) (.slice (some ⟨g5, 0, none⟩) m cc5) m (intsV .i64 L) rfl hown5 ⟨w2.heap.size, 0, none⟩ 1 1 (intsV .i64 [x]) rfl rfl (news_int d5) intsV_one (by unfold maxLen; omega) (by omega) (by (have := be5.size); (simp); try omega) ?_; intro v6 w6 hown6 hgr6; rw [← intsV_append] at hown6; obtain ⟨g6, cc6, rfl, -, -⟩ := own_form hown6 (by omega); have be6 := Below.grown be5 hgr6 (by (have := be5.size); (try simp); try omega) (fun k hk => own_ge hown5 hk))
      | (refine step_append_ow (by rfl) (.tmp 32) (.tmp 33) 24 rfl w2.heap.size 3 i0 _ 1 8 Tryd.underlying24 hi hz0 hz1 hz2 rfl (by decide) (.slice (some ⟨w2.heap.size, 0, none⟩) 0 0) 0 [] rfl (own_made0 (w := w2.drew) (base := w2.heap.size) (Nat.le_refl _) 3 1) ⟨g, 0, none⟩ m c4 (intsV .i64 L) rfl (by rw [intsV_length, HL.out, Nat.mul_one]) (own_cells (gq.own.alloc _)) intsV_one (by unfold maxLen; omega) (by omega) (by simp <;> omega) ?_; intro v5 w5 hown5 hgr5; simp only [Nat.zero_add, List.nil_append] at hown5; have be5 := Below.grown (((Below.refl w2.heap.size w2).drew).alloc (Nat.le_refl _) (.cells #[] 3)) hgr5 (by simp <;> omega) (fun k hk => own_ge (own_made0 (w := w2.drew) (base := w2.heap.size) (Nat.le_refl _) 3 1) hk); have c5 : w5.cell? ⟨g, 0, none⟩ = some (.int .i64 x) := (be5.cell (p := ⟨g, 0, none⟩) hglt).trans hc0; obtain ⟨g5, cc5, rfl, -, -⟩ := own_form hown5 (by omega))
      | (refine step_append_ow (by rfl) (.tmp 32) (.tmp 33) 24 rfl w2.heap.size 3 i0 _ 1 8 Tryd.underlying24 hi hz0 hz1 hz2 rfl (by decide) (.slice (some ⟨w2.heap.size, 0, none⟩) 0 0) 0 [] rfl ((own_made0 (w := w2.drew) (base := w2.heap.size) (Nat.le_refl _) 3 1).alloc (.cells #[.int .i64 x] 3)) ⟨g, 0, none⟩ m c4 (intsV .i64 L) rfl (by rw [intsV_length, HL.out, Nat.mul_one]) (own_cells ((gq.own.alloc _).alloc _)) intsV_one (by unfold maxLen; omega) (by omega) (by simp <;> omega) ?_; intro v5 w5 hown5 hgr5; simp only [Nat.zero_add, List.nil_append] at hown5; have be5 := Below.grown ((((Below.refl w2.heap.size w2).drew).alloc (Nat.le_refl _) (.cells #[] 3)).alloc (by simp <;> omega) (.cells #[.int .i64 x] 3)) hgr5 (by simp <;> omega) (fun k hk => own_ge ((own_made0 (w := w2.drew) (base := w2.heap.size) (Nat.le_refl _) 3 1).alloc (.cells #[.int .i64 x] 3)) hk); have c5 : w5.cell? ⟨g, 0, none⟩ = some (.int .i64 x) := (be5.cell (p := ⟨g, 0, none⟩) hglt).trans hc0; obtain ⟨g5, cc5, rfl, -, -⟩ := own_form hown5 (by omega); have d5 : w5.cell? ⟨w2.heap.size + 1, 0, none⟩ = some (.int .i64 x) := hgr5.cell (by go_simp) (by simp [Value.ownBlock]))
      | (refine step_append_ow (by rfl) (.tmp 32) (.tmp 33) 24 rfl w2.heap.size 3 i0 _ 1 8 Tryd.underlying24 hi hz0 hz1 hz2 rfl (by decide) (.slice (some ⟨(w2.heap.size + 1), 0, none⟩) 0 0) 0 [] rfl (own_made_at (w := w2.drew.alloc (.cells #[.int .i64 x] 3)) (base := w2.heap.size) (k := w2.heap.size + 1) (by simp <;> omega) (by simp) 3 1) ⟨g, 0, none⟩ m c4 (intsV .i64 L) rfl (by rw [intsV_length, HL.out, Nat.mul_one]) (own_cells ((gq.own.alloc _).alloc _)) intsV_one (by unfold maxLen; omega) (by omega) (by simp <;> omega) ?_; intro v5 w5 hown5 hgr5; simp only [Nat.zero_add, List.nil_append] at hown5; have be5 := Below.grown ((((Below.refl w2.heap.size w2).drew).alloc (Nat.le_refl _) (.cells #[.int .i64 x] 3)).alloc (by simp <;> omega) (.cells #[] 3)) hgr5 (by simp <;> omega) (fun k hk => own_ge (own_made_at (w := w2.drew.alloc (.cells #[.int .i64 x] 3)) (base := w2.heap.size) (k := w2.heap.size + 1) (by simp <;> omega) (by simp) 3 1) hk); have c5 : w5.cell? ⟨g, 0, none⟩ = some (.int .i64 x) := (be5.cell (p := ⟨g, 0, none⟩) hglt).trans hc0; obtain ⟨g5, cc5, rfl, -, -⟩ := own_form hown5 (by omega); have d5 : w5.cell? ⟨w2.heap.size, 0, none⟩ = some (.int .i64 x) := hgr5.cell (by go_simp) (by simp [Value.ownBlock])))
    all_goals (go_wp2; go_ret; exact ⟨rfl, gq.be.trans (be6.mono gq.be.size)⟩)
end Go.Proofs.YtcegmlogjbnoeaaDoor
