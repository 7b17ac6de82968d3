/- Tables of what is lost at least behind a set: what their walks keep. -/
/- The program's table of what is lost at least behind a set: the walk. -/
import Derived.Test.YtblbfgoifaddiaaDoorOrdLost
import Derived.Test.YtblbfgoifaddiaaDoorDrawTb
namespace Go.Proofs.YtblbfgoifaddiaaDoor
open Go.RowKit
set_option linter.unusedVariables false
set_option linter.unusedSimpArgs false
theorem i64_or_nat (a b : Nat) (ha : a < 65536) (hb : b < 65536) : bits .or .i64 (a : Int) (b : Int) = ((a ||| b : Nat) : Int) := by
  have hx : a ||| b < 2 ^ 16 := Nat.or_lt_two_pow (by omega) (by omega)
  show IntKind.i64.wrap ((BitVec.ofInt 64 (a : Int) ||| BitVec.ofInt 64 (b : Int)).toNat : Int) = _
  rw [BitVec.toNat_or, ofInt_small a (by omega), ofInt_small b (by omega), IntKind.wrap_i64]
  omega
/-- the rows above s hold what is lost at least behind their sets -/
def Done (c : Nat → Nat → Int) (n : Nat) (rows : List (List Int)) (s : Int) : Prop :=
  ∀ S : Nat, s < S → 0 < S → S < 2 ^ n → ∃ r, rows[S]? = some r ∧ r.length = n ∧ ∀ l, l < n → S.testBit l = true → r[l]? = some (behind c n S l)
section
variable {c : Nat → Nat → Int} {n : Nat} {rows : List (List Int)} {s : Int}
theorem Done.set (h : Done c n rows s) {S : Nat} (hS : (S : Int) ≤ s) (r : List Int) : Done c n (rows.set S r) s := fun S' h1 h0 h2 => by
  rw [List.getElem?_set_ne (by omega)]
  exact h S' h1 h0 h2
theorem Done.next {S : Nat} {r : List Int} (h : Done c n rows (S : Int)) (hr : rows[S]? = some r) (hl : r.length = n) (hv : ∀ l, l < n → S.testBit l = true → r[l]? = some (behind c n S l)) : Done c n rows ((S : Int) - 1) := fun S' h1 h0 h2 => by
  by_cases e : S' = S
  · subst e; exact ⟨r, hr, hl, hv⟩
  · exact h S' (by omega) h0 h2
theorem Done.start : Done c n rows ((2 ^ n : Nat) - 1 : Int) := fun S h1 h0 h2 => by omega
theorem behind_full (hn : n ≤ 6) (l : Nat) : behind c n (2 ^ n - 1) l = 0 := by
  have h2 := two_pow_le hn
  rw [behind_val hn (by omega), valOf_none (fun j hj => by simp [freeB, set_full' n (by omega) j hj])]
theorem zeros_get {k l : Nat} (h : l < k) : (List.replicate k (0 : Int))[l]? = some 0 := by simp [h]
theorem cntFree_le (S : Nat) : ∀ k, cntFree S k ≤ k := by
  intro k
  induction k with
  | zero => exact Nat.le_refl _
  | succ k ih => rw [cntFree]; split <;> omega
theorem behind_small (hn : n ≤ 6) (hc : ∀ i j, i < n → j < n → 0 ≤ c i j ∧ c i j ≤ 99) {S l : Nat} (hS : S < 2 ^ n) (hl : l < n) : 0 ≤ behind c n S l ∧ behind c n S l ≤ 600 := by
  have := behind_bounds hn hc _ S l hS hl rfl
  have := cntFree_le S n
  omega
/-- where something is free, there is a least -/
theorem mn_full (hn : n ≤ 6) {S k : Nat} (hS : S < 2 ^ n) (hne : S ≠ 2 ^ n - 1) : ∃ b, mnTo (freeB S) (fun j => c k j + behind c n (S ||| 2 ^ j) j) n = some b ∧ behind c n S k = b := by
  obtain ⟨j, hj⟩ := next_some (c := c) (l := some k) (S := S) (n := n) (by
    rcases Nat.eq_zero_or_pos (cntFree S n) with h0 | h0
    · exact absurd (set_full n (by omega) S hS h0) hne
    · exact h0)
  have e := behind_val (c := c) hn (S := S) (l := k) hS
  rw [valOf_next hj] at e
  refine ⟨_, ?_, e⟩
  rw [mnTo_am]
  unfold nextOf at hj
  simp only [cst] at hj
  rw [hj]; rfl
/-- one more at hand -/
theorem Done.at_ (hn : n ≤ 6) (h : Done c n rows s) {S j : Nat} (hs : s = (S : Int)) (hS : S < 2 ^ n) (hj : j < n) (hf : freeB S j = true) : (S ||| 2 ^ j) = S + 2 ^ j ∧ (S ||| 2 ^ j) < 2 ^ n ∧ 0 < 2 ^ j ∧ ∃ r, rows[S ||| 2 ^ j]? = some r ∧ r.length = n ∧ r[j]? = some (behind c n (S ||| 2 ^ j) j) := by
  obtain ⟨e1, e2, -, e4, e5⟩ := add_bit hn hS hj hf
  obtain ⟨r, h1, h2, h3⟩ := h (S ||| 2 ^ j) (by omega) (by omega) e2
  exact ⟨e1, e2, e5, r, h1, h2, h3 j hj (by rw [e4 j (by omega)]; simp)⟩
end
theorem mn_skip {free : Nat → Bool} {x : Nat → Int} {k : Nat} (h : free k = false) : mnTo free x (k + 1) = mnTo free x k := by rw [mnTo, h]; rfl
theorem mn_first {free : Nat → Bool} {x : Nat → Int} {k : Nat} (h : free k = true) (hm : mnTo free x k = none) : mnTo free x (k + 1) = some (x k) := by rw [mnTo, h, hm]; rfl
theorem mn_take {free : Nat → Bool} {x : Nat → Int} {k : Nat} {b : Int} (h : free k = true) (hm : mnTo free x k = some b) (hx : x k < b) : mnTo free x (k + 1) = some (x k) := by rw [mnTo, h, hm]; simp [hx]
theorem mn_keep {free : Nat → Bool} {x : Nat → Int} {k : Nat} {b : Int} (h : free k = true) (hm : mnTo free x k = some b) (hx : ¬ x k < b) : mnTo free x (k + 1) = some b := by rw [mnTo, h, hm]; simp [hx]
theorem madeS (n : Nat) : (madeCells (Value.slice none 0 0).cells (n * 1)).toList = List.replicate n (.slice none 0 0) := by
  rw [Nat.mul_one]
  exact toList_madeCells_one (.slice none 0 0) n
/-- a table that was just made: no row has anything -/
theorem Tab.made {w : World} {base N : Nat} {T E : TypeId} {v : Value} (h : w.ownsRow base T 1 v N (List.replicate N (.slice none 0 0))) : Tab w base T E v N (List.replicate N (.slice none 0 0)) (List.replicate N []) :=
  ⟨h, by simp, fun j u r hu hr => by
    obtain ⟨_, e1⟩ := List.getElem?_eq_some_iff.1 hu
    obtain ⟨_, e2⟩ := List.getElem?_eq_some_iff.1 hr
    simp at e1 e2
    subst e1 e2
    exact World.ownsRow_nil _ _ _ _, fun i j u u' _ hu hu' a ha => by
    obtain ⟨_, e1⟩ := List.getElem?_eq_some_iff.1 hu
    simp at e1
    subst e1
    simp [Value.ownBlock] at ha⟩
/-- all blocks of a table lie below -/
theorem Tab.lt {w : World} {base N : Nat} {T E : TypeId} {v : Value} {vs : List Value} {rows : List (List Int)} (h : Tab w base T E v N vs rows) {i a : Nat} {u : Value} (hu : vs[i]? = some u) (ha : u.ownBlock = some a) : base ≤ a ∧ a < w.heap.size := by
  have hj : i < N := by rw [← h.vlen]; exact (List.getElem?_eq_some_iff.1 hu).1
  obtain ⟨u', r, hu', hr⟩ := h.get hj
  exact (h.row i u r hu hr).lt a ha
theorem Tab.apartNew {w : World} {base N g n c : Nat} {T E : TypeId} {v : Value} {vs : List Value} {rows : List (List Int)} (h : Tab w base T E v N vs rows) (hg : w.heap.size ≤ g) : ∀ (i : Nat) (u' : Value), vs[i]? = some u' → ApartV u' (.slice (some ⟨g, 0, none⟩) n c) := fun i u' hu' a ha hb => by
  have h1 := (h.lt hu' ha).2
  simp [Value.ownBlock] at hb
  omega
/-- read in a world in which the blocks from the base on are as they were -/
theorem Tab.far {w w2 : World} {base N c : Nat} {T E : TypeId} {A : Option Addr} {vs : List Value} {rows : List (List Int)} (h : Tab w base T E (.slice A N c) N vs rows) (hf : ∀ k, base ≤ k → k < w.heap.size → w2.heap[k]? = w.heap[k]?) : RdR w2 w.heap.size A rows := fun j r hr => by
  have hj : j < N := by have := (List.getElem?_eq_some_iff.1 hr).1; rw [h.len] at this; exact this
  obtain ⟨u, r', hu, hr'⟩ := h.get hj
  obtain rfl : r' = r := by rw [hr] at hr'; injection hr' with hr'; exact hr'.symm
  obtain ⟨A1, c1, rfl⟩ := h.form hu hr
  have own := h.row j _ r' hu hr
  rcases h.own.2 with ⟨hv, h0⟩ | ⟨g, cap, cur, hv, hb, hg, _⟩
  · omega
  · injection hv with hA _ _
    subst hA
    have hl := (h.own.lt g rfl).2
    refine ⟨g, 0, rfl, hl, A1, c1, ?_, fun i x hx => ?_⟩
    · rw [Nat.zero_add, World.cell?_of_block (hf g hb hl)]
      exact h.cell rfl hu
    · rcases own.2 with ⟨hv, h0⟩ | ⟨g', cap', cur', hv, hb', hg', _⟩
      · have := (List.getElem?_eq_some_iff.1 hx).1; omega
      · injection hv with hA' _ hC'
        subst hA' hC'
        have hl' := (own.lt g' rfl).2
        refine ⟨g', 0, rfl, hl', ?_⟩
        rw [Nat.zero_add, World.cell?_of_block (hf g' hb' hl')]
        exact own_cellT own hx
/-- a row of the table, and a cell of it -/
theorem Tab.at_ {w : World} {base N g c : Nat} {T E : TypeId} {vs : List Value} {rows : List (List Int)} (h : Tab w base T E (.slice (some ⟨g, 0, none⟩) N c) N vs rows) {S n j : Nat} {r : List Int} {x : Int} (hr : rows[S]? = some r) (hl : r.length = n) (hx : r[j]? = some x) :
    ∃ (gs cs : Nat), vs[S]? = some (.slice (some ⟨gs, 0, none⟩) n cs) ∧ w.cell? ⟨g, S, none⟩ = some (.slice (some ⟨gs, 0, none⟩) n cs) ∧ w.cell? ⟨gs, j, none⟩ = some (.int .i64 x) ∧ w.frozen? ⟨gs, j, none⟩ = false ∧ base ≤ gs ∧ gs < w.heap.size ∧ w.ownsRow base E 1 (.slice (some ⟨gs, 0, none⟩) n cs) n (intsV .i64 r) := by
  subst hl
  have hj : S < N := by have := (List.getElem?_eq_some_iff.1 hr).1; rw [h.len] at this; exact this
  obtain ⟨u, r', hu, hr'⟩ := h.get hj
  obtain rfl : r' = r := by rw [hr] at hr'; injection hr' with hr'; exact hr'.symm
  have own := h.row S u r' hu hr
  have hpos := (List.getElem?_eq_some_iff.1 hx).1
  rcases own.2 with ⟨hv, h0⟩ | ⟨gs, cap, cur, hv, hb, hg, _⟩
  · omega
  · subst hv
    exact ⟨gs, cap, hu, h.cell rfl hu, own_cellT own hx, own.frozenAt j, hb, (own.lt gs rfl).2, own⟩
theorem bit_zero {S k : Nat} (h : S.testBit k = false) : bitI (S : Int) k = 0 := by
  rcases bitI_01 (S : Int) k with h0 | h1
  · exact h0
  · have := bitI_one.1 h1; unfold bitsOf at this; rw [h] at this; cases this
theorem bit_one {S k : Nat} (h : S.testBit k = true) : bitI (S : Int) k = 1 := bitI_one.2 h
end Go.Proofs.YtblbfgoifaddiaaDoor
namespace Go.Proofs.YtblbfgoifaddiaaDoor
open Go.RowKit
set_option linter.unusedVariables false
set_option linter.unusedSimpArgs false
def BehTab (cf : Nat → Nat → Int) (n : Nat) (w : World) (e : Ending) (w' : World) : Prop :=
  ∃ (A : Option Addr) (c : Nat) (T : List (List Int)), e = .returned (.slice A (2 ^ n) c) ∧ T.length = 2 ^ n ∧ Done cf n T 0 ∧ (∀ w2 : World, (∀ k, w.heap.size ≤ k → k < w'.heap.size → w2.heap[k]? = w'.heap[k]?) → RdR w2 w'.heap.size A T) ∧ Below w.heap.size w w'
set_option maxRecDepth 100000 in
set_option maxHeartbeats 4000000 in
theorem implBehind_any (A : Option Addr) (n c : Nat) (L : List (Int × Int × Int)) (A2 : Option Addr) (n2 c2 : Nat) (rows : List (List Int)) (w : World)
    (hl : L.length = n) (hr : RdT w w.heap.size A L) (hl2 : rows.length = n2) (hr2 : RdR w w.heap.size A2 rows) (h1 : heatsOk L = true) (h2 : lostOk rows = true) :
    Calls Tryd.prog 44 #[.slice A n c, .slice A2 n2 c2] w (BehTab (costF L rows) n w) := by
  obtain ⟨i0, hi, hz0, hz1, hz2⟩ := info_parts info_int
  obtain ⟨i1, hj, hy0, hy1, hy2⟩ := info_parts info_Row
  have HL := Lib.hid hl
  have H1 := Lib.hid h1
  have H2 := Lib.hid h2
  have n6 := (heatsOk_facts h1).1
  rw [hl] at n6
  have r4 := (lostOk_facts h2).1
  rw [hl2] at r4
  subst r4
  have hcb : ∀ i j, i < n → j < n → 0 ≤ costF L rows i j ∧ costF L rows i j ≤ 99 := fun i j a b => costF_bounds h1 h2 i j (by omega) (by omega)
  have HCB := Lib.hid hcb
  clear hl hl2 h1 h2 hcb
  obtain ⟨N, hN⟩ : ∃ N, 2 ^ n = N := ⟨_, rfl⟩
  have hp : ((2 : Int) ^ n) = (N : Int) := by rw [pow2_nat, hN]
  have hN1 : N ≤ 64 ∧ 0 < N := by
    have := two_pow_le n6
    rw [hN] at this; exact this
  obtain ⟨hN2, hN1⟩ := hN1
  have HN := Lib.hid hN
  clear hN
  go_enter Tryd.func44, Tryd.ntmps44
  go_wp2_with (at_make; go_must (refine wpList_make_full _ rfl _ _ 37 rfl w.heap.size 26 i1 _ 1 Tryd.underlying37 hj hy0 hy1 .i64 .i64 _ _ N rfl rfl (by go_num) (by go_num) (by rw [hy2]; omega) (by unfold maxLen; omega) (Nat.le_refl _) ?_); intro w1 hown1 hgr1)
  rw [madeS] at hown1
  have tab1 := Tab.made (E := 3) hown1
  have t1 : Below w.heap.size w w1 := (Below.refl _ _).grown hgr1 (Nat.le_refl _) (by simp)
  have hd0 : Done (costF L rows) n (List.replicate N []) ((N : Int) - 1) := by rw [← HN.out]; exact Done.start
  have hG1 := (hown1.lt _ rfl).2
  clear hgr1 hown1 hp
  have hgg : w.heap.size = w.heap.size := rfl
  generalize hg : w.heap.size = g at *
  have HG := Lib.hid hg
  clear hg hgg
  go_loopw [7] (fun v wr => ∃ (s : Int) (vs : List Value) (T : List (List Int)), v = .int .i64 s ∧ 0 ≤ s ∧ s < N ∧ Tab wr g 26 3 (.slice (some ⟨g, 0, none⟩) N N) N vs T ∧ Done (costF L rows) n T s ∧ g < wr.heap.size ∧ Below g w wr) (fun v _ => (intOf v).toNat)
  case atStart => exact ⟨_, _, _, rfl, by omega, by omega, tab1, hd0, hG1, t1⟩
  case round =>
    clear tab1 hd0 t1 hG1
    obtain ⟨s, vs, T, rfl, hs0, hsN, tab, hd, hG, hbel⟩ := hrel
    by_cases hlt : 0 < s
    · obtain ⟨S, rfl⟩ := Int.eq_ofNat_of_zero_le hs0
      have hSN : S < N := by omega
      have hTl := tab.len
      have hVl := tab.vlen
      have TAB := Lib.hid tab
      have HD := Lib.hid hd
      have BEL := Lib.hid hbel
      have e0 : ∃ u, wr.cell? ⟨g, S, none⟩ = some u := by
        obtain ⟨u, r, hu, -⟩ := tab.get (j := S) hSN
        exact ⟨u, tab.cell rfl hu⟩
      clear tab hd hbel
      by_cases hSa : S = N - 1
      · have D0 : ((S : Int) == (N : Int) - 1) = true := by simp; omega
        have HZ : Hid (∀ l, l < n → S.testBit l = true → (List.replicate n (0 : Int))[l]? = some (behind (costF L rows) n S l)) := Lib.hid (fun l hl _ => by rw [hSa, ← HN.out, behind_full n6, zeros_get hl])
        clear hSa
        go_wp2_with (at_make; go_must (refine wpList_make_full _ rfl _ _ 26 rfl wr.heap.size 3 i0 _ 1 Tryd.underlying26 hi hz0 hz1 .i64 .i64 _ _ n rfl rfl (by go_num) (by go_num) (by rw [hz2]; omega) (by unfold maxLen; omega) (Nat.le_refl _) ?_); intro w4 hown4 hgr4; have b4 : Below wr.heap.size wr w4 := (Below.refl _ _).grown hgr4 (Nat.le_refl _) (by simp); have tab4 := TAB.out.next b4; have f4 := tab4.own.frozenAt S; obtain ⟨u4, c4⟩ : ∃ u, w4.cell? ⟨g, S, none⟩ = some u := e0.imp (fun u hu => (b4.cell hG).trans hu); have hz4 : wr.heap.size < w4.heap.size := (hown4.lt _ rfl).2)
        rw [madeI] at hown4
        have tabS := tab4.setRow tagTE (j := S) (r := List.replicate n 0) (by rw [List.length_replicate]; exact own_lower hown4 (Nat.le_of_lt hG)) (TAB.out.apartNew (Nat.le_refl _))
        have hbS : Below g w (w4.setCell ⟨g, S, none⟩ (.slice (some ⟨wr.heap.size, 0, none⟩) n n)) := ((BEL.out.trans (b4.mono (Nat.le_of_lt hG))).setCell (p := ⟨g, S, none⟩) (Nat.le_refl _) _)
        have hTS : (T.set S (List.replicate n 0))[S]? = some (List.replicate n 0) := List.getElem?_set_self (by rw [hTl]; exact hSN)
        have hdS : Done (costF L rows) n (T.set S (List.replicate n 0)) (S : Int) := HD.out.set (Int.le_refl _) _
        go_roundw
        case rel => exact ⟨(S : Int) - 1, _, _, rfl, by omega, by omega, tabS, hdS.next hTS (by simp) HZ.out, by simp; omega, hbS⟩
        case measure => simp [intOf] <;> omega
      · have D0 : ((S : Int) == (N : Int) - 1) = false := by rw [beq_eq_false_iff_ne]; omega
        have HSA : Hid (S ≠ 2 ^ n - 1) := Lib.hid (by rw [HN.out]; exact hSa)
        have HSN : Hid (S < 2 ^ n) := Lib.hid (by rw [HN.out]; exact hSN)
        go_wp2_with (at_make; go_must (refine wpList_make_full _ rfl _ _ 26 rfl wr.heap.size 3 i0 _ 1 Tryd.underlying26 hi hz0 hz1 .i64 .i64 _ _ n rfl rfl (by go_num) (by go_num) (by rw [hz2]; omega) (by unfold maxLen; omega) (Nat.le_refl _) ?_); intro w4 hown4 hgr4; have b4 : Below wr.heap.size wr w4 := (Below.refl _ _).grown hgr4 (Nat.le_refl _) (by simp); have tab4 := TAB.out.next b4; have f4 := tab4.own.frozenAt S; obtain ⟨u4, c4⟩ : ∃ u, w4.cell? ⟨g, S, none⟩ = some u := e0.imp (fun u hu => (b4.cell hG).trans hu); have hz4 : wr.heap.size < w4.heap.size := (hown4.lt _ rfl).2)
        rw [madeI] at hown4
        have tabS := tab4.setRow tagTE (j := S) (r := List.replicate n 0) (by rw [List.length_replicate]; exact own_lower hown4 (Nat.le_of_lt hG)) (TAB.out.apartNew (Nat.le_refl _))
        have hbS : Below g w (w4.setCell ⟨g, S, none⟩ (.slice (some ⟨wr.heap.size, 0, none⟩) n n)) := ((BEL.out.trans (b4.mono (Nat.le_of_lt hG))).setCell (p := ⟨g, S, none⟩) (Nat.le_refl _) _)
        have hTS : (T.set S (List.replicate n 0))[S]? = some (List.replicate n 0) := List.getElem?_set_self (by rw [hTl]; exact hSN)
        have hdS : Done (costF L rows) n (T.set S (List.replicate n 0)) (S : Int) := HD.out.set (Int.le_refl _) _
        have hGS : g < (w4.setCell ⟨g, S, none⟩ (.slice (some ⟨wr.heap.size, 0, none⟩) n n)).heap.size := by simp; omega
        clear tab4 f4 c4 hown4 hgr4 hz4 b4 e0 hSa
        generalize w4.setCell ⟨g, S, none⟩ (.slice (some ⟨wr.heap.size, 0, none⟩) n n) = wB at *
        generalize vs.set S (.slice (some ⟨wr.heap.size, 0, none⟩) n n) = vs2 at *
        generalize T.set S (List.replicate n 0) = TS at *
        have hrl : (List.replicate n (0 : Int)).length = n := by simp
        generalize List.replicate n (0 : Int) = r0 at *
        clear TAB HD BEL hTl hVl hG
        generalize wr.heap.size = Bc at *
        clear wr w4
        go_loopw [35] (fun v wr => ∃ (k : Nat) (T2 : List (List Int)) (r : List Int), k ≤ n ∧ v = .int .i64 k ∧ Tab wr g 26 3 (.slice (some ⟨g, 0, none⟩) N N) N vs2 T2 ∧ Done (costF L rows) n T2 S ∧ T2[S]? = some r ∧ r.length = n ∧ (∀ l, l < k → S.testBit l = true → r[l]? = some (behind (costF L rows) n S l)) ∧ g < wr.heap.size ∧ Below g w wr) (fun v _ => n - (intOf v).toNat)
        case atStart => exact ⟨0, TS, r0, Nat.zero_le _, rfl, tabS, hdS, hTS, hrl, (fun l hl => absurd hl (Nat.not_lt_zero _)), hGS, hbS⟩
        case round =>
          clear tabS hdS hTS hrl hGS hbS
          obtain ⟨k, T2, r, hk, rfl, tab2, hd2, hTS, hrl, hv, hG, hbel⟩ := hrel
          have TAB2 := Lib.hid tab2
          have HD2 := Lib.hid hd2
          have HTS := Lib.hid hTS
          have HV := Lib.hid hv
          have HRL := Lib.hid hrl
          clear tab2 hd2 hTS hv hrl
          by_cases hltk : k < n
          · cases hb : S.testBit k
            · have d1 : (bits .and .i64 ((S : Int) / 2 ^ k) 1 == 0) = true := by rw [and1_bit, bit_zero hb]; rfl
              have HB := Lib.hid hb
              go_wp2
              go_roundw
              case rel => exact ⟨k + 1, T2, r, by omega, by go_num, TAB2.out, HD2.out, HTS.out, HRL.out, (fun l hl hbl => by
                by_cases e : l = k
                · subst e; rw [HB.out] at hbl; cases hbl
                · exact HV.out l (by omega) hbl), hG, hbel⟩
              case measure => simp [intOf] <;> omega
            · have d1 : (bits .and .i64 ((S : Int) / 2 ^ k) 1 == 0) = false := by rw [and1_bit, bit_one hb]; rfl
              clear hb
              go_wp2_with (fail)
              go_loopw [9, 45] (fun f v wr => ∃ (j : Nat) (T3 : List (List Int)) (r3 : List Int), j ≤ n ∧ v = .int .i64 j ∧ Tab wr g 26 3 (.slice (some ⟨g, 0, none⟩) N N) N vs2 T3 ∧ Done (costF L rows) n T3 S ∧ T3[S]? = some r3 ∧ r3.length = n ∧ (∀ l, l < k → S.testBit l = true → r3[l]? = some (behind (costF L rows) n S l)) ∧ f = .bool (mnTo (freeB S) (fun j => costF L rows k j + behind (costF L rows) n (S ||| 2 ^ j) j) j).isSome ∧ (∀ b, mnTo (freeB S) (fun j => costF L rows k j + behind (costF L rows) n (S ||| 2 ^ j) j) j = some b → r3[k]? = some b) ∧ g < wr.heap.size ∧ Below g w wr) (fun _ v _ => n - (intOf v).toNat)
              case atStart => exact ⟨0, T2, r, Nat.zero_le _, rfl, TAB2.out, HD2.out, HTS.out, HRL.out, HV.out, rfl, (fun b hb => by cases hb), hG, hbel⟩
              case round =>
                clear TAB2 HD2 HTS HRL HV hG hbel d1
                obtain ⟨j, T3, r3, hj, rfl, tab3, hd3, hTS, hrl, hv, rfl, hm, hG, hbel⟩ := hrel
                have HD3 := Lib.hid hd3
                have HTS := Lib.hid hTS
                have HV := Lib.hid hv
                have HRL := Lib.hid hrl
                have HM := Lib.hid hm
                have TAB3 := Lib.hid tab3
                have BEL3 := Lib.hid hbel
                clear hv hm
                by_cases hltj : j < n
                · cases hbj : S.testBit j
                  · have hfj : freeB S j = true := by simp [freeB, hbj]
                    have hK2 : ((2 : Int) ^ j) = ((2 ^ j : Nat) : Int) := pow2_nat j
                    have d1 : (bits .and .i64 ((S : Int) / 2 ^ j) 1 == 1) = false := by rw [and1_bit, bit_zero hbj]; rfl
                    obtain ⟨e1, e2, e5, r2, hr2S, hr2l, hr2j⟩ := hd3.at_ n6 rfl HSN.out hltj hfj
                    obtain ⟨gs2, cs2, -, p1, p2, -, -, -, -⟩ := tab3.at_ hr2S hr2l hr2j
                    obtain ⟨y, hy⟩ : ∃ y, r3[k]? = some y := ⟨_, List.getElem?_eq_getElem (by omega)⟩
                    obtain ⟨gs, cs, hvsS, p3, p4, p5, p7, p6, -⟩ := tab3.at_ hTS hrl hy
                    have GS := Lib.hid p7
                    obtain ⟨z0, z1⟩ := behind_small n6 HCB.out (S := S ||| 2 ^ j) (l := j) e2 hltj
                    obtain ⟨d2, f1, d3, f2, d4, f3, g3, ki, kj, rfl, rfl, q1, q2, q3, q4, q5, q6, q7, q8, q9, v0, v1⟩ := cost_at H1.out H2.out hr hr2 (i := k) (j := j) (by rw [HL.out]; omega) (by rw [HL.out]; omega)
                    rw [← hbel.cell (by assumption)] at q6 q7 q8 q9
                    rw [HN.out] at e2
                    have hK64 : 2 ^ j < 64 := by omega
                    have hor : bits .or .i64 (S : Int) ((2 ^ j : Nat) : Int) = ((S ||| 2 ^ j : Nat) : Int) := i64_or_nat _ _ (by omega) (by omega)
                    have HFJ := Lib.hid hfj
                    have HVS := Lib.hid hvsS
                    have HY := Lib.hid hy
                    have HXQ : Hid ((fun j => costF L rows k j + behind (costF L rows) n (S ||| 2 ^ j) j) j = costF L rows k j + behind (costF L rows) n (S ||| 2 ^ j) j) := Lib.hid rfl
                    have iK : (0 : Int) ≤ (ki : Int) := by omega
                    have jK : (0 : Int) ≤ (kj : Int) := by omega
                    have ki4 : (ki : Int) < 4 := by omega
                    have kj4 : (kj : Int) < 4 := by omega
                    rw [hK2] at d1
                    clear tab3 hd3 hTS hrl hfj hvsS hbj hr2S hr2l hr2j hr hr2 e1 e5
                    generalize hx : (fun j => costF L rows k j + behind (costF L rows) n (S ||| 2 ^ j) j) = X at *
                    have HX := Lib.hid hx
                    clear hx
                    generalize costF L rows k j = cv at *
                    generalize behind (costF L rows) n (S ||| 2 ^ j) j = bv at *
                    generalize S ||| 2 ^ j = S2 at *
                    generalize 2 ^ j = K2 at *
                    cases hmn : mnTo (freeB S) X j with
                    | none =>
                      have HN2 : Hid (mnTo (freeB S) X (j + 1) = some (cv + bv)) := Lib.hid (by rw [mn_first HFJ.out hmn, HXQ.out])
                      clear hmn
                      go_wp2_with (fail)
                      go_quiet (fail)
                      go_wp2
                      go_roundw
                      case rel => exact ⟨j + 1, T3.set S (r3.set k (cv + bv)), r3.set k (cv + bv), by omega, by go_num, (TAB3.out.drewN _).put tagTE HVS.out HTS.out k (cv + bv), HD3.out.set (Int.le_refl _) _, List.getElem?_set_self (List.getElem?_eq_some_iff.1 HTS.out).1, by rw [List.length_set]; exact HRL.out, (fun l hl hbl => by rw [List.getElem?_set_ne (by omega)]; exact HV.out l hl hbl), by rw [HN2.out]; rfl, (fun b hb => by rw [HN2.out] at hb; injection hb with hb; subst hb; exact List.getElem?_set_self (List.getElem?_eq_some_iff.1 HY.out).1), by simp; omega, (below_drawn BEL3.out _).setCell (p := ⟨gs, k, none⟩) (by simpa using GS.out) _⟩
                      case measure => simp [intOf] <;> omega
                    | some b =>
                      obtain rfl : y = b := by
                        have := HM.out b hmn
                        rw [HY.out] at this
                        injection this
                      by_cases hxb : cv + bv < y
                      · have HN2 : Hid (mnTo (freeB S) X (j + 1) = some (cv + bv)) := Lib.hid (by rw [mn_take HFJ.out hmn (by rw [HXQ.out]; exact hxb), HXQ.out])
                        clear hmn
                        go_wp2_with (fail)
                        go_quiet (fail)
                        go_wp2
                        go_roundw
                        case rel => exact ⟨j + 1, T3.set S (r3.set k (cv + bv)), r3.set k (cv + bv), by omega, by go_num, (TAB3.out.drewN _).put tagTE HVS.out HTS.out k (cv + bv), HD3.out.set (Int.le_refl _) _, List.getElem?_set_self (List.getElem?_eq_some_iff.1 HTS.out).1, by rw [List.length_set]; exact HRL.out, (fun l hl hbl => by rw [List.getElem?_set_ne (by omega)]; exact HV.out l hl hbl), by rw [HN2.out]; rfl, (fun b hb => by rw [HN2.out] at hb; injection hb with hb; subst hb; exact List.getElem?_set_self (List.getElem?_eq_some_iff.1 HY.out).1), by simp; omega, (below_drawn BEL3.out _).setCell (p := ⟨gs, k, none⟩) (by simpa using GS.out) _⟩
                        case measure => simp [intOf] <;> omega
                      · have HN2 : Hid (mnTo (freeB S) X (j + 1) = some y) := Lib.hid (by rw [mn_keep HFJ.out hmn (by rw [HXQ.out]; exact hxb)])
                        clear hmn
                        go_wp2_with (fail)
                        go_quiet (fail)
                        go_wp2
                        go_roundw
                        case rel => exact ⟨j + 1, T3, r3, by omega, by go_num, TAB3.out.drewN _, HD3.out, HTS.out, HRL.out, HV.out, by rw [HN2.out]; rfl, (fun b hb => by rw [HN2.out] at hb; injection hb with hb; subst hb; exact HY.out), hG, below_drawn BEL3.out _⟩
                        case measure => simp [intOf] <;> omega
                  · have d1 : (bits .and .i64 ((S : Int) / 2 ^ j) 1 == 1) = true := by rw [and1_bit, bit_one hbj]; rfl
                    have HFJ : Hid (freeB S j = false) := Lib.hid (by simp [freeB, hbj])
                    clear hbj hd3 hTS hrl tab3 hbel
                    go_wp2_with (fail)
                    go_roundw
                    case rel => exact ⟨j + 1, T3, r3, by omega, by go_num, TAB3.out, HD3.out, HTS.out, HRL.out, HV.out, by rw [mn_skip HFJ.out], (fun b hb => HM.out b (by rw [← mn_skip HFJ.out]; exact hb)), hG, BEL3.out⟩
                    case measure => simp [intOf] <;> omega
                · obtain rfl : j = n := by omega
                  clear hd3 hTS hrl tab3 hbel
                  go_wp2
                  go_roundw
                  case rel =>
                    obtain ⟨b, hb1, hb2⟩ := mn_full (c := costF L rows) n6 (k := k) HSN.out HSA.out
                    have hb3 := HM.out b hb1
                    exact ⟨k + 1, T3, r3, by omega, by go_num, TAB3.out, HD3.out, HTS.out, HRL.out, (fun l hl hbl => by
                      by_cases e : l = k
                      · subst e; rw [hb3, hb2]
                      · exact HV.out l (by omega) hbl), hG, BEL3.out⟩
                  case measure => simp [intOf] <;> omega
          · obtain rfl : k = n := by omega
            go_wp2
            go_roundw
            case rel => exact ⟨(S : Int) - 1, vs2, T2, rfl, by omega, by omega, TAB2.out, HD2.out.next HTS.out HRL.out HV.out, hG, hbel⟩
            case measure => simp [intOf] <;> omega
    · have HDF := Lib.hid hd
      have TAB := Lib.hid tab
      obtain rfl : s = 0 := by omega
      clear tab hd
      go_wp2
      go_ret
      exact ⟨some ⟨g, 0, none⟩, N, T, congrArg (fun q => Ending.returned (.slice (some ⟨g, 0, none⟩) q N)) HN.out.symm, by rw [TAB.out.len, HN.out], HDF.out, (fun w2 hf => TAB.out.far (by rw [← HG.out]; exact hf)), by rw [HG.out]; exact hbel⟩
end Go.Proofs.YtblbfgoifaddiaaDoor
