/- 'LeastLost' of the program: the walk. -/
/- The best order: what the walks of BestOrder keep. -/
/- 'BestOrder' of the program: the walk. -/
import Derived.Test.YtblbfgoifaddiaaDoorBehSpec
import Derived.Maps.AppendAt
namespace Go.Proofs.YtblbfgoifaddiaaDoor
open Go.RowKit
set_option linter.unusedVariables false
set_option linter.unusedSimpArgs false
def bestRow (L : List (Int × Int × Int)) (rows : List (List Int)) : List Int := if heatsOk L = true ∧ lostOk rows = true then castI (bestO (costF L rows) L.length) else []
theorem bestRow_1 {L : List (Int × Int × Int)} {rows : List (List Int)} (h : heatsOk L = false) : bestRow L rows = [] := by simp [bestRow, h]
theorem bestRow_2 {L : List (Int × Int × Int)} {rows : List (List Int)} (h : lostOk rows = false) : bestRow L rows = [] := by simp [bestRow, h]
theorem bestRow_3 {L : List (Int × Int × Int)} {rows : List (List Int)} (h : heatsOk L = true) (h2 : lostOk rows = true) : bestRow L rows = castI (bestO (costF L rows) L.length) := by simp [bestRow, h, h2]
theorem am_skip {free : Nat → Bool} {x : Nat → Int} {k : Nat} (h : free k = false) : amTo free x (k + 1) = amTo free x k := by rw [amTo, h]; rfl
theorem am_first {free : Nat → Bool} {x : Nat → Int} {k : Nat} (h : free k = true) (hm : amTo free x k = none) : amTo free x (k + 1) = some k := by rw [amTo, h, hm]; rfl
theorem am_take {free : Nat → Bool} {x : Nat → Int} {k b : Nat} (h : free k = true) (hm : amTo free x k = some b) (hx : x k < x b) : amTo free x (k + 1) = some k := by rw [amTo, h, hm]; simp [hx]
theorem am_keep {free : Nat → Bool} {x : Nat → Int} {k b : Nat} (h : free k = true) (hm : amTo free x k = some b) (hx : ¬ x k < x b) : amTo free x (k + 1) = some b := by rw [amTo, h, hm]; simp [hx]
/-- what is lost at least if j is the next one -/
def stepX (c : Nat → Nat → Int) (n : Nat) (l : Option Nat) (S j : Nat) : Int := cst c l j + behind c n (S ||| 2 ^ j) j
theorem next_am {c : Nat → Nat → Int} {n S b : Nat} {l : Option Nat} (h : nextOf c n l S = some b) : amTo (freeB S) (stepX c n l S) n = some b := h
/-- what the two slots say: the best so far, and what it loses -/
def BestIs (c : Nat → Nat → Int) (n : Nat) (l : Option Nat) (S j : Nat) (u x : Int) : Prop := match amTo (freeB S) (stepX c n l S) j with
  | none => u = -1 ∧ x = 0
  | some b => u = (b : Int) ∧ x = stepX c n l S b
section
variable {c : Nat → Nat → Int} {n S j : Nat} {l : Option Nat} {u x y : Int}
theorem BestIs.start : BestIs c n l S 0 (-1) 0 := ⟨rfl, rfl⟩
theorem BestIs.skip (h : BestIs c n l S j u x) (hf : freeB S j = false) : BestIs c n l S (j + 1) u x := by
  unfold BestIs at h ⊢
  rw [am_skip hf]; exact h
theorem BestIs.cases (h : BestIs c n l S j u x) : u = -1 ∧ x = 0 ∧ amTo (freeB S) (stepX c n l S) j = none ∨ ∃ b : Nat, u = (b : Int) ∧ x = stepX c n l S b ∧ amTo (freeB S) (stepX c n l S) j = some b := by
  unfold BestIs at h
  cases hm : amTo (freeB S) (stepX c n l S) j with
  | none => rw [hm] at h; exact .inl ⟨h.1, h.2, rfl⟩
  | some b => rw [hm] at h; exact .inr ⟨b, h.1, h.2, rfl⟩
/-- the next one is taken: none was there, or it loses less -/
theorem BestIs.take (h : BestIs c n l S j u x) (hf : freeB S j = true) (hy : y = stepX c n l S j) (hx : u < 0 ∨ y < x) : BestIs c n l S (j + 1) (j : Int) y := by
  rcases h.cases with ⟨h1, h2, h3⟩ | ⟨b, h1, h2, h3⟩
  · unfold BestIs; rw [am_first hf h3]; exact ⟨rfl, hy⟩
  · unfold BestIs; rw [am_take hf h3 (by omega)]; exact ⟨rfl, hy⟩
theorem BestIs.keep (h : BestIs c n l S j u x) (hf : freeB S j = true) (hy : y = stepX c n l S j) (hu : ¬ u < 0) (hx : ¬ y < x) : BestIs c n l S (j + 1) u x := by
  rcases h.cases with ⟨h1, h2, h3⟩ | ⟨b, h1, h2, h3⟩
  · omega
  · unfold BestIs; rw [am_keep hf h3 (by omega)]; exact ⟨h1, h2⟩
theorem BestIs.fin {b : Nat} (h : BestIs c n l S n u x) (hb : nextOf c n l S = some b) : u = (b : Int) := by
  rcases h.cases with ⟨h1, h2, h3⟩ | ⟨b', h1, h2, h3⟩
  · rw [next_am hb] at h3; cases h3
  · rw [next_am hb] at h3; injection h3 with h3; subst h3; exact h1
end
/-- what the loop keeps: the order so far, its set, its last -/
structure BoInv (c : Nat → Nat → Int) (n : Nat) (o : List Nat) (S : Nat) (l : Option Nat) (k : Nat) : Prop where
  eq : o ++ bo c n (n - k) S l = bestO c n
  len : o.length = k
  lt : S < 2 ^ n
  cnt : cntFree S n + k = n
  lastIs : k = 0 ∧ l = none ∨ ∃ q, l = some q ∧ 0 < k ∧ o[k - 1]? = some q ∧ q < n
section
variable {c : Nat → Nat → Int} {n S k : Nat} {o : List Nat} {l : Option Nat}
theorem BoInv.start (hn : n ≤ 6) : BoInv c n [] 0 none 0 :=
  ⟨rfl, rfl, (two_pow_le hn).2, by rw [(set_none n (by omega)).1]; rfl, .inl ⟨rfl, rfl⟩⟩
theorem BoInv.full (h : BoInv c n o S l k) (hn : n ≤ 6) : S = 2 ^ n - 1 ↔ k = n := by
  have hc := h.cnt
  constructor
  · intro e
    have := (set_none n (by omega)).2
    rw [← e] at this; omega
  · intro e
    exact set_full n (by omega) S h.lt (by omega)
theorem BoInv.fin (h : BoInv c n o S l k) (hk : k = n) : o = bestO c n := by
  have := h.eq
  subst hk
  rw [Nat.sub_self, bo, List.append_nil] at this
  exact this
theorem BoInv.next (h : BoInv c n o S l k) (hk : k < n) : ∃ b, nextOf c n l S = some b ∧ b < n ∧ freeB S b = true := by
  have hc := h.cnt
  obtain ⟨b, hb⟩ := next_some (c := c) (l := l) (S := S) (n := n) (by omega)
  exact ⟨b, hb, amTo_some hb⟩
theorem BoInv.step (h : BoInv c n o S l k) (hn : n ≤ 6) (hk : k < n) {b : Nat} (hb : nextOf c n l S = some b) : BoInv c n (o ++ [b]) (S ||| 2 ^ b) (some b) (k + 1) := by
  obtain ⟨hj, hf⟩ := amTo_some hb
  obtain ⟨e1, e2, e3, -, -⟩ := add_bit hn h.lt hj hf
  have hc := h.cnt
  refine ⟨?_, by rw [List.length_append, h.len]; rfl, e2, by omega, .inr ⟨b, rfl, by omega, ?_, hj⟩⟩
  · have := h.eq
    rw [show n - k = (n - (k + 1)) + 1 by omega, bo, hb] at this
    rw [List.append_assoc]
    exact this
  · rw [Nat.add_sub_cancel, ← h.len]; simp
theorem castI_get {q : Nat} (h : o[k]? = some q) : (castI o)[k]? = some (q : Int) := by simp [castI, h]
end
/-- where a table's number is read -/
theorem beh_at {c : Nat → Nat → Int} {n N B : Nat} {w : World} {A : Option Addr} {T : List (List Int)} (hd : Done c n T 0) (rd : RdR w B A T) (hN : 2 ^ n = N) {S j : Nat} (h0 : 0 < S) (hS : S < N) (hj : j < n) (hb : S.testBit j = true) :
    ∃ (b off b2 off2 c2 : Nat), A = some ⟨b, off, none⟩ ∧ w.cell? ⟨b, off + S, none⟩ = some (.slice (some ⟨b2, off2, none⟩) n c2) ∧ w.cell? ⟨b2, off2 + j, none⟩ = some (.int .i64 (behind c n S j)) := by
  obtain ⟨r, h1, h2, h3⟩ := hd S (by omega) h0 (by omega)
  obtain ⟨b, off, rfl, hb1, A', c', hc, rd2⟩ := rd S r h1
  obtain ⟨b2, off2, rfl, hb2, hc2⟩ := rd2 j _ (h3 j hj hb)
  rw [h2] at hc
  exact ⟨b, off, b2, off2, c', rfl, hc, hc2⟩
end Go.Proofs.YtblbfgoifaddiaaDoor
namespace Go.Proofs.YtblbfgoifaddiaaDoor
open Go.RowKit
set_option linter.unusedVariables false
set_option linter.unusedSimpArgs false
set_option maxRecDepth 100000 in
set_option maxHeartbeats 4000000 in
theorem implBest_any (A : Option Addr) (n c : Nat) (L : List (Int × Int × Int)) (A2 : Option Addr) (n2 c2 : Nat) (rows : List (List Int)) (w : World)
    (hl : L.length = n) (hr : RdT w w.heap.size A L) (hn : n ≤ 7) (hl2 : rows.length = n2) (hr2 : RdR w w.heap.size A2 rows) (hn2 : n2 ≤ 100) :
    Calls Tryd.prog 19 #[.slice A n c, .slice A2 n2 c2] w (IntsRow 3 (bestRow L rows) w) := by
  obtain ⟨i0, hi, hz0, hz1, hz2⟩ := info_parts info_int
  have HL := Lib.hid hl
  have HL2 := Lib.hid hl2
  clear hl hl2
  cases h1 : heatsOk L
  · have HE : Hid (bestRow L rows = []) := Lib.hid (bestRow_1 h1)
    go_enter Tryd.func19, Tryd.ntmps19
    go_wp2_with (fail)
    refine (implHeats_any _ _ _ L _ HL.out hr (by omega)).mono ?_
    rintro e w1 ⟨rfl, hb1⟩
    rw [h1]
    go_wp2
    go_ret
    rw [HE.out]
    exact IntsRow.nil hb1
  have H1 := Lib.hid h1
  cases h2 : lostOk rows
  · have HE : Hid (bestRow L rows = []) := Lib.hid (bestRow_2 h2)
    go_enter Tryd.func19, Tryd.ntmps19
    go_wp2_with (fail)
    refine (implHeats_any _ _ _ L _ HL.out hr (by omega)).mono ?_
    rintro e w1 ⟨rfl, hb1⟩
    rw [h1]
    have hr2' := hr2.up hb1 hb1.size
    go_wp2_with (fail)
    refine (implLost_any _ _ _ rows _ HL2.out hr2' (by omega)).mono ?_
    rintro e w2 ⟨rfl, hb2⟩
    rw [h2]
    have hb2' := below_next hb1 hb2
    go_wp2
    go_ret
    rw [HE.out]
    exact IntsRow.nil hb2'
  have H2 := Lib.hid h2
  have HE : Hid (bestRow L rows = castI (bestO (costF L rows) n)) := Lib.hid (by rw [bestRow_3 h1 h2, HL.out])
  have n6 := (heatsOk_facts h1).1
  rw [HL.out] at n6
  have r4 := (lostOk_facts h2).1
  rw [HL2.out] at r4
  subst r4
  have HCB : Hid (∀ i j, i < n → j < n → 0 ≤ costF L rows i j ∧ costF L rows i j ≤ 99) := Lib.hid (fun i j a b => costF_bounds h1 h2 i j (by have := HL.out; omega) (by have := HL.out; omega))
  obtain ⟨N, hN⟩ : ∃ N, 2 ^ n = N := ⟨_, rfl⟩
  have hp : ((2 : Int) ^ n) = (N : Int) := by rw [pow2_nat, hN]
  have hN1 : N ≤ 64 ∧ 0 < N := by
    have := two_pow_le n6
    rw [hN] at this; exact this
  obtain ⟨hN2, hN1⟩ := hN1
  have HN := Lib.hid hN
  go_enter Tryd.func19, Tryd.ntmps19
  go_wp2_with (fail)
  refine (implHeats_any _ _ _ L _ HL.out hr (by omega)).mono ?_
  rintro e w1 ⟨rfl, hb1⟩
  rw [h1]
  have hr2' := hr2.up hb1 hb1.size
  go_wp2_with (fail)
  refine (implLost_any _ _ _ rows _ HL2.out hr2' (by omega)).mono ?_
  rintro e w2 ⟨rfl, hb2⟩
  rw [h2]
  have hb2' := below_next hb1 hb2
  clear hr2' hb1 hb2
  have hrB := hr.up hb2' hb2'.size
  have hr2B := hr2.up hb2' hb2'.size
  clear h1 h2
  go_wp2_with (fail)
  refine (implBehind_any _ n _ L _ _ _ rows _ HL.out hrB HL2.out hr2B H1.out H2.out).mono ?_
  rintro e w3 ⟨A4, c4, T, rfl, hTl, hd, hrd, hb3⟩
  have hb := below_next hb2' hb3
  have hsz := hb.size
  rw [hN]
  have HD := Lib.hid hd
  have HRD : Hid (∀ w2 : World, Below w3.heap.size w3 w2 → RdR w2 w3.heap.size A4 T) := Lib.hid (fun w2' hb' => hrd w2' (fun k h1 h2 => hb'.block k h2))
  clear hTl hd hrd hrB hr2B hb3 hb2' hN
  go_wp2_with (at_make; go_must (refine wpList_make_own _ rfl _ _ 26 rfl w3.heap.size 3 i0 _ 1 Tryd.underlying26 hi hz0 hz1 .i64 .i64 _ n rfl rfl (by go_num) (by rw [hz2]; omega) (by unfold maxLen; omega) (Nat.le_refl _) ?_); intro w4 hown4 hgr4)
  have b4 : Below w3.heap.size w3 w4 := (Below.refl _ _).grown hgr4 (Nat.le_refl _) (by simp)
  have bw4 : Below w.heap.size w w4 := hb.trans (b4.mono hsz)
  have inv0 : BoInv (costF L rows) n [] 0 none 0 := BoInv.start n6
  clear hgr4 hb hp
  have hgg : w3.heap.size = w3.heap.size := rfl
  generalize hbc : w3.heap.size = Bc at *
  have HBC := Lib.hid hbc
  clear hbc
  go_loopw [7, 8] (fun u v wr => ∃ (k S c7 : Nat) (A7 : Nat) (o : List Nat) (l : Option Nat), k ≤ n ∧ v = .int .i64 S ∧ u = .slice (some ⟨A7, 0, none⟩) k c7 ∧ BoInv (costF L rows) n o S l k ∧ wr.ownsRow Bc 3 1 (.slice (some ⟨A7, 0, none⟩) k c7) k (intsV .i64 (castI o)) ∧ Below Bc w3 wr ∧ Below w.heap.size w wr) (fun _ v _ => N - (intOf v).toNat)
  case atStart => exact ⟨0, 0, n, Bc, [], none, Nat.zero_le _, rfl, rfl, inv0, hown4, b4, bw4⟩
  case round =>
    clear inv0 hown4 b4 bw4 hgg
    obtain ⟨k, S, c7, A7, o, l, hk, rfl, rfl, inv, own, bB, bw⟩ := hrel
    have hSN : S < N := by rw [← HN.out]; exact inv.lt
    have hfull := inv.full n6
    rw [HN.out] at hfull
    have INV := Lib.hid inv
    have OWN := Lib.hid own
    have BB := Lib.hid bB
    have BW := Lib.hid bw
    have hlen := inv.len
    have hszw := bw.size
    have hszB : Bc ≤ wr.heap.size := by rw [← HBC.out]; exact bB.size
    clear inv own bB bw
    by_cases hkn : k = n
    · have HF := Lib.hid (INV.out.fin hkn)
      have D0 : ((S : Int) == (N : Int) - 1) = true := by have := hfull.2 hkn; simp; omega
      clear hfull
      go_wp2
      go_ret
      rw [HE.out, ← HF.out]
      exact IntsRow.mk (by simp [castI]; exact hlen) hsz OWN.out BW.out
    · have hkl : k < n := by omega
      have D0 : ((S : Int) == (N : Int) - 1) = false := by
        rw [beq_eq_false_iff_ne]; intro e; exact hkn (hfull.1 (by omega))
      obtain ⟨b, hnx, hbn, hbf⟩ := INV.out.next hkl
      have HNX := Lib.hid hnx
      have HBF := Lib.hid hbf
      have HFULL := Lib.hid hfull
      have HKN := Lib.hid hkn
      have HSZ := Lib.hid hlen
      clear hfull hkn hnx hbf hlen
      go_wp2_with (fail)
      have D5 : ((S : Int) != (N : Int) - 1) = true := by rw [bne, D0]; rfl
      simp only [D5]
      have NOWB : wr.heap.size = wr.heap.size := rfl
      go_loopw [9, 10, 36] (fun u x v wr => ∃ (j : Nat) (ui xi : Int), j ≤ n ∧ v = .int .i64 j ∧ u = .int .i64 ui ∧ x = .int .i64 xi ∧ BestIs (costF L rows) n l S j ui xi ∧ wr.ownsRow Bc 3 1 (.slice (some ⟨A7, 0, none⟩) k c7) k (intsV .i64 (castI o)) ∧ Below Bc w3 wr ∧ Below w.heap.size w wr) (fun _ _ v _ => n - (intOf v).toNat)
      case atStart => exact ⟨0, -1, 0, Nat.zero_le _, rfl, rfl, rfl, BestIs.start, OWN.out, BB.out, BW.out⟩
      case round =>
        clear OWN BB BW NOWB
        obtain ⟨j, ui, xi, hj, rfl, rfl, rfl, hbi, own, bB, bw⟩ := hrel
        have HBI := Lib.hid hbi
        have OWN := Lib.hid own
        have BB := Lib.hid bB
        have BW := Lib.hid bw
        have hszw := bw.size
        have hszB : Bc ≤ wr.heap.size := by rw [← HBC.out]; exact bB.size
        by_cases hltj : j < n
        · cases hbj : S.testBit j
          · have hfj : freeB S j = true := by simp [freeB, hbj]
            have hK2 : ((2 : Int) ^ j) = ((2 ^ j : Nat) : Int) := pow2_nat j
            have d1 : (bits .and .i64 ((S : Int) / 2 ^ j) 1 == 1) = false := by rw [and1_bit, bit_zero hbj]; rfl
            obtain ⟨e1, e2, -, e4, e5⟩ := add_bit n6 (by rw [HN.out]; exact hSN) hltj hfj
            rw [HN.out] at e2
            obtain ⟨z0, z1⟩ := behind_small n6 HCB.out (S := S ||| 2 ^ j) (l := j) (by rw [HN.out]; exact e2) hltj
            obtain ⟨b4, f4, b5, f5, c5, rfl, p1, p2⟩ := beh_at HD.out (HRD.out wr BB.out) HN.out (S := S ||| 2 ^ j) (j := j) (by omega) e2 hltj (by rw [e4 j (by omega)]; simp)
            have hK64 : 2 ^ j < 64 := by omega
            have hor : bits .or .i64 (S : Int) ((2 ^ j : Nat) : Int) = ((S ||| 2 ^ j : Nat) : Int) := i64_or_nat _ _ (by omega) (by omega)
            have HFJ := Lib.hid hfj
            rw [hK2] at d1
            rcases INV.out.lastIs with ⟨rfl, rfl⟩ | ⟨q, rfl, hk0, hoq, hqn⟩
            · have HXQ : Hid (behind (costF L rows) n (S ||| 2 ^ j) j = stepX (costF L rows) n none S j) := Lib.hid (by simp [stepX, cst])
              clear hbi own bB bw hbj hfj e1 e4 e5 hr hr2
              generalize behind (costF L rows) n (S ||| 2 ^ j) j = bv at *
              generalize S ||| 2 ^ j = S2 at *
              generalize 2 ^ j = K2 at *
              by_cases hu : ui < 0
              · have HT := Lib.hid (HBI.out.take HFJ.out HXQ.out (.inl hu))
                go_wp2
                go_roundw
                case rel => exact ⟨j + 1, j, bv, by omega, by go_num, rfl, rfl, HT.out, OWN.out, BB.out, BW.out⟩
                case measure => simp [intOf] <;> omega
              · by_cases hx : bv < xi
                · have HT := Lib.hid (HBI.out.take HFJ.out HXQ.out (.inr hx))
                  go_wp2
                  go_roundw
                  case rel => exact ⟨j + 1, j, bv, by omega, by go_num, rfl, rfl, HT.out, OWN.out, BB.out, BW.out⟩
                  case measure => simp [intOf] <;> omega
                · have HT := Lib.hid (HBI.out.keep HFJ.out HXQ.out hu hx)
                  go_wp2
                  go_roundw
                  case rel => exact ⟨j + 1, ui, xi, by omega, by go_num, rfl, rfl, HT.out, OWN.out, BB.out, BW.out⟩
                  case measure => simp [intOf] <;> omega
            · obtain ⟨d2, f1, d3, f2, d4, f3, g3, ki, kj, rfl, rfl, q1, q2, q3, q4, q5, q6, q7, q8, q9, v0, v1⟩ := cost_at H1.out H2.out hr hr2 (i := q) (j := j) (by rw [HL.out]; omega) (by rw [HL.out]; omega)
              rw [← bw.cell (by assumption)] at q6 q7 q8 q9
              have co := own_cellT OWN.out (castI_get hoq)
              have HXQ : Hid (behind (costF L rows) n (S ||| 2 ^ j) j + costF L rows q j = stepX (costF L rows) n (some q) S j) := Lib.hid (by simp only [stepX, cst]; omega)
              obtain ⟨pk, hpk⟩ : ∃ pk, k - 1 = pk := ⟨_, rfl⟩
              rw [hpk] at co
              have kw : (k : Int) - 1 = (pk : Int) := by omega
              have kp : pk < k := by omega
              have kpi : (pk : Int) < (k : Int) := by omega
              have qn : (q : Int) < (n : Int) := by omega
              have q0 : (0 : Int) ≤ (q : Int) := by omega
              have ki4 : (ki : Int) < 4 := by omega
              have kj4 : (kj : Int) < 4 := by omega
              clear hbi own bB bw hbj hfj e1 e4 e5 hr hr2 hpk hoq
              generalize costF L rows q j = cv at *
              generalize behind (costF L rows) n (S ||| 2 ^ j) j = bv at *
              generalize S ||| 2 ^ j = S2 at *
              generalize 2 ^ j = K2 at *
              by_cases hu : ui < 0
              · have HT := Lib.hid (HBI.out.take HFJ.out HXQ.out (.inl hu))
                go_wp2_with (fail)
                go_quiet (fail)
                go_wp2
                go_roundw
                case rel => exact ⟨j + 1, j, bv + cv, by omega, by go_num, rfl, rfl, HT.out, own_drewN OWN.out _, below_drawn BB.out _, below_drawn BW.out _⟩
                case measure => simp [intOf] <;> omega
              · by_cases hx : bv + cv < xi
                · have HT := Lib.hid (HBI.out.take HFJ.out HXQ.out (.inr hx))
                  go_wp2_with (fail)
                  go_quiet (fail)
                  go_wp2
                  go_roundw
                  case rel => exact ⟨j + 1, j, bv + cv, by omega, by go_num, rfl, rfl, HT.out, own_drewN OWN.out _, below_drawn BB.out _, below_drawn BW.out _⟩
                  case measure => simp [intOf] <;> omega
                · have HT := Lib.hid (HBI.out.keep HFJ.out HXQ.out hu hx)
                  go_wp2_with (fail)
                  go_quiet (fail)
                  go_wp2
                  go_roundw
                  case rel => exact ⟨j + 1, ui, xi, by omega, by go_num, rfl, rfl, HT.out, own_drewN OWN.out _, below_drawn BB.out _, below_drawn BW.out _⟩
                  case measure => simp [intOf] <;> omega
          · have d1 : (bits .and .i64 ((S : Int) / 2 ^ j) 1 == 1) = true := by rw [and1_bit, bit_one hbj]; rfl
            have HT := Lib.hid (HBI.out.skip (by simp [freeB, hbj]))
            clear hbj hbi own bB bw
            go_wp2_with (fail)
            go_roundw
            case rel => exact ⟨j + 1, ui, xi, by omega, by go_num, rfl, rfl, HT.out, OWN.out, BB.out, BW.out⟩
            case measure => simp [intOf] <;> omega
        · obtain rfl : j = n := by omega
          obtain rfl : ui = (b : Int) := HBI.out.fin HNX.out
          have hK2 : ((2 : Int) ^ b) = ((2 ^ b : Nat) : Int) := pow2_nat b
          obtain ⟨e1, e2, -, e4, e5⟩ := add_bit n6 (by rw [HN.out]; exact hSN) hbn HBF.out
          rw [HN.out] at e2
          have hK64 : 2 ^ b < 64 := by omega
          have hor : bits .or .i64 (S : Int) ((2 ^ b : Nat) : Int) = ((S ||| 2 ^ b : Nat) : Int) := i64_or_nat _ _ (by omega) (by omega)
          have HST := Lib.hid (INV.out.step n6 hkl HNX.out)
          have hgt : S < S ||| 2 ^ b := by omega
          have CA : Hid (castI o ++ [(b : Int)] = castI (o ++ [b])) := Lib.hid (by simp [castI])
          clear hbi own bB bw e1 e4 hr hr2
          generalize S ||| 2 ^ b = S2 at *
          generalize 2 ^ b = K2 at *
          go_wp2_with (at_builtin; go_must (refine wpList_append_own_w _ (by rfl) (.tmp 89) (.tmp 91) 26 rfl Bc 3 i0 _ 1 8 Tryd.underlying26 hi hz0 hz1 hz2 rfl (by decide) (.slice (some ⟨A7, 0, none⟩) k c7) k (intsV .i64 (castI o)) rfl (OWN.out.alloc _) ⟨wr.heap.size, 0, none⟩ 1 1 (intsV .i64 [(b : Int)]) rfl rfl (cells_one1 (Newest.alloc_ rfl)) intsV_one (by unfold maxLen; omega) (by omega) (by simp; omega) ?_); intro v9 w9 hown9 hgr9 hv9; rw [← intsV_append, CA.out] at hown9; have hs9 := hgr9.size; rw [World.size_alloc] at hs9; have b9 : Below Bc w3 w9 := (BB.out.alloc (by omega) (.cells #[.int .i64 (b : Int)] 3)).grown hgr9 (by rw [World.size_alloc]; omega) (fun q hq => own_ge OWN.out hq); have bw9 : Below w.heap.size w w9 := (BW.out.alloc (by omega) (.cells #[.int .i64 (b : Int)] 3)).grown hgr9 (by rw [World.size_alloc]; omega) (fun q hq => by (have := own_ge OWN.out hq; omega)); obtain ⟨g9, c9, rfl, -, -⟩ := own_form hown9 (by omega); clear hgr9 hv9)
          go_roundw
          case rel => exact ⟨k + 1, S2, c9, g9, _, _, by omega, rfl, rfl, HST.out, hown9, b9, bw9⟩
          case measure => simp [intOf] <;> omega
end Go.Proofs.YtblbfgoifaddiaaDoor
namespace Go.Proofs.YtblbfgoifaddiaaDoor
open Go.RowKit
set_option linter.unusedVariables false
set_option linter.unusedSimpArgs false
def leastLost (L : List (Int × Int × Int)) (rows : List (List Int)) : Int := orderLost L rows (bestRow L rows)
theorem bestRow_len (L : List (Int × Int × Int)) (rows : List (List Int)) : (bestRow L rows).length ≤ 6 := by
  unfold bestRow
  split
  · next h =>
    have n6 := (heatsOk_facts h.1).1
    have := ((bestO_lists (c := costF L rows) n6).get n6).2.2
    simp [castI]; omega
  · simp
set_option maxRecDepth 100000 in
set_option maxHeartbeats 1000000 in
theorem implLeastL_any (A : Option Addr) (n c : Nat) (L : List (Int × Int × Int)) (A2 : Option Addr) (n2 c2 : Nat) (rows : List (List Int)) (w : World)
    (hl : L.length = n) (hr : RdT w w.heap.size A L) (hn : n ≤ 7) (hl2 : rows.length = n2) (hr2 : RdR w w.heap.size A2 rows) (hn2 : n2 ≤ 100) :
    Calls Tryd.prog 17 #[.slice A n c, .slice A2 n2 c2] w fun e w' => e = .returned (.int .i64 (leastLost L rows)) ∧ Below w.heap.size w w' := by
  have HL := Lib.hid hl
  have HL2 := Lib.hid hl2
  clear hl hl2
  cases h1 : heatsOk L
  · have HE : Hid (leastLost L rows = -1) := Lib.hid (orderLost_1 h1)
    go_enter Tryd.func17, Tryd.ntmps17
    go_wp2_with (fail)
    refine (implHeats_any _ _ _ L _ HL.out hr (by omega)).mono ?_
    rintro e w1 ⟨rfl, hb1⟩
    rw [h1]
    go_wp2
    go_ret
    exact ⟨ret_int HE.out.symm, hb1⟩
  have H1 := Lib.hid h1
  cases h2 : lostOk rows
  · have HE : Hid (leastLost L rows = -1) := Lib.hid (orderLost_2 h2)
    go_enter Tryd.func17, Tryd.ntmps17
    go_wp2_with (fail)
    refine (implHeats_any _ _ _ L _ HL.out hr (by omega)).mono ?_
    rintro e w1 ⟨rfl, hb1⟩
    rw [h1]
    have hr2' := hr2.up hb1 hb1.size
    go_wp2_with (fail)
    refine (implLost_any _ _ _ rows _ HL2.out hr2' (by omega)).mono ?_
    rintro e w2 ⟨rfl, hb2⟩
    rw [h2]
    have hb2' := below_next hb1 hb2
    go_wp2
    go_ret
    exact ⟨ret_int HE.out.symm, hb2'⟩
  have hbl := bestRow_len L rows
  obtain ⟨p, hp⟩ : ∃ p, (bestRow L rows).length = p := ⟨_, rfl⟩
  have hp6 : p ≤ 6 := by omega
  have HP := Lib.hid hp
  go_enter Tryd.func17, Tryd.ntmps17
  go_wp2_with (fail)
  refine (implHeats_any _ _ _ L _ HL.out hr (by omega)).mono ?_
  rintro e w1 ⟨rfl, hb1⟩
  rw [h1]
  have hr2' := hr2.up hb1 hb1.size
  go_wp2_with (fail)
  refine (implLost_any _ _ _ rows _ HL2.out hr2' (by omega)).mono ?_
  rintro e w2 ⟨rfl, hb2⟩
  rw [h2]
  have hb2' := below_next hb1 hb2
  clear hr2' hb1 hb2
  have hrB := hr.up hb2' hb2'.size
  have hr2B := hr2.up hb2' hb2'.size
  clear h1 h2 hbl hp
  go_wp2_with (fail)
  refine (implBest_any _ _ _ L _ _ _ rows _ HL.out hrB (by omega) HL2.out hr2B (by omega)).mono ?_
  intro e w3 hrow
  obtain ⟨A5, c5, rfl, own5, hb3⟩ := hrow
  rw [HP.out] at own5
  rw [HP.out]
  have hb := below_next hb2' hb3
  have hrC := hr.up hb hb.size
  have hr2C := hr2.up hb hb.size
  have hc5 := own_cap own5
  have rd5 := RdI.of_own own5
  clear hrB hr2B hb2' hb3 own5
  go_wp2_with (fail)
  refine (implOrderLost_any _ _ _ L _ _ _ rows _ _ _ (bestRow L rows) _ HL.out hrC (by omega) HL2.out hr2C (by omega) HP.out rd5 ⟨by omega, hc5⟩).mono ?_
  rintro e w4 ⟨rfl, hb4⟩
  have hb5 := below_next hb hb4
  clear hb hb4
  go_wp2
  go_ret
  exact ⟨rfl, hb5⟩
end Go.Proofs.YtblbfgoifaddiaaDoor
