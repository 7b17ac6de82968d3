/- What is drawn for the law FnLadleOf: heats, a caster and times. -/
import Derived.Test.YtblbfgoifaddiaaDoorDrawLate
import Derived.Test.YtblbfgoifaddiaaDoorAppW
namespace Go.Proofs.YtblbfgoifaddiaaDoor
open Go.RowKit
set_option linter.unusedVariables false
set_option linter.unusedSimpArgs false
theorem OS.apart' {W w w9 : World} {R K B sz n : Nat} {e : TypeId} {v : Value} {xs : List Value} (h : OS W w R K B e sz v n xs) {row : Option Nat} (hg : w.grownBy w9 row) (hrow : ∀ k, row = some k → B ≤ k ∧ v.ownBlock ≠ some k) : OS W w9 R K B e sz v n xs :=
  h.append hg (fun k hk => (hrow k hk).1) (h.own.kept hg (by
    cases hv : v.ownBlock with
    | none => exact .inl rfl
    | some k => exact .inr (fun e => (hrow k e.symm).2 hv)))
theorem OS.below' {W w w' : World} {R K B sz n : Nat} {e : TypeId} {v : Value} {xs : List Value} (h : OS W w R K B e sz v n xs) (hb : Below w.heap.size w w') : OS W w' R K B e sz v n xs :=
  ⟨h.st.step hb (Nat.le_refl _), own_below h.own hb, h.hB, h.hW, Nat.le_trans h.hs hb.size⟩
theorem OS.rebase {V W w : World} {R K B sz n : Nat} {e : TypeId} {v : Value} {xs : List Value} (h : OS V w R K B e sz v n xs) (st : St W w R K) (hW : W.heap.size ≤ B) : OS W w R K B e sz v n xs := ⟨st, h.own, h.hB, hW, h.hs⟩
theorem grownSet (w : World) (g k : Nat) (x : Value) : w.grownBy (w.setCell ⟨g, k, none⟩ x) (some g) := ⟨rfl, rfl, rfl, by simp, fun j _ hj => Below.heap_setCell w ⟨g, k, none⟩ x j (fun e => hj (by rw [e]))⟩
/-- heats, a box for the result, a box that holds a caster, and times, all the caller's own -/
structure CT (W w : World) (R K b1 b6 Bh B2 : Nat) (f s : Int) (vh : Value) (nh : Nat) (Lh : List (Int × Int × Int)) (vt : Value) (nt : Nat) (M : List Int) : Prop where
  oh : OS W w R K Bh 34 3 vh nh (tripV Lh)
  ot : OS W w R K B2 3 1 vt nt (intsV .i64 M)
  x1 : BX w b1 [.int .i64 0, .int .i64 0]
  x6 : BX w b6 [.int .i64 f, .int .i64 s]
  r1 : R < b1
  l1 : b1 < Bh
  lh : ∀ k, vh.ownBlock = some k → k < b6
  l6 : b6 < B2
  w1 : W.heap.size ≤ b1
section
variable {W w w' w9 : World} {R K K' b1 b6 Bh B2 nh nt n9 : Nat} {f s : Int} {vh vt v9 : Value} {Lh : List (Int × Int × Int)} {M M9 : List Int}
theorem CT.h6 (h : CT W w R K b1 b6 Bh B2 f s vh nh Lh vt nt M) : Bh ≤ b6 ∨ nh = 0 := by
  rcases h.oh.own.2 with ⟨_, h0⟩ | ⟨g, cap, cur, hv, hb, _⟩
  · exact .inr h0
  · have := h.lh g (by rw [hv]; rfl)
    exact .inl (by omega)
theorem CT.draw (h : CT W w R K b1 b6 Bh B2 f s vh nh Lh vt nt M) (st1 : St w w' R K') (hR6 : R < b6) : CT W w' R K' b1 b6 Bh B2 f s vh nh Lh vt nt M :=
  ⟨h.oh.draw st1, h.ot.draw st1, h.x1.draw st1 (by have := h.r1; omega), h.x6.draw st1 (by omega), h.r1, h.l1, h.lh, h.l6, h.w1⟩
theorem CT.drew (h : CT W w R K b1 b6 Bh B2 f s vh nh Lh vt nt M) : CT W w.drew R K b1 b6 Bh B2 f s vh nh Lh vt nt M :=
  ⟨h.oh.drew, h.ot.drew, h.x1.drew, h.x6.drew, h.r1, h.l1, h.lh, h.l6, h.w1⟩
theorem CT.alloc (h : CT W w R K b1 b6 Bh B2 f s vh nh Lh vt nt M) (o : Obj) : CT W (w.alloc o) R K b1 b6 Bh B2 f s vh nh Lh vt nt M :=
  ⟨h.oh.alloc o, h.ot.alloc o, h.x1.alloc o, h.x6.alloc o, h.r1, h.l1, h.lh, h.l6, h.w1⟩
theorem CT.more (h : CT W w R K b1 b6 Bh B2 f s vh nh Lh vt nt M) (hK : K ≤ K') : CT W w R K' b1 b6 Bh B2 f s vh nh Lh vt nt M :=
  ⟨h.oh.more hK, h.ot.more hK, h.x1, h.x6, h.r1, h.l1, h.lh, h.l6, h.w1⟩
/-- the times turn -/
theorem CT.times (h : CT W w R K b1 b6 Bh B2 f s vh nh Lh vt nt M) (hB : Bh ≤ B2) {row : Option Nat} (hg : w.grownBy w9 row) (hrow : ∀ k, row = some k → B2 ≤ k) (ho : w9.ownsRow B2 3 1 v9 n9 (intsV .i64 M9)) : CT W w9 R K b1 b6 Bh B2 f s vh nh Lh v9 n9 M9 := by
  have l1 := h.l1
  have l6 := h.l6
  refine ⟨h.oh.apart' hg (fun k hk => ⟨by have := hrow k hk; omega, fun e => by have := h.lh k e; have := hrow k hk; omega⟩), h.ot.append hg hrow ho, h.x1.of_block (hg.block b1 h.x1.lt (fun e => by have := hrow b1 e.symm; omega)) hg.size, h.x6.of_block (hg.block b6 h.x6.lt (fun e => by have := hrow b6 e.symm; omega)) hg.size, h.r1, h.l1, h.lh, h.l6, h.w1⟩
end
def DrawnLos (W : World) (R K : Nat) (w : World) (e : Ending) (w' : World) : Prop := ∃ (A : Option Addr) (n c : Nat) (L : List (Int × Int × Int)) (f s : Int) (A2 : Option Addr) (n2 c2 : Nat) (M : List Int), e = .returned (.tuple #[.slice A n c, .agg #[.int .i64 f, .int .i64 s], .slice A2 n2 c2]) ∧ L.length = n ∧ n ≤ 7 ∧ M.length = n2 ∧ n2 ≤ 9 ∧ w'.ownsRow w.heap.size 34 3 (.slice A n c) n (tripV L) ∧ w'.ownsRow w.heap.size 3 1 (.slice A2 n2 c2) n2 (intsV .i64 M) ∧ St W w' R (K + 300)
theorem pick_ct {W w : World} {R K b1 b6 Bh B2 nh nt : Nat} {f s N : Int} {vh vt : Value} {Lh : List (Int × Int × Int)} {M : List Int} (h : CT W w R K b1 b6 Bh B2 f s vh nh Lh vt nt M) (hR6 : R < b6) (hK : K ≤ 1000000) :
    Calls Tryd.prog 49 #[.pointer (some ⟨R, 0, none⟩), .int .i64 N] w fun e' w' => ∃ u : Int, e' = .returned (.int .i64 u) ∧ 0 ≤ u ∧ (1 ≤ N → u < N) ∧ CT W w' R (K + 1) b1 b6 Bh B2 f s vh nh Lh vt nt M := by
  refine (pick_st (h.ot.st.self (Below.refl _ _)) hK).mono ?_
  rintro e' w' ⟨u, rfl, h0, h1, st1, -⟩
  exact ⟨u, rfl, h0, h1, h.draw st1 hR6⟩
theorem CT.set {W w : World} {R K b1 b6 Bh B2 nh n g c : Nat} {f s : Int} {vh : Value} {Lh : List (Int × Int × Int)} {M : List Int} (h : CT W w R K b1 b6 Bh B2 f s vh nh Lh (.slice (some ⟨g, 0, none⟩) n c) n M) (hB : Bh ≤ B2) (k : Nat) (x : Int) :
    CT W (w.setCell ⟨g, k, none⟩ (.int .i64 x)) R K b1 b6 Bh B2 f s vh nh Lh (.slice (some ⟨g, 0, none⟩) n c) n (M.set k x) :=
  h.times hB (row := some g) ⟨rfl, rfl, rfl, by simp, fun j _ hj => Below.heap_setCell w ⟨g, k, none⟩ (.int .i64 x) j (fun e => hj (by rw [e]))⟩ (fun k hk => by injection hk with hk; subst hk; exact own_ge h.ot.own rfl) (own_set1 h.ot.own)
set_option maxRecDepth 100000 in
set_option maxHeartbeats 1000000 in
theorem cast_st {W w : World} {R K : Nat} (st : St W w R K) (hK : K ≤ 5000) :
    Calls Tryd.prog 25 #[.pointer (some ⟨R, 0, none⟩)] w (DrawnLos W R K w) := by
  obtain ⟨i0, hi, hz0, hz1, hz2⟩ := info_parts info_int
  have lt := st.lt
  have sW := st.gr.size
  have st1 := st.allocs (.cells #[.int .i64 0, .int .i64 0] 25)
  have x1 : BX (w.alloc (.cells #[.int .i64 0, .int .i64 0] 25)) w.heap.size [.int .i64 0, .int .i64 0] := BX.made _ _
  have hs1 : (w.alloc (.cells #[.int .i64 0, .int .i64 0] 25)).heap.size = w.heap.size + 1 := by simp
  go_enter Tryd.func25, Tryd.ntmps25
  go_wp2_with (fail)
  generalize w.alloc (.cells #[.int .i64 0, .int .i64 0] 25) = w1 at *
  refine (heats_st (st1.self (Below.refl _ _)) (by omega) (by omega) (by omega)).mono ?_
  rintro e w2 ⟨A4, m, c4, L, rfl, hL, hm7, oh0⟩
  have HL := Lib.hid hL
  have x2 := x1.draw oh0.st (by omega)
  have oh2 : OS W w2 R (K + 60) w1.heap.size 34 3 (.slice A4 m c4) m (tripV L) := oh0.rebase (st1.chain oh0.st) (by omega)
  rw [hs1] at oh2
  clear x1 oh0 st1 st hL
  go_wp2_with (fail)
  refine (caster_st (oh2.st.self (Below.refl _ _)) (by omega) (by omega) (by omega)).mono ?_
  rintro e w3 ⟨f, s, rfl, st3⟩
  have oh4 := (oh2.draw st3).alloc (.cells #[.int .i64 f, .int .i64 s] 25)
  have x4 := (x2.draw st3 (by omega)).alloc (.cells #[.int .i64 f, .int .i64 s] 25)
  have hsz3 := (oh2.draw st3).hs
  have lth : ∀ k, (Value.slice A4 m c4).ownBlock = some k → k < w3.heap.size := fun k hk => ((oh2.draw st3).own.lt k hk).2
  have LTH := Lib.hid lth
  have x6 : BX (w3.alloc (.cells #[.int .i64 f, .int .i64 s] 25)) w3.heap.size [.int .i64 f, .int .i64 s] := BX.made _ _
  have hs4 : (w3.alloc (.cells #[.int .i64 f, .int .i64 s] 25)).heap.size = w3.heap.size + 1 := by simp
  clear oh2 x2 st3 lth
  go_wp2_with (fail)
  generalize w3.alloc (.cells #[.int .i64 f, .int .i64 s] 25) = w4 at *
  generalize w3.heap.size = b6 at *
  refine (castTimes_any _ _ _ L f s _ HL.out (RdT.of_own oh4.own) hm7).mono ?_
  rintro e w5 ⟨M0, hM0, hrow⟩
  obtain ⟨m5, hm5⟩ : ∃ q, M0.length = q := ⟨_, rfl⟩
  obtain ⟨A5, c5, rfl, own5, hb5⟩ := hrow.at_ hm5
  have ct : CT W w5 R (K + 70) w.heap.size b6 (w.heap.size + 1) w4.heap.size f s (.slice A4 m c4) m L (.slice A5 m5 c5) m5 M0 :=
    ⟨(oh4.below' hb5).more (by omega), ⟨(oh4.st.step hb5 (Nat.le_refl _)).more (by omega), own5, oh4.st.lt, oh4.st.gr.size, hb5.size⟩, x4.below hb5 x4.lt, x6.below hb5 x6.lt, lt, by omega, LTH.out, by omega, sW⟩
  have hm8 : m5 ≤ 8 := by omega
  have h45 : w4.heap.size = b6 + 1 := hs4
  rw [h45] at ct
  have hM5 := Lib.hid hm5
  clear hrow own5 hb5 oh4 x4 x6 hm5 hM0
  have c0 := ct.x6.at_ 0 _ rfl
  have c1 := ct.x6.at_ 1 _ rfl
  go_wp2_with (fail)
  refine (pick_ct ct (by omega) (by omega)).mono ?_
  rintro e w6 ⟨x, rfl, x0, x1, ct6⟩
  clear ct c0 c1
  --LO
  by_cases hx0 : x = 0
  · subst hx0
    have c0 := ct6.x6.at_ 0 _ rfl
    have c1 := ct6.x6.at_ 1 _ rfl
    go_wp2_with (fail)
    refine (castLate_any _ _ _ L f s _ HL.out (RdT.of_own ct6.oh.own) hm7).mono ?_
    rintro e w7 ⟨M7, hM7, hrow⟩
    obtain ⟨n7, hm7'⟩ : ∃ q, M7.length = q := ⟨_, rfl⟩
    obtain ⟨A7, c7, rfl, own7, hb7⟩ := hrow.at_ hm7'
    have hs6 := ct6.x6.lt
    obtain ⟨B7, hB7, ct7⟩ : ∃ B7, w.heap.size + 1 ≤ B7 ∧ CT W w7 R (K + 70 + 1) w.heap.size b6 (w.heap.size + 1) B7 f s (.slice A4 m c4) m L (.slice A7 n7 c7) n7 M7 :=
      ⟨w6.heap.size, by omega, ct6.oh.below' hb7, ⟨ct6.oh.st.step hb7 (Nat.le_refl _), own7, ct6.oh.st.lt, ct6.oh.st.gr.size, hb7.size⟩, ct6.x1.below hb7 ct6.x1.lt, ct6.x6.below hb7 ct6.x6.lt, lt, by omega, LTH.out, hs6, sW⟩
    have hn7 : n7 ≤ 8 := by omega
    have hm7 := hm7'
    clear hrow own7 hb7 ct6 c0 c1 hM7 hs6 hm7' h45 hs1 hs4
    have HM7 := Lib.hid hm7
    go_wp2_with (fail)
    refine (pick_ct ct7 (by omega) (by omega)).mono ?_
    rintro e w8 ⟨at0, rfl, a0, a1, ct8⟩
    have ha7 : at0 ≤ 7 := by omega
    clear ct7 a1 hm7
    go_wp2_with (fail)
    have CT8 := Lib.hid ct8
    clear ct8
    go_loopw [9] (fun i wr => ∃ (k : Nat) (M : List Int) (K' : Nat), k ≤ n7 ∧ i = .int .i64 k ∧ M.length = n7 ∧ CT W wr R K' w.heap.size b6 (w.heap.size + 1) B7 f s (.slice A4 m c4) m L (.slice A7 n7 c7) n7 M ∧ K' ≤ K + 80 + 2 * k) (fun i _ => n7 - (intOf i).toNat)
    case atStart => exact ⟨0, M7, _, Nat.zero_le _, rfl, HM7.out, CT8.out, by omega⟩
    case round =>
      clear CT8
      obtain ⟨k, M, K', hk, rfl, hM, ct, hK'⟩ := hrel
      have HM := Lib.hid hM
      clear hM
      by_cases hlt : k < n7
      · by_cases hat : at0 ≤ (k : Int)
        · obtain ⟨g, cc, hform, -, -⟩ := own_form ct.ot.own (by omega)
          injection hform with hA _ hC
          subst hA
          clear hC
          obtain ⟨q, hq⟩ : ∃ q, M[k]? = some q := ⟨_, List.getElem?_eq_getElem (by rw [HM.out]; exact hlt)⟩
          have HQ := Lib.hid hq
          have e1 := own_cellT ct.ot.own hq
          have f1 := ct.ot.own.frozenAt k
          clear hq
          go_wp2_with (fail)
          have cta := Lib.hid ct.drew
          clear ct
          go_region_law (first
            | (go_simp; go_at_call 49; first
                | (refine (pick_ct ctb.out (by omega) (by omega)).mono ?_; rintro e w11 ⟨v, rfl, v0, v1, ctc0⟩; have e3 := own_cellT ctc0.ot.own HQ.out; have f3 := ctc0.ot.own.frozenAt k; have ctc := Lib.hid ctc0; clear ctc0)
                | (refine (pick_ct cta.out (by omega) (by omega)).mono ?_; rintro e w10 ⟨u, rfl, u0, u1, ctb0⟩; have e2 := own_cellT ctb0.ot.own HQ.out; have f2 := ctb0.ot.own.frozenAt k; have ctb := Lib.hid ctb0; clear ctb0)))
          all_goals
            obtain ⟨z, hz⟩ : ∃ z, IntKind.i64.wrap (q + IntKind.i64.wrap (u * v)) = z := ⟨_, rfl⟩
            rw [hz]
            have ctn := Lib.hid (ctc.out.set hB7 k z)
            clear hz ctc ctb cta
            go_wp2
            go_roundw
            case rel => exact ⟨k + 1, M.set k z, _, by omega, by go_num, by rw [List.length_set]; exact HM.out, ctn.out, by omega⟩
            case measure => simp [intOf] <;> omega
        · go_wp2
          go_roundw
          case rel => exact ⟨k + 1, M, K', by omega, by go_num, HM.out, ct, by omega⟩
          case measure => simp [intOf] <;> omega
      · obtain rfl : k = n7 := by omega
        go_wp2_with (fail)
        refine (odd_st (ct.ot.st.self (Below.refl _ _)) (by omega) (by omega)).mono ?_
        rintro e w12 ⟨o, rfl, st12⟩
        have ct12 := ct.draw st12 (by omega)
        clear ct st12
        cases o
        · have p0 := ct12.x1.at_ 0 _ rfl
          have p1 := ct12.x1.at_ 1 _ rfl
          have g0 := ct12.x1.fz 0
          have g1 := ct12.x1.fz 1
          have q0 := ct12.x6.at_ 0 _ rfl
          have q1 := ct12.x6.at_ 1 _ rfl
          have CTF := Lib.hid ct12
          clear ct12
          go_wp2_with (fail)
          go_region_law (fail)
          all_goals
            go_wp2
            exact bodyPost_ret (v := .tuple #[.slice A4 m c4, .agg #[.int .i64 f, .int .i64 s], .slice A7 k c7]) (by simp [results, Tryd.results25, go_sem, p0, p1]) rfl ⟨A4, m, c4, L, f, s, _, k, _, M, rfl, HL.out, hm7, HM.out, by omega, own_drew (own_lower (own_other (own_other CTF.out.oh.own (grownSet _ _ 0 _) (fun q hq => by have := own_ge CTF.out.oh.own hq; omega)) (grownSet _ _ 1 _) (fun q hq => by have := own_ge CTF.out.oh.own hq; omega)) (by omega)), own_drew (own_lower (own_other (own_other CTF.out.ot.own (grownSet _ _ 0 _) (fun q hq => by have := own_ge CTF.out.ot.own hq; omega)) (grownSet _ _ 1 _) (fun q hq => by have := own_ge CTF.out.ot.own hq; omega)) (by omega)), (((CTF.out.ot.st.setOwn sW lt 0 (.int .i64 f)).setOwn sW lt 1 (.int .i64 s)).drew).more (by omega)⟩
        · have hs12 := ct12.ot.hs
          have OTT := Lib.hid ct12
          clear ct12
          go_wp2_with (at_builtin; go_must (refine wpList_append_own_w _ (by rfl) (.tmp 49) (.tmp 50) 26 rfl B7 3 i0 _ 1 8 Tryd.underlying26 hi hz0 hz1 hz2 rfl (by decide) (.slice A7 k c7) k (intsV .i64 M) rfl (OTT.out.alloc _).ot.own ⟨w12.heap.size, 0, none⟩ 1 1 (intsV .i64 [9]) rfl rfl (cells_one1 (Newest.alloc_ rfl)) intsV_one (by unfold maxLen; omega) (by omega) (by simp; omega) ?_); intro v9 w13 hown9 hgr9 hv9; rw [← intsV_append] at hown9; have ct13 := (OTT.out.alloc _).times hB7 hgr9 (fun q hq => own_ge OTT.out.ot.own hq) hown9; obtain ⟨g9, c9, rfl, -, -⟩ := own_form hown9 (by omega); clear hown9 hgr9 hv9)
          have p0 := ct13.x1.at_ 0 _ rfl
          have p1 := ct13.x1.at_ 1 _ rfl
          have g0 := ct13.x1.fz 0
          have g1 := ct13.x1.fz 1
          have q0 := ct13.x6.at_ 0 _ rfl
          have q1 := ct13.x6.at_ 1 _ rfl
          have CTF := Lib.hid ct13
          clear ct13
          try go_wp2_with (fail)
          go_region_law (fail)
          all_goals
            go_wp2
            exact bodyPost_ret (v := .tuple #[.slice A4 m c4, .agg #[.int .i64 f, .int .i64 s], .slice (some ⟨g9, 0, none⟩) (k + 1) c9]) (by simp [results, Tryd.results25, go_sem, p0, p1]) rfl ⟨A4, m, c4, L, f, s, _, (k + 1), _, M ++ [9], rfl, HL.out, hm7, by rw [List.length_append, HM.out]; rfl, by omega, own_drew (own_lower (own_other (own_other CTF.out.oh.own (grownSet _ _ 0 _) (fun q hq => by have := own_ge CTF.out.oh.own hq; omega)) (grownSet _ _ 1 _) (fun q hq => by have := own_ge CTF.out.oh.own hq; omega)) (by omega)), own_drew (own_lower (own_other (own_other CTF.out.ot.own (grownSet _ _ 0 _) (fun q hq => by have := own_ge CTF.out.ot.own hq; omega)) (grownSet _ _ 1 _) (fun q hq => by have := own_ge CTF.out.ot.own hq; omega)) (by omega)), (((CTF.out.ot.st.setOwn sW lt 0 (.int .i64 f)).setOwn sW lt 1 (.int .i64 s)).drew).more (by omega)⟩
  · have hxb : (x == 0) = false := by simpa using hx0
    go_wp2_with (fail)
    obtain ⟨B7, hB7, ct7⟩ : ∃ B7, w.heap.size + 1 ≤ B7 ∧ CT W w6 R (K + 70 + 1) w.heap.size b6 (w.heap.size + 1) B7 f s (.slice A4 m c4) m L (.slice A5 m5 c5) m5 M0 := ⟨_, by omega, ct6⟩
    have hm7 := hM5.out
    have hn7 := hm8
    clear ct6 h45 hs1 hs4
    generalize A5 = A7 at *
    generalize c5 = c7 at *
    generalize M0 = M7 at *
    generalize m5 = n7 at *
    have HM7 := Lib.hid hm7
    go_wp2_with (fail)
    refine (pick_ct ct7 (by omega) (by omega)).mono ?_
    rintro e w8 ⟨at0, rfl, a0, a1, ct8⟩
    have ha7 : at0 ≤ 7 := by omega
    clear ct7 a1 hm7
    go_wp2_with (fail)
    have CT8 := Lib.hid ct8
    clear ct8
    go_loopw [9] (fun i wr => ∃ (k : Nat) (M : List Int) (K' : Nat), k ≤ n7 ∧ i = .int .i64 k ∧ M.length = n7 ∧ CT W wr R K' w.heap.size b6 (w.heap.size + 1) B7 f s (.slice A4 m c4) m L (.slice A7 n7 c7) n7 M ∧ K' ≤ K + 80 + 2 * k) (fun i _ => n7 - (intOf i).toNat)
    case atStart => exact ⟨0, M7, _, Nat.zero_le _, rfl, HM7.out, CT8.out, by omega⟩
    case round =>
      clear CT8
      obtain ⟨k, M, K', hk, rfl, hM, ct, hK'⟩ := hrel
      have HM := Lib.hid hM
      clear hM
      by_cases hlt : k < n7
      · by_cases hat : at0 ≤ (k : Int)
        · obtain ⟨g, cc, hform, -, -⟩ := own_form ct.ot.own (by omega)
          injection hform with hA _ hC
          subst hA
          clear hC
          obtain ⟨q, hq⟩ : ∃ q, M[k]? = some q := ⟨_, List.getElem?_eq_getElem (by rw [HM.out]; exact hlt)⟩
          have HQ := Lib.hid hq
          have e1 := own_cellT ct.ot.own hq
          have f1 := ct.ot.own.frozenAt k
          clear hq
          go_wp2_with (fail)
          have cta := Lib.hid ct.drew
          clear ct
          go_region_law (first
            | (go_simp; go_at_call 49; first
                | (refine (pick_ct ctb.out (by omega) (by omega)).mono ?_; rintro e w11 ⟨v, rfl, v0, v1, ctc0⟩; have e3 := own_cellT ctc0.ot.own HQ.out; have f3 := ctc0.ot.own.frozenAt k; have ctc := Lib.hid ctc0; clear ctc0)
                | (refine (pick_ct cta.out (by omega) (by omega)).mono ?_; rintro e w10 ⟨u, rfl, u0, u1, ctb0⟩; have e2 := own_cellT ctb0.ot.own HQ.out; have f2 := ctb0.ot.own.frozenAt k; have ctb := Lib.hid ctb0; clear ctb0)))
          all_goals
            obtain ⟨z, hz⟩ : ∃ z, IntKind.i64.wrap (q + IntKind.i64.wrap (u * v)) = z := ⟨_, rfl⟩
            rw [hz]
            have ctn := Lib.hid (ctc.out.set hB7 k z)
            clear hz ctc ctb cta
            go_wp2
            go_roundw
            case rel => exact ⟨k + 1, M.set k z, _, by omega, by go_num, by rw [List.length_set]; exact HM.out, ctn.out, by omega⟩
            case measure => simp [intOf] <;> omega
        · go_wp2
          go_roundw
          case rel => exact ⟨k + 1, M, K', by omega, by go_num, HM.out, ct, by omega⟩
          case measure => simp [intOf] <;> omega
      · obtain rfl : k = n7 := by omega
        go_wp2_with (fail)
        refine (odd_st (ct.ot.st.self (Below.refl _ _)) (by omega) (by omega)).mono ?_
        rintro e w12 ⟨o, rfl, st12⟩
        have ct12 := ct.draw st12 (by omega)
        clear ct st12
        cases o
        · have p0 := ct12.x1.at_ 0 _ rfl
          have p1 := ct12.x1.at_ 1 _ rfl
          have g0 := ct12.x1.fz 0
          have g1 := ct12.x1.fz 1
          have q0 := ct12.x6.at_ 0 _ rfl
          have q1 := ct12.x6.at_ 1 _ rfl
          have CTF := Lib.hid ct12
          clear ct12
          go_wp2_with (fail)
          go_region_law (fail)
          all_goals
            go_wp2
            exact bodyPost_ret (v := .tuple #[.slice A4 m c4, .agg #[.int .i64 f, .int .i64 s], .slice A7 k c7]) (by simp [results, Tryd.results25, go_sem, p0, p1]) rfl ⟨A4, m, c4, L, f, s, _, k, _, M, rfl, HL.out, hm7, HM.out, by omega, own_drew (own_lower (own_other (own_other CTF.out.oh.own (grownSet _ _ 0 _) (fun q hq => by have := own_ge CTF.out.oh.own hq; omega)) (grownSet _ _ 1 _) (fun q hq => by have := own_ge CTF.out.oh.own hq; omega)) (by omega)), own_drew (own_lower (own_other (own_other CTF.out.ot.own (grownSet _ _ 0 _) (fun q hq => by have := own_ge CTF.out.ot.own hq; omega)) (grownSet _ _ 1 _) (fun q hq => by have := own_ge CTF.out.ot.own hq; omega)) (by omega)), (((CTF.out.ot.st.setOwn sW lt 0 (.int .i64 f)).setOwn sW lt 1 (.int .i64 s)).drew).more (by omega)⟩
        · have hs12 := ct12.ot.hs
          have OTT := Lib.hid ct12
          clear ct12
          go_wp2_with (at_builtin; go_must (refine wpList_append_own_w _ (by rfl) (.tmp 49) (.tmp 50) 26 rfl B7 3 i0 _ 1 8 Tryd.underlying26 hi hz0 hz1 hz2 rfl (by decide) (.slice A7 k c7) k (intsV .i64 M) rfl (OTT.out.alloc _).ot.own ⟨w12.heap.size, 0, none⟩ 1 1 (intsV .i64 [9]) rfl rfl (cells_one1 (Newest.alloc_ rfl)) intsV_one (by unfold maxLen; omega) (by omega) (by simp; omega) ?_); intro v9 w13 hown9 hgr9 hv9; rw [← intsV_append] at hown9; have ct13 := (OTT.out.alloc _).times hB7 hgr9 (fun q hq => own_ge OTT.out.ot.own hq) hown9; obtain ⟨g9, c9, rfl, -, -⟩ := own_form hown9 (by omega); clear hown9 hgr9 hv9)
          have p0 := ct13.x1.at_ 0 _ rfl
          have p1 := ct13.x1.at_ 1 _ rfl
          have g0 := ct13.x1.fz 0
          have g1 := ct13.x1.fz 1
          have q0 := ct13.x6.at_ 0 _ rfl
          have q1 := ct13.x6.at_ 1 _ rfl
          have CTF := Lib.hid ct13
          clear ct13
          try go_wp2_with (fail)
          go_region_law (fail)
          all_goals
            go_wp2
            exact bodyPost_ret (v := .tuple #[.slice A4 m c4, .agg #[.int .i64 f, .int .i64 s], .slice (some ⟨g9, 0, none⟩) (k + 1) c9]) (by simp [results, Tryd.results25, go_sem, p0, p1]) rfl ⟨A4, m, c4, L, f, s, _, (k + 1), _, M ++ [9], rfl, HL.out, hm7, by rw [List.length_append, HM.out]; rfl, by omega, own_drew (own_lower (own_other (own_other CTF.out.oh.own (grownSet _ _ 0 _) (fun q hq => by have := own_ge CTF.out.oh.own hq; omega)) (grownSet _ _ 1 _) (fun q hq => by have := own_ge CTF.out.oh.own hq; omega)) (by omega)), own_drew (own_lower (own_other (own_other CTF.out.ot.own (grownSet _ _ 0 _) (fun q hq => by have := own_ge CTF.out.ot.own hq; omega)) (grownSet _ _ 1 _) (fun q hq => by have := own_ge CTF.out.ot.own hq; omega)) (by omega)), (((CTF.out.ot.st.setOwn sW lt 0 (.int .i64 f)).setOwn sW lt 1 (.int .i64 s)).drew).more (by omega)⟩
def DrawnLo (w : World) (e : Ending) (w' : World) : Prop := ∃ (A : Option Addr) (n c : Nat) (L : List (Int × Int × Int)) (f s : Int) (A2 : Option Addr) (n2 c2 : Nat) (M : List Int), e = .returned (.tuple #[.slice A n c, .agg #[.int .i64 f, .int .i64 s], .slice A2 n2 c2]) ∧ L.length = n ∧ n ≤ 7 ∧ M.length = n2 ∧ n2 ≤ 9 ∧ w'.ownsRow w.heap.size 34 3 (.slice A n c) n (tripV L) ∧ w'.ownsRow w.heap.size 3 1 (.slice A2 n2 c2) n2 (intsV .i64 M) ∧ Below w.heap.size w w'
end Go.Proofs.YtblbfgoifaddiaaDoor
