/- What is drawn: heats and casters. -/
import Derived.Test.YtblbfgoifaddiaaDoorTrip
import Derived.Test.YtblbfgoifaddiaaDoorDrawOS
import Derived.Test.YtblbfgoifaddiaaDoorSz
namespace Go.Proofs.YtblbfgoifaddiaaDoor
open Go.RowKit
set_option linter.unusedVariables false
set_option linter.unusedSimpArgs false
theorem BX.draw {w w' : World} {b R K : Nat} {vs : List Value} (h : BX w b vs) (st : St w w' R K) (hR : b ≠ R) : BX w' b vs :=
  h.of_block (st.gr.block b h.lt (fun e => hR (by injection e))) st.gr.size
theorem BX.set {w : World} {b : Nat} {vs : List Value} (h : BX w b vs) (j : Nat) (v : Value) : BX (w.setCell ⟨b, j, none⟩ v) b (vs.set j v) :=
  ⟨by simpa using h.lt, fun i u hu => by
    by_cases e : i = j
    · subst e
      have hl : i < vs.length := by have := (List.getElem?_eq_some_iff.1 hu).1; simpa using this
      rw [List.getElem?_set_self hl] at hu
      injection hu with hu
      subst hu
      exact World.cell?_setCell_same _ _ _ (h.at_ i vs[i] (List.getElem?_eq_getElem hl))
    · rw [List.getElem?_set_ne (fun h => e h.symm)] at hu
      exact (World.cell?_setCell_other _ _ _ _ (by intro he; injection he with _ he; exact e he.symm)).trans (h.at_ i u hu), fun i => by rw [World.frozen?_setCell]; exact h.fz i⟩
theorem BX.far {w : World} {b : Nat} {vs : List Value} (h : BX w b vs) (p : Addr) (v : Value) (hne : b ≠ p.block) : BX (w.setCell p v) b vs :=
  h.of_block (Below.heap_setCell w p v b hne) (by simp)
theorem BX.made {w : World} (o : Array Value) (e : TypeId) : BX (w.alloc (.cells o e)) w.heap.size o.toList :=
  ⟨by simp, fun j v hv => by
    rw [cell_of_row _ w.heap.size j o e (0, 0) (heap_alloc_new w _)]
    simpa using hv, fun j => by go_simp⟩
/-- a store into a block of the caller's own -/
theorem St.setOwn {W w : World} {R K b : Nat} (st : St W w R K) (hb : W.heap.size ≤ b) (hR : R < b) (j : Nat) (v : Value) : St W (w.setCell ⟨b, j, none⟩ v) R K := by
  have hbl : ∀ k, k ≠ b → (w.setCell ⟨b, j, none⟩ v).heap[k]? = w.heap[k]? := fun k hk => Below.heap_setCell w ⟨b, j, none⟩ v k hk
  exact ⟨st.rd.keep (by simp) (fun k hk => hbl k (by omega)), ⟨st.gr.os, st.gr.tape, st.gr.output, by simpa using st.gr.size, fun k hk hr => (hbl k (by omega)).trans (st.gr.block k hk hr)⟩⟩
theorem St.drew {W w : World} {R K : Nat} (st : St W w R K) : St W w.drew R K := st.step (Below.refl _ w).drew (Nat.le_refl _)
theorem St.drewN {W w : World} {R K : Nat} (st : St W w R K) (k : Nat) : St W (w.drewN k) R K := st.step (below_drawn (Below.refl _ w) k) (Nat.le_refl _)
theorem St.allocs {W w : World} {R K : Nat} (st : St W w R K) (o : Obj) : St W (w.alloc o) R K := st.step ((Below.refl _ w).alloc (Nat.le_refl _) o) (Nat.le_refl _)
/-- drawn on from a later world -/
theorem St.chain {W w w' : World} {R K K' : Nat} (st : St W w R K) (st' : St w w' R K') : St W w' R K' := st.own (Below.refl _ _) st' (Below.refl _ _)
set_option maxRecDepth 100000 in
set_option maxHeartbeats 1000000 in
theorem heat_st {W w : World} {R K : Nat} {N : Int} (st : St W w R K) (hK : K ≤ 10000) (hN : 0 ≤ N) (hN' : N < 1000) :
    Calls Tryd.prog 57 #[.pointer (some ⟨R, 0, none⟩), .int .i64 N] w fun e w' => ∃ k t r : Int, e = .returned (.agg #[.int .i64 k, .int .i64 t, .int .i64 r]) ∧ St W w' R (K + 6) := by
  have lt := st.lt
  have sW := st.gr.size
  have bx1 : BX (w.alloc (.cells #[.int .i64 0, .int .i64 0, .int .i64 0] 34)) w.heap.size [.int .i64 0, .int .i64 0, .int .i64 0] := BX.made _ _
  have st2 : St (w.alloc (.cells #[.int .i64 0, .int .i64 0, .int .i64 0] 34)) (w.alloc (.cells #[.int .i64 0, .int .i64 0, .int .i64 0] 34)) R K := (st.allocs _).self (Below.refl _ _)
  have st1 := st.allocs (.cells #[.int .i64 0, .int .i64 0, .int .i64 0] 34)
  go_enter Tryd.func57, Tryd.ntmps57
  go_wp2_with (fail)
  refine (pick_st st2 (by omega)).mono ?_
  rintro e w3 ⟨x, rfl, x0, x1, st3, -⟩
  have bx3 := bx1.draw st3 (by omega)
  have stt := st1.chain st3
  clear bx1 st2 st1 st3
  go_wp2_with (fail)
  refine (pick_st (stt.self (Below.refl _ _)) (by omega)).mono ?_
  rintro e w4 ⟨y, rfl, y0, y1, st4, -⟩
  have bx4 := (bx3.draw st4 (by omega)).alloc (.cells #[.int .i64 x, .int .i64 y, .int .i64 0] 34)
  have hb4 := (bx3.draw st4 (by omega)).lt
  have st5 := (stt.chain st4).allocs (.cells #[.int .i64 x, .int .i64 y, .int .i64 0] 34)
  have hx4 : BX (w4.alloc (.cells #[.int .i64 x, .int .i64 y, .int .i64 0] 34)) w4.heap.size [.int .i64 x, .int .i64 y, .int .i64 0] := BX.made _ _
  clear bx3 stt st4
  go_wp2_with (fail)
  generalize w4.alloc (.cells #[.int .i64 x, .int .i64 y, .int .i64 0] 34) = w5 at *
  generalize w4.heap.size = b2 at *
  have e1 := hx4.at_ 1 _ rfl
  go_region_law (first
    | (go_simp; go_at_call 49; refine (pick_st (st5.drew.self (Below.refl _ _)) (by omega)).mono ?_; rintro e w6 ⟨u, rfl, u0, u1, st6, -⟩; have hx6 := hx4.drew.draw st6 (by omega); have bx6 := bx4.drew.draw st6 (by omega); have d1 := hx6.at_ 1 _ rfl; have d2 := hx6.at_ 2 _ rfl; have f2 := hx6.fz 2; have stu := st5.drew.chain st6))
  all_goals
    obtain ⟨z, hz⟩ : ∃ z, IntKind.i64.wrap (y + u) = z := ⟨_, rfl⟩
    rw [hz]
    have bx7 := bx6.far ⟨b2, 2, none⟩ (.int .i64 z) (by show w.heap.size ≠ b2; omega)
    have hx7 := hx6.set 2 (.int .i64 z)
    have st7 := stu.setOwn (b := b2) (by omega) (by omega) 2 (.int .i64 z)
    generalize w6.setCell ⟨b2, 2, none⟩ (.int .i64 z) = w7 at bx7 hx7 st7 ⊢
    clear hz hx6 bx6 d1 d2 f2 stu st6 u1 u0 e1 st5 bx4 hx4
    simp only [List.set_cons_succ, List.set_cons_zero] at hx7
    go_wp2_with (fail)
    refine (odd_st (st7.self (Below.refl _ _)) (by omega) (by omega)).mono ?_
    rintro e w8 ⟨o, rfl, st8⟩
    have bx8 := bx7.draw st8 (by omega)
    have hx8 := hx7.draw st8 (by omega)
    have stt8 := st7.chain st8
    clear bx7 hx7 st7 st8
    cases o
    · skip
      have p0 := bx8.at_ 0 _ rfl
      have p1 := bx8.at_ 1 _ rfl
      have p2 := bx8.at_ 2 _ rfl
      have g0 := bx8.fz 0
      have g1 := bx8.fz 1
      have g2 := bx8.fz 2
      have q0 := hx8.at_ 0 _ rfl
      have q1 := hx8.at_ 1 _ rfl
      have q2 := hx8.at_ 2 _ rfl
      have ST := Lib.hid (stt8)
      go_wp2
      exact bodyPost_ret (v := .agg #[.int .i64 x, .int .i64 y, .int .i64 z]) (by simp [results, Tryd.results57, go_sem, p0, p1, p2]) rfl ⟨_, _, _, rfl, ((((ST.out).setOwn sW lt 0 (.int .i64 x)).setOwn sW lt 1 (.int .i64 y)).setOwn sW lt 2 (.int .i64 z)).more (by omega)⟩
    · go_wp2_with (fail)
      refine (pick_st (stt8.self (Below.refl _ _)) (by omega)).mono ?_
      rintro e w9 ⟨s, rfl, s0, s1, st9, -⟩
      have bx9 := bx8.draw st9 (by omega)
      have hx9 := hx8.draw st9 (by omega)
      have stt9 := stt8.chain st9
      clear bx8 hx8 stt8 st9
      obtain rfl | rfl | rfl : s = 0 ∨ s = 1 ∨ s = 2 := by omega
      · have hw9 := stt9.lt
        have bxa := bx9.alloc (.cells #[.int .i64 (-1), .int .i64 4] 3)
        have hxa := hx9.alloc (.cells #[.int .i64 (-1), .int .i64 4] 3)
        have sta := stt9.allocs (.cells #[.int .i64 (-1), .int .i64 4] 3)
        have hlt9 := hx9.lt
        clear bx9 hx9 stt9
        go_wp2_with (fail)
        refine (pick_st (sta.self (Below.refl _ _)) (by omega)).mono ?_
        rintro e w10 ⟨v, rfl, v0, v1, st10, -⟩
        obtain ⟨vn, rfl⟩ := Int.eq_ofNat_of_zero_le v0
        have vl : vn < 2 := by omega
        have vl2 : (vn : Int) < 2 := by omega
        have t1 := two_at w9 3 (-1) 4 vn vl
        have cc := (st10.cell (p := ⟨w9.heap.size, vn, none⟩) (by simp) (Nat.ne_of_gt hw9)).trans t1
        generalize oneOf (-1) 4 vn = tq at cc
        have bx10 := bxa.draw st10 (by omega)
        have hx10 := hxa.draw st10 (by omega)
        have stt10 := sta.chain st10
        have m0 := hx10.at_ 0 _ rfl
        have n0 := hx10.fz 0
        have bx11 := bx10.far ⟨b2, 0, none⟩ (.int .i64 tq) (by show w.heap.size ≠ b2; omega)
        have hx11 := hx10.set 0 (.int .i64 tq)
        have st11 := stt10.setOwn (b := b2) (by omega) (by omega) 0 (.int .i64 tq)
        simp only [List.set_cons_succ, List.set_cons_zero] at hx11
        clear bxa hxa sta st10 t1 bx10 hx10 stt10 v1
        have p0 := bx11.at_ 0 _ rfl
        have p1 := bx11.at_ 1 _ rfl
        have p2 := bx11.at_ 2 _ rfl
        have g0 := bx11.fz 0
        have g1 := bx11.fz 1
        have g2 := bx11.fz 2
        have q0 := hx11.at_ 0 _ rfl
        have q1 := hx11.at_ 1 _ rfl
        have q2 := hx11.at_ 2 _ rfl
        have ST := Lib.hid (st11)
        go_wp2
        exact bodyPost_ret (v := .agg #[.int .i64 tq, .int .i64 y, .int .i64 z]) (by simp [results, Tryd.results57, go_sem, p0, p1, p2]) rfl ⟨_, _, _, rfl, ((((ST.out).setOwn sW lt 0 (.int .i64 tq)).setOwn sW lt 1 (.int .i64 y)).setOwn sW lt 2 (.int .i64 z)).more (by omega)⟩
      · have m0 := hx9.at_ 1 _ rfl
        have m2 := hx9.at_ 2 _ rfl
        have n0 := hx9.fz 2
        have bx11 := bx9.far ⟨b2, 2, none⟩ (.int .i64 (y - 1)) (by show w.heap.size ≠ b2; omega)
        have hx11 := hx9.set 2 (.int .i64 (y - 1))
        have st11 := stt9.setOwn (b := b2) (by omega) (by omega) 2 (.int .i64 (y - 1))
        simp only [List.set_cons_succ, List.set_cons_zero] at hx11
        clear bx9 hx9 stt9
        have p0 := bx11.at_ 0 _ rfl
        have p1 := bx11.at_ 1 _ rfl
        have p2 := bx11.at_ 2 _ rfl
        have g0 := bx11.fz 0
        have g1 := bx11.fz 1
        have g2 := bx11.fz 2
        have q0 := hx11.at_ 0 _ rfl
        have q1 := hx11.at_ 1 _ rfl
        have q2 := hx11.at_ 2 _ rfl
        have ST := Lib.hid (st11)
        go_wp2
        exact bodyPost_ret (v := .agg #[.int .i64 x, .int .i64 y, .int .i64 (y - 1)]) (by simp [results, Tryd.results57, go_sem, p0, p1, p2]) rfl ⟨_, _, _, rfl, ((((ST.out).setOwn sW lt 0 (.int .i64 x)).setOwn sW lt 1 (.int .i64 y)).setOwn sW lt 2 (.int .i64 (y - 1))).more (by omega)⟩
      · have m2 := hx9.at_ 2 _ rfl
        have n0 := hx9.fz 2
        have bx11 := bx9.far ⟨b2, 2, none⟩ (.int .i64 1000) (by show w.heap.size ≠ b2; omega)
        have hx11 := hx9.set 2 (.int .i64 1000)
        have st11 := stt9.setOwn (b := b2) (by omega) (by omega) 2 (.int .i64 1000)
        simp only [List.set_cons_succ, List.set_cons_zero] at hx11
        clear bx9 hx9 stt9
        have p0 := bx11.at_ 0 _ rfl
        have p1 := bx11.at_ 1 _ rfl
        have p2 := bx11.at_ 2 _ rfl
        have g0 := bx11.fz 0
        have g1 := bx11.fz 1
        have g2 := bx11.fz 2
        have q0 := hx11.at_ 0 _ rfl
        have q1 := hx11.at_ 1 _ rfl
        have q2 := hx11.at_ 2 _ rfl
        have ST := Lib.hid (st11)
        go_wp2
        exact bodyPost_ret (v := .agg #[.int .i64 x, .int .i64 y, .int .i64 1000]) (by simp [results, Tryd.results57, go_sem, p0, p1, p2]) rfl ⟨_, _, _, rfl, ((((ST.out).setOwn sW lt 0 (.int .i64 x)).setOwn sW lt 1 (.int .i64 y)).setOwn sW lt 2 (.int .i64 1000)).more (by omega)⟩
set_option maxRecDepth 100000 in
set_option maxHeartbeats 1000000 in
theorem caster_st {W w : World} {R K : Nat} {N : Int} (st : St W w R K) (hK : K ≤ 10000) (hN : 0 ≤ N) (hN' : N < 1000) :
    Calls Tryd.prog 47 #[.pointer (some ⟨R, 0, none⟩), .int .i64 N] w fun e w' => ∃ f s : Int, e = .returned (.agg #[.int .i64 f, .int .i64 s]) ∧ St W w' R (K + 6) := by
  have lt := st.lt
  have sW := st.gr.size
  have bx1 : BX (w.alloc (.cells #[.int .i64 0, .int .i64 0] 25)) w.heap.size [.int .i64 0, .int .i64 0] := BX.made _ _
  have st2 : St (w.alloc (.cells #[.int .i64 0, .int .i64 0] 25)) (w.alloc (.cells #[.int .i64 0, .int .i64 0] 25)) R K := (st.allocs _).self (Below.refl _ _)
  have st1 := st.allocs (.cells #[.int .i64 0, .int .i64 0] 25)
  go_enter Tryd.func47, Tryd.ntmps47
  go_wp2_with (fail)
  refine (pick_st st2 (by omega)).mono ?_
  rintro e w4 ⟨x, rfl, x0, x1, st4, -⟩
  have bx4 := (bx1.draw st4 (by omega)).alloc (.cells #[.int .i64 (10 + x), .int .i64 0] 25)
  have hb4 := (bx1.draw st4 (by omega)).lt
  have st5 := (st1.chain st4).allocs (.cells #[.int .i64 (10 + x), .int .i64 0] 25)
  have hx4 : BX (w4.alloc (.cells #[.int .i64 (10 + x), .int .i64 0] 25)) w4.heap.size [.int .i64 (10 + x), .int .i64 0] := BX.made _ _
  clear bx1 st1 st2 st4
  go_wp2_with (fail)
  generalize w4.alloc (.cells #[.int .i64 (10 + x), .int .i64 0] 25) = w5 at *
  generalize w4.heap.size = b2 at *
  have e1 := hx4.at_ 0 _ rfl
  go_region_law (first
    | (go_simp; go_at_call 49; refine (pick_st (st5.drew.self (Below.refl _ _)) (by omega)).mono ?_; rintro e w6 ⟨u, rfl, u0, u1, st6, -⟩; have hx6 := hx4.drew.draw st6 (by omega); have bx6 := bx4.drew.draw st6 (by omega); have d1 := hx6.at_ 0 _ rfl; have d2 := hx6.at_ 1 _ rfl; have f2 := hx6.fz 1; have stu := st5.drew.chain st6))
  all_goals
    obtain ⟨z, hz⟩ : ∃ z, IntKind.i64.wrap (10 + x + u) = z := ⟨_, rfl⟩
    try rw [hz]
    have bx7 := bx6.far ⟨b2, 1, none⟩ (.int .i64 z) (by show w.heap.size ≠ b2; omega)
    have hx7 := hx6.set 1 (.int .i64 z)
    have st7 := stu.setOwn (b := b2) (by omega) (by omega) 1 (.int .i64 z)
    generalize w6.setCell ⟨b2, 1, none⟩ (.int .i64 z) = w7 at bx7 hx7 st7 ⊢
    clear hz hx6 bx6 d1 d2 f2 stu st6 u1 u0 e1 st5 bx4 hx4
    simp only [List.set_cons_succ, List.set_cons_zero] at hx7
    go_wp2_with (fail)
    refine (odd_st (st7.self (Below.refl _ _)) (by omega) (by omega)).mono ?_
    rintro e w8 ⟨o, rfl, st8⟩
    have bx8 := bx7.draw st8 (by omega)
    have hx8 := hx7.draw st8 (by omega)
    have stt8 := st7.chain st8
    clear bx7 hx7 st7 st8
    cases o
    · skip
      have p0 := bx8.at_ 0 _ rfl
      have p1 := bx8.at_ 1 _ rfl
      have g0 := bx8.fz 0
      have g1 := bx8.fz 1
      have q0 := hx8.at_ 0 _ rfl
      have q1 := hx8.at_ 1 _ rfl
      have ST := Lib.hid (stt8)
      go_wp2
      exact bodyPost_ret (v := .agg #[.int .i64 (10 + x), .int .i64 z]) (by simp [results, Tryd.results47, go_sem, p0, p1]) rfl ⟨_, _, rfl, (((ST.out).setOwn sW lt 0 (.int .i64 (10 + x))).setOwn sW lt 1 (.int .i64 z)).more (by omega)⟩
    · have hw9 := stt8.lt
      have bxa := bx8.alloc (.cells #[.int .i64 0, .int .i64 5, .int .i64 9, .int .i64 8, .int .i64 9, .int .i64 100] 25)
      have sta := stt8.allocs (.cells #[.int .i64 0, .int .i64 5, .int .i64 9, .int .i64 8, .int .i64 9, .int .i64 100] 25)
      have hra : BX (w8.alloc (.cells #[.int .i64 0, .int .i64 5, .int .i64 9, .int .i64 8, .int .i64 9, .int .i64 100] 25)) w8.heap.size [.int .i64 0, .int .i64 5, .int .i64 9, .int .i64 8, .int .i64 9, .int .i64 100] := BX.made _ _
      clear bx8 hx8 stt8
      go_wp2_with (fail)
      refine (pick_st (sta.self (Below.refl _ _)) (by omega)).mono ?_
      rintro e w9 ⟨v, rfl, v0, v1, st9, -⟩
      have bx9 := bxa.draw st9 (by omega)
      have hr9 := hra.draw st9 (by omega)
      have stt9 := sta.chain st9
      have r0 := hr9.at_ 0 _ rfl
      have r1 := hr9.at_ 1 _ rfl
      have r2 := hr9.at_ 2 _ rfl
      have r3 := hr9.at_ 3 _ rfl
      have r4 := hr9.at_ 4 _ rfl
      have r5 := hr9.at_ 5 _ rfl
      have p0 := bx9.at_ 0 _ rfl
      have p1 := bx9.at_ 1 _ rfl
      have g0 := bx9.fz 0
      have g1 := bx9.fz 1
      clear bxa hra sta st9
      have ST := Lib.hid stt9
      clear stt9 bx9 hr9
      obtain rfl | rfl | rfl : v = 0 ∨ v = 1 ∨ v = 2 := by omega
      · go_wp2
        exact bodyPost_ret (v := .agg #[.int .i64 0, .int .i64 5]) (by simp [results, Tryd.results47, go_sem, p0, p1]) rfl ⟨_, _, rfl, ((ST.out.setOwn sW lt 0 (.int .i64 0)).setOwn sW lt 1 (.int .i64 5)).more (by omega)⟩
      · go_wp2
        exact bodyPost_ret (v := .agg #[.int .i64 9, .int .i64 8]) (by simp [results, Tryd.results47, go_sem, p0, p1]) rfl ⟨_, _, rfl, ((ST.out.setOwn sW lt 0 (.int .i64 9)).setOwn sW lt 1 (.int .i64 8)).more (by omega)⟩
      · go_wp2
        exact bodyPost_ret (v := .agg #[.int .i64 9, .int .i64 100]) (by simp [results, Tryd.results47, go_sem, p0, p1]) rfl ⟨_, _, rfl, ((ST.out.setOwn sW lt 0 (.int .i64 9)).setOwn sW lt 1 (.int .i64 100)).more (by omega)⟩
end Go.Proofs.YtblbfgoifaddiaaDoor
