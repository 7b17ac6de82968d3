/- What is drawn for the law FnSplitEnd. -/
import Derived.Test.YtiddlpgpbafdmaaDoorDrawPE
namespace Go.Proofs.YtiddlpgpbafdmaaDoor
open Go.RowKit
set_option linter.unusedVariables false
set_option linter.unusedSimpArgs false
theorem step_min6 {P : Program} {ops : Array Oper} {o : Oper} {a : Act} {w : World} {K : Act → World → Prop} {Q : Exit → Act → World → Prop} {E : Prop}
    (hg : o.guard = none) (x : Operand) (t : TypeId) (hop : o.op = Op.call { callee := Callee.builtin Builtin.min, args := #[x, .const (.int .i64 6)], argTypes := #[t, t] })
    (m k : Nat) (hs : a.eval x = .int .i64 m) (hm : min m 6 = k) (hK : K (a.put o.dst (.int .i64 k)) w) :
    if Region.wanted o (yielded ops a.tmps) = true then Oper.wp P o a w K Q else E := by
  have hw : Region.wanted o (yielded ops a.tmps) = true := by simp [Region.wanted, hg]
  rw [if_pos hw]
  have h0 : a.eval (.const (.int .i64 6)) = .int .i64 6 := rfl
  have hrun : (Builtin.min_ #[t, t] o.type #[.int .i64 m, .int .i64 6]).run P w = .ok (.int .i64 k) w := by
    by_cases h1 : (6 : Int) < m
    · have hk : k = 6 := by omega
      subst hk
      simp [Builtin.min_, Builtin.min2, h1, go_sem]
    · have hk : k = m := by omega
      subst hk
      simp [Builtin.min_, Builtin.min2, h1, go_sem]
  unfold Oper.wp
  simp [execOp, hop, resolve, invoke, builtin, hs, h0, hrun, Result.andThen]
  exact hK
def DrawnSp (w : World) (e : Ending) (w' : World) : Prop := ∃ (A : Option Addr) (n c : Nat) (L : List (Int × Int)) (r p s : Int), e = .returned (.tuple #[.slice A n c, .agg #[.int .i64 r, .int .i64 p], .int .i64 s]) ∧ L.length = n ∧ n ≤ 9 ∧ w'.ownsRow w.heap.size 39 2 (.slice A n c) n (pairsV L) ∧ Below w.heap.size w w'
set_option maxRecDepth 100000 in
set_option maxHeartbeats 2000000 in
theorem drawSplit_st {w : World} {A : Option Addr} {n c : Nat} {xs : List Int} (hl : xs.length = n) (hc : n ≤ c) (rd : RdI .u8 w w.heap.size A xs) (hn : n ≤ 1048576) (hx : ∀ x ∈ xs, 0 ≤ x ∧ x ≤ 255) :
    Calls Tryd.prog 47 #[.slice A n c] w (DrawnSp w) := by
  have b2 : Below w.heap.size w (w.alloc (.cells #[.int .i64 0, .int .i64 0] 24)) := (Below.refl _ w).alloc (Nat.le_refl _) _
  go_enter Tryd.func47, Tryd.ntmps47
  go_wp2_with (fail)
  refine (open_st hl hc (rd.up b2 b2.size) hn hx).mono ?_
  rintro e w3 ⟨rfl, st3, hz3⟩
  rw [World.size_alloc] at st3 hz3
  have hs2 : (w.alloc (.cells #[.int .i64 0, .int .i64 0] 24)).heap.size = w.heap.size + 1 := World.size_alloc _ _
  have d0 : (w.alloc (.cells #[.int .i64 0, .int .i64 0] 24)).cell? ⟨w.heap.size, 0, none⟩ = some (.int .i64 0) := by go_simp
  have d1 : (w.alloc (.cells #[.int .i64 0, .int .i64 0] 24)).cell? ⟨w.heap.size, 1, none⟩ = some (.int .i64 0) := by go_simp
  have g0 : (w.alloc (.cells #[.int .i64 0, .int .i64 0] 24)).frozen? ⟨w.heap.size, 0, none⟩ = false := by go_simp
  have g1 : (w.alloc (.cells #[.int .i64 0, .int .i64 0] 24)).frozen? ⟨w.heap.size, 1, none⟩ = false := by go_simp
  generalize w.alloc (.cells #[.int .i64 0, .int .i64 0] 24) = w2 at st3 b2 hs2 d0 d1 g0 g1
  clear rd hx hl hc
  go_wp2_with (fail)
  refine (charges_st st3 (by omega) (by omega) (by omega) (by omega) (by omega)).mono ?_
  rintro e w4 ⟨A4, n4, c4, L, rfl, hL, hn9, cs4⟩
  obtain ⟨mm, hmm⟩ : ∃ mm, min n4 6 = mm := ⟨_, rfl⟩
  have hm6 : mm ≤ 6 := by omega
  obtain ⟨hp1, hp2⟩ := pow2_bounds (show mm ≤ 8 by omega)
  have HMM := Lib.hid hmm
  clear st3 hmm
  go_wp2_with (fail)
  go_region_law (first
    | (refine step_min6 rfl (.tmp 16) 3 rfl n4 mm rfl HMM.out ?_)
    | (go_simp; go_at_call 54; refine (furn_cs (by first | exact cs4.drew | exact cs4) (by omega) (by omega) (by omega)).mono ?_; rintro e w5 ⟨r, p, rfl, cs5⟩)
    | (go_simp; go_at_call 61; refine (pick_cs cs7 (by omega)).mono ?_; rintro e w8 ⟨y, rfl, y0, y1, cs8, -⟩; obtain ⟨c0, c1, f0, f1⟩ := cell2 (cs8.st.gr.block w.heap.size (by omega) (by simp)) d0 d1 g0 g1)
    | (go_simp; go_at_call 61; refine (pick_cs cs6 (by omega)).mono ?_; rintro e w7 ⟨s, rfl, s0, s1, cs7, -⟩)
    | (go_simp; go_at_call 61; refine (pick_cs cs5 (by omega)).mono ?_; rintro e w6 ⟨u, rfl, u0, u1, cs6, -⟩))
  all_goals
    have b5 : Below w.heap.size w w8 := b2.trans (cs8.st.below (by omega) (by omega))
    have hfin := own_lower (base' := w.heap.size) (own_two (b := w.heap.size) cs8.own (by omega) (.int .i64 r) (.int .i64 p)) (by omega)
    generalize IntKind.i64.wrap (IntKind.i64.wrap (u + IntKind.i64.wrap (IntKind.i64.wrap (s.tdiv 29) * 300)) - IntKind.i64.wrap (IntKind.i64.wrap (y.tdiv 29) * 400)) = zz
    clear b2 cs4 cs5 cs6 cs7 cs8 d0 d1 g0 g1 hp1 hp2 u1 s1 y1
    go_wp2
    exact bodyPost_ret (v := .tuple #[.slice A4 n4 c4, .agg #[.int .i64 r, .int .i64 p], .int .i64 zz]) (by simp [results, Tryd.results47, go_sem, c0, c1]) rfl ⟨A4, n4, c4, L, r, p, zz, rfl, hL, hn9, hfin, b5.trans (below_set2 _ _ _ _)⟩
end Go.Proofs.YtiddlpgpbafdmaaDoor
