/- What is drawn for the laws FnPassTimes and FnPassEnd: slabs and a furnace. -/
import Derived.Test.YtiddlpgpbafdmaaDoorDrawC2
namespace Go.Proofs.YtiddlpgpbafdmaaDoor
open Go.RowKit
set_option linter.unusedVariables false
theorem furn_cs {W w : World} {R K B : Nat} {e : TypeId} {v : Value} {n : Nat} {L : List (Int × Int)} {N : Int} (h : CS W w R K B e v n L) (hK : K ≤ 10000) (hN : 0 < N) (hN' : N < 1000) :
    Calls Tryd.prog 54 #[.pointer (some ⟨R, 0, none⟩), .int .i64 N] w fun e' w' => ∃ r p : Int, e' = .returned (.agg #[.int .i64 r, .int .i64 p]) ∧ CS W w' R (K + 3) B e v n L := by
  refine (furn_st (h.st.self (Below.refl _ _)) hK hN hN').mono ?_
  rintro e' w' ⟨r, p, rfl, st1⟩
  exact ⟨r, p, rfl, ⟨h.st.own (Below.refl _ _) st1 (Below.refl _ _), own_other h.own st1.gr (fun k hk => by have := own_ge h.own hk; have := h.hB; omega), h.hB, h.hW, Nat.le_trans h.hs st1.gr.size⟩⟩
/-- a drawn list of slabs, and a furnace -/
def DrawnP (w : World) (e : Ending) (w' : World) : Prop := ∃ (A : Option Addr) (n c : Nat) (L : List (Int × Int)) (r p : Int), e = .returned (.tuple #[.slice A n c, .agg #[.int .i64 r, .int .i64 p]]) ∧ L.length = n ∧ n ≤ 9 ∧ w'.ownsRow w.heap.size 39 2 (.slice A n c) n (pairsV L) ∧ Below w.heap.size w w'
theorem cell2 {w0 w1 : World} {b : Nat} {x y : Int} (h : w1.heap[b]? = w0.heap[b]?) (c0 : w0.cell? ⟨b, 0, none⟩ = some (.int .i64 x)) (c1 : w0.cell? ⟨b, 1, none⟩ = some (.int .i64 y)) (f0 : w0.frozen? ⟨b, 0, none⟩ = false) (f1 : w0.frozen? ⟨b, 1, none⟩ = false) :
    w1.cell? ⟨b, 0, none⟩ = some (.int .i64 x) ∧ w1.cell? ⟨b, 1, none⟩ = some (.int .i64 y) ∧ w1.frozen? ⟨b, 0, none⟩ = false ∧ w1.frozen? ⟨b, 1, none⟩ = false :=
  ⟨(World.cell?_of_block h).trans c0, (World.cell?_of_block h).trans c1, (World.frozen?_of_block h).trans f0, (World.frozen?_of_block h).trans f1⟩
theorem own_two {w : World} {base b : Nat} {e : TypeId} {n c : Nat} {A : Option Addr} {xs : List Value} (h : w.ownsRow base e 2 (.slice A n c) n xs) (hb : b < base) (x y : Value) :
    ((w.setCell ⟨b, 0, none⟩ x).setCell ⟨b, 1, none⟩ y).ownsRow base e 2 (.slice A n c) n xs :=
  ownsRow_setCell_below (a := ⟨b, 1, none⟩) (ownsRow_setCell_below (a := ⟨b, 0, none⟩) h hb x) hb y
set_option maxHeartbeats 1000000 in
theorem drawTimes_st {w : World} {A : Option Addr} {n c : Nat} {xs : List Int} (hl : xs.length = n) (hc : n ≤ c) (rd : RdI .u8 w w.heap.size A xs) (hn : n ≤ 1048576) (hx : ∀ x ∈ xs, 0 ≤ x ∧ x ≤ 255) :
    Calls Tryd.prog 37 #[.slice A n c] w (DrawnP w) := by
  have b2 : Below w.heap.size w (w.alloc (.cells #[.int .i64 0, .int .i64 0] 24)) := (Below.refl _ w).alloc (Nat.le_refl _) _
  go_enter Tryd.func37, Tryd.ntmps37
  go_wp2_with (fail)
  refine (open_st hl hc (rd.up b2 b2.size) hn hx).mono ?_
  rintro e w3 ⟨rfl, st3, hz3⟩
  rw [World.size_alloc] at st3 hz3
  have hs2 : (w.alloc (.cells #[.int .i64 0, .int .i64 0] 24)).heap.size = w.heap.size + 1 := World.size_alloc _ _
  have d0 : (w.alloc (.cells #[.int .i64 0, .int .i64 0] 24)).cell? ⟨w.heap.size, 0, none⟩ = some (.int .i64 0) := by go_simp
  have d1 : (w.alloc (.cells #[.int .i64 0, .int .i64 0] 24)).cell? ⟨w.heap.size, 1, none⟩ = some (.int .i64 0) := by go_simp
  have g0 : (w.alloc (.cells #[.int .i64 0, .int .i64 0] 24)).frozen? ⟨w.heap.size, 0, none⟩ = false := by go_simp
  have g1 : (w.alloc (.cells #[.int .i64 0, .int .i64 0] 24)).frozen? ⟨w.heap.size, 1, none⟩ = false := by go_simp
  generalize w.alloc (.cells #[.int .i64 0, .int .i64 0] 24) = w2 at st3 b2 hs2 d0 d1 g0 g1
  clear rd hx hl hc
  go_wp2_with (fail)
  refine (charges_st st3 (by omega) (by omega) (by omega) (by omega) (by omega)).mono ?_
  rintro e w4 ⟨A4, n4, c4, L, rfl, hL, hn9, cs4⟩
  go_wp2_with (fail)
  refine (furn_cs cs4 (by omega) (by omega) (by omega)).mono ?_
  rintro e w5 ⟨r, p, rfl, cs5⟩
  obtain ⟨c0, c1, f0, f1⟩ := cell2 (cs5.st.gr.block w.heap.size (by omega) (by simp)) d0 d1 g0 g1
  have b5 : Below w.heap.size w w5 := b2.trans (cs5.st.below (by omega) (by omega))
  have hfin := own_lower (base' := w.heap.size) (own_two (b := w.heap.size) cs5.own (by omega) (.int .i64 r) (.int .i64 p)) (by omega)
  clear b2 cs4 cs5 d0 d1 g0 g1 st3
  go_wp2
  exact bodyPost_ret (v := .tuple #[.slice A4 n4 c4, .agg #[.int .i64 r, .int .i64 p]]) (by simp [results, Tryd.results37, go_sem, c0, c1]) rfl ⟨A4, n4, c4, L, r, p, rfl, hL, hn9, hfin, b5.trans (below_set2 _ _ _ _)⟩
end Go.Proofs.YtiddlpgpbafdmaaDoor
