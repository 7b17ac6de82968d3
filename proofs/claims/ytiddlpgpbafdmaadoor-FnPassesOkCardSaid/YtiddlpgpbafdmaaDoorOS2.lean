/- A drawing world in which the caller has a row of its own, of whatever elements (beside DrawCS). -/
import Derived.Test.YtiddlpgpbafdmaaDoorDrawP
import Derived.Test.YtiddlpgpbafdmaaDoorAppW
namespace Go.Proofs.YtiddlpgpbafdmaaDoor
open Go.RowKit
set_option linter.unusedVariables false
/-- a drawing world in which the caller has a row of its own, from block B on -/
structure OS (W w : World) (R K B : Nat) (e : TypeId) (sz : Nat) (v : Value) (n : Nat) (xs : List Value) : Prop where
  st : St W w R K
  own : w.ownsRow B e sz v n xs
  hB : R < B
  hW : W.heap.size ≤ B
  hs : B ≤ w.heap.size
section
variable {W w w' w9 : World} {R K K' B sz n n9 : Nat} {e : TypeId} {v v9 : Value} {xs xs9 : List Value} {N : Int}
theorem OS.alloc (h : OS W w R K B e sz v n xs) (o : Obj) : OS W (w.alloc o) R K B e sz v n xs :=
  ⟨h.st.step ((Below.refl _ w).alloc (Nat.le_refl _) o) (Nat.le_refl _), h.own.alloc o, h.hB, h.hW, by have := h.hs; simp; omega⟩
/-- what the caller draws on by a contract -/
theorem OS.draw (h : OS W w R K B e sz v n xs) (st1 : St w w' R K') : OS W w' R K' B e sz v n xs :=
  ⟨h.st.own (Below.refl _ _) st1 (Below.refl _ _), own_other h.own st1.gr (fun k hk => by have := own_ge h.own hk; have := h.hB; omega), h.hB, h.hW, Nat.le_trans h.hs st1.gr.size⟩
theorem pick_os (h : OS W w R K B e sz v n xs) (hK : K ≤ 1000000) :
    Calls Tryd.prog 61 #[.pointer (some ⟨R, 0, none⟩), .int .i64 N] w fun e' w' => ∃ u : Int, e' = .returned (.int .i64 u) ∧ 0 ≤ u ∧ (1 ≤ N → u < N) ∧ OS W w' R (K + 1) B e sz v n xs ∧ St w w' R (K + 1) := by
  refine (pick_st (h.st.self (Below.refl _ _)) hK).mono ?_
  rintro e' w' ⟨u, rfl, h0, h1, st1, hz⟩
  exact ⟨u, rfl, h0, h1, h.draw st1, st1⟩
theorem odd_os (h : OS W w R K B e sz v n xs) (hK : K ≤ 1000000) (hN : -9223372036854775808 ≤ N) :
    Calls Tryd.prog 65 #[.pointer (some ⟨R, 0, none⟩), .int .i64 N] w fun e' w' => ∃ u : Bool, e' = .returned (.bool u) ∧ OS W w' R (K + 1) B e sz v n xs := by
  refine (odd_st (h.st.self (Below.refl _ _)) hK hN).mono ?_
  rintro e' w' ⟨u, rfl, st1⟩
  exact ⟨u, rfl, h.draw st1⟩
theorem OS.append (h : OS W w R K B e sz v n xs) {row : Option Nat} (hg : w.grownBy w9 row) (hrow : ∀ k, row = some k → B ≤ k) {sz9 : Nat} {e9 : TypeId} (ho : w9.ownsRow B e9 sz9 v9 n9 xs9) : OS W w9 R K B e9 sz9 v9 n9 xs9 := by
  have lt := h.st.lt
  have hB := h.hB
  have hb : ∀ k, k < w.heap.size → k < B → w9.heap[k]? = w.heap[k]? := fun k hk hk2 => hg.block k hk (fun e => by have := hrow k e.symm; omega)
  have gr := h.st.gr
  have hW := h.hW
  exact ⟨⟨h.st.rd.keep hg.size (fun k hk => hb k (by omega) (by omega)), ⟨hg.os.trans gr.os, hg.tape.trans gr.tape, hg.output.trans gr.output, Nat.le_trans gr.size hg.size, fun k hk hr => (hb k (Nat.lt_of_lt_of_le hk gr.size) (by omega)).trans (gr.block k hk hr)⟩⟩, ho, h.hB, h.hW, Nat.le_trans h.hs hg.size⟩
theorem OS.more (h : OS W w R K B e sz v n xs) (hK : K ≤ K') : OS W w R K' B e sz v n xs := ⟨h.st.more hK, h.own, h.hB, h.hW, h.hs⟩
theorem OS.drew (h : OS W w R K B e sz v n xs) : OS W w.drew R K B e sz v n xs :=
  ⟨h.st.step (Below.refl _ w).drew (Nat.le_refl _), own_drew h.own, h.hB, h.hW, h.hs⟩
theorem OS.drewN (h : OS W w R K B e sz v n xs) (k : Nat) : OS W (w.drewN k) R K B e sz v n xs :=
  ⟨h.st.step (below_drawn (Below.refl _ w) k) (Nat.le_refl _), own_drewN h.own k, h.hB, h.hW, h.hs⟩
/-- an empty row of the caller's own, newly laid -/
theorem OS.made (st : St W w R K) (e : TypeId) (sz : Nat) : OS W (w.alloc (.cells #[] e)) R K w.heap.size e sz (.slice (some ⟨w.heap.size, 0, none⟩) 0 0) 0 [] :=
  ⟨st.step ((Below.refl _ w).alloc (Nat.le_refl _) _) (Nat.le_refl _), by simpa using (World.ownsRow_made (e := e) (size := sz) (base := w.heap.size) w #[] 0 (Nat.le_refl _) (Nat.zero_le _) (by simp)), st.lt, st.gr.size, by simp⟩
end
/-- a row of the caller's own, while another one grows -/
theorem OS.apart {W w w9 : World} {R K B sz n : Nat} {e : TypeId} {v : Value} {xs : List Value} (h : OS W w R K B e sz v n xs) {row : Option Nat} (hg : w.grownBy w9 row) (hrow : ∀ k, row = some k → B ≤ k ∧ v.ownBlock ≠ some k) : OS W w9 R K B e sz v n xs :=
  h.append hg (fun k hk => (hrow k hk).1) (h.own.kept hg (by
    cases hv : v.ownBlock with
    | none => exact .inl rfl
    | some k => exact .inr (fun e => (hrow k e.symm).2 hv)))
theorem own_lt {w : World} {base : Nat} {e : TypeId} {size n : Nat} {v : Value} {xs : List Value} (h : w.ownsRow base e size v n xs) {k : Nat} (hk : v.ownBlock = some k) : k < w.heap.size := (h.lt k hk).2
theorem pairsV_set1 {xs : List (Int × Int)} {j : Nat} {x y : Int} (z : Int) (h : xs[j]? = some (x, y)) : pairsV (xs.set j (z, y)) = (pairsV xs).set (j * 2) (.int .i64 z) := by
  induction xs generalizing j with
  | nil => simp at h
  | cons p r ih =>
    cases j with
    | zero => simp at h; subst h; simp [pairsV]
    | succ j =>
      rw [show (j + 1) * 2 = j * 2 + 1 + 1 by omega]
      simp [pairsV, ih (j := j) (by simpa using h)]
theorem OS.set2 {W w : World} {R K B g n c : Nat} {e : TypeId} {L : List (Int × Int)} (h : OS W w R K B e 2 (.slice (some ⟨g, 0, none⟩) n c) n (pairsV L)) {k : Nat} {x y : Int} (hk : L[k]? = some (x, y)) (z : Int) :
    OS W (w.setCell ⟨g, k * 2, none⟩ (.int .i64 z)) R K B e 2 (.slice (some ⟨g, 0, none⟩) n c) n (pairsV (L.set k (z, y))) :=
  h.append (row := some g) (w9 := w.setCell ⟨g, k * 2, none⟩ (.int .i64 z)) ⟨rfl, rfl, rfl, by simp, fun j _ hj => Below.heap_setCell w ⟨g, k * 2, none⟩ (.int .i64 z) j (fun e => hj (by rw [e]))⟩ (fun k hk => by injection hk with hk; subst hk; exact own_ge h.own rfl) (by rw [pairsV_set1 z hk]; exact (h.own.stored (k * 2) _).1)
theorem own_pair {w : World} {base g n c : Nat} {e : TypeId} {L : List (Int × Int)} (h : w.ownsRow base e 2 (.slice (some ⟨g, 0, none⟩) n c) n (pairsV L)) {k : Nat} {x y : Int} (hk : L[k]? = some (x, y)) : w.cell? ⟨g, k * 2, none⟩ = some (.int .i64 x) ∧ w.cell? ⟨g, k * 2 + 1, none⟩ = some (.int .i64 y) := by
  obtain ⟨b, off, e1, _, c1, c2⟩ := RdP.of_own h k x y hk
  injection e1 with e1
  injection e1 with e2 e3
  subst e2 e3
  rw [Nat.zero_add] at c1 c2
  exact ⟨c1, c2⟩
theorem pairsV_set3 {xs : List (Int × Int)} {j : Nat} {x y : Int} (z : Int) (h : xs[j]? = some (x, y)) : pairsV (xs.set j (x, z)) = (pairsV xs).set (j * 2 + 1) (.int .i64 z) := by
  induction xs generalizing j with
  | nil => simp at h
  | cons p r ih =>
    cases j with
    | zero => simp at h; subst h; simp [pairsV]
    | succ j =>
      rw [show (j + 1) * 2 = j * 2 + 1 + 1 by omega]
      simp [pairsV, ih (j := j) (by simpa using h)]
theorem OS.set3 {W w : World} {R K B g n c : Nat} {e : TypeId} {L : List (Int × Int)} (h : OS W w R K B e 2 (.slice (some ⟨g, 0, none⟩) n c) n (pairsV L)) {k : Nat} {x y : Int} (hk : L[k]? = some (x, y)) (z : Int) :
    OS W (w.setCell ⟨g, k * 2 + 1, none⟩ (.int .i64 z)) R K B e 2 (.slice (some ⟨g, 0, none⟩) n c) n (pairsV (L.set k (x, z))) :=
  h.append (row := some g) (w9 := w.setCell ⟨g, k * 2 + 1, none⟩ (.int .i64 z)) ⟨rfl, rfl, rfl, by simp, fun j _ hj => Below.heap_setCell w ⟨g, k * 2 + 1, none⟩ (.int .i64 z) j (fun e => hj (by rw [e]))⟩ (fun k hk => by injection hk with hk; subst hk; exact own_ge h.own rfl) (by rw [pairsV_set3 z hk]; exact (h.own.stored (k * 2 + 1) _).1)
end Go.Proofs.YtiddlpgpbafdmaaDoor
