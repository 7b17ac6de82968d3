/- 'out = append(out, x)' for one pair or one int, where out is a row of the call's own: over any program. -/
import Derived.Test.YtblbfgoifaddiaaDoorMem
import Derived.Maps.AppendAt
import Derived.OwnWalk
namespace Go.Proofs.YtblbfgoifaddiaaDoor
open Go.RowKit
set_option linter.unusedVariables false

/-- block gl is a new one that holds just these cells -/
def Newest (w : World) (gl : Nat) (e : TypeId) (cs : Array Value) : Prop := w.heap[gl]? = some (.cells cs e (0, 0))
theorem Newest.alloc_ {W : World} {gl : Nat} {e : TypeId} {cs : Array Value} (h : W.heap.size = gl) : Newest (W.alloc (.cells cs e)) gl e cs := by
  subst h; exact heap_alloc_new W _
theorem Newest.drew_ {w : World} {gl : Nat} {e : TypeId} {cs : Array Value} (h : Newest w gl e cs) : Newest w.drew gl e cs := h
theorem Newest.drewN_ {w : World} {gl : Nat} {e : TypeId} {cs : Array Value} (h : Newest w gl e cs) (n : Nat) : Newest (w.drewN n) gl e cs := h
theorem news_pair {w : World} {g : Nat} {a b : Int} (h0 : w.cell? ⟨g, 0, none⟩ = some (.int .i64 a)) (h1 : w.cell? ⟨g, 1, none⟩ = some (.int .i64 b)) :
    ∀ j u, (pairsV [(a, b)])[j]? = some u → w.cell? ((⟨g, 0, none⟩ : Addr).add j) = some u := by
  intro j u hu
  rw [add_none]
  match j, hu with
  | 0, hu => simp [pairsV] at hu; subst hu; simpa using h0
  | 1, hu => simp [pairsV] at hu; subst hu; simpa using h1
  | j + 2, hu => simp [pairsV] at hu
theorem news_int {w : World} {g : Nat} {k : IntKind} {a : Int} (h0 : w.cell? ⟨g, 0, none⟩ = some (.int k a)) :
    ∀ j u, (intsV k [a])[j]? = some u → w.cell? ((⟨g, 0, none⟩ : Addr).add j) = some u := by
  intro j u hu
  rw [add_none]
  match j, hu with
  | 0, hu => simp [intsV] at hu; subst hu; simpa using h0
  | j + 1, hu => simp [intsV] at hu
theorem own_form {w : World} {base : Nat} {e : TypeId} {size n : Nat} {v : Value} {xs : List Value} (h : w.ownsRow base e size v n xs) (hn : 0 < n) : ∃ g c, v = .slice (some ⟨g, 0, none⟩) n c ∧ base ≤ g ∧ g < w.heap.size := by
  rcases h.2 with ⟨_, h0⟩ | ⟨g, cap, cur, hv, hb, hg, _⟩
  · omega
  · exact ⟨g, cap, hv, hb, (Array.getElem?_eq_some_iff.1 hg).1⟩

section
variable {P : Program} {ops : Array Oper} {rest : List Oper} {o : Oper} {a : Act} {Q : Exit → Act → World → Prop}
theorem wpList_append_pair (w : World) (hgd : o.guard = none) (s x : Operand) (t : TypeId) (ho : o.op = .call { callee := .builtin .append, args := #[s, x], argTypes := #[t, t] })
    (base : Nat) (e : TypeId) (i : TypeInfo) (ht : P.underlying t = some (.slice e)) (hi : P.info? e = some i) (hz : i.zero = some (.agg #[.int .i64 0, .int .i64 0])) (hsize : i.size = 2) (hby : i.bytes = 16)
    (v : Value) (n : Nat) (L : List (Int × Int)) (hs : a.eval s = v) (hown : w.ownsRow base e 2 v n (pairsV L))
    (gl : Nat) {p q : Int} (hnew : Newest w gl e #[.int .i64 p, .int .i64 q]) (hx : a.eval x = .slice (some ⟨gl, 0, none⟩) 1 1)
    (hn : n ≤ 1000000) (hbase : base ≤ w.heap.size)
    (h : ∀ A' c' w', w'.ownsRow base e 2 (.slice A' (n + 1) c') (n + 1) (pairsV (L ++ [(p, q)])) → w.grownBy w' v.ownBlock → wpList P ops Q rest (a.put o.dst (.slice A' (n + 1) c')) w') : wpList P ops Q (o :: rest) a w := by
  have hg : w.heap[gl]? = some (.cells #[.int .i64 p, .int .i64 q] e (0, 0)) := hnew
  have h0 : w.cell? ⟨gl, 0, none⟩ = some (.int .i64 p) := by rw [cell_of_row w _ 0 _ e (0, 0) hg]; rfl
  have h1 : w.cell? ⟨gl, 1, none⟩ = some (.int .i64 q) := by rw [cell_of_row w _ 1 _ e (0, 0) hg]; rfl
  refine wpList_append_own w hgd s x t ho base e i _ 2 16 ht hi hz hsize hby rfl (by decide) v n (pairsV L) hs hown ⟨gl, 0, none⟩ 1 1 (pairsV [(p, q)]) hx rfl (news_pair h0 h1) pairsV_one (by unfold maxLen; omega) (by omega) hbase ?_
  intro v' w' ho' hg' _
  obtain ⟨g, c, rfl, _, _⟩ := own_form ho' (by omega)
  exact h _ _ w' (by rw [pairsV_append]; exact ho') hg'
theorem wpList_append_int (w : World) (hgd : o.guard = none) (s x : Operand) (t : TypeId) (ho : o.op = .call { callee := .builtin .append, args := #[s, x], argTypes := #[t, t] })
    (base : Nat) (e : TypeId) (i : TypeInfo) (ht : P.underlying t = some (.slice e)) (hi : P.info? e = some i) (hz : i.zero = some (.int .i64 0)) (hsize : i.size = 1) (hby : i.bytes = 8)
    (v : Value) (n : Nat) (L : List Int) (hs : a.eval s = v) (hown : w.ownsRow base e 1 v n (intsV .i64 L))
    (gl : Nat) {p : Int} (hnew : Newest w gl e #[.int .i64 p]) (hx : a.eval x = .slice (some ⟨gl, 0, none⟩) 1 1)
    (hn : n ≤ 1000000) (hbase : base ≤ w.heap.size)
    (h : ∀ A' c' w', w'.ownsRow base e 1 (.slice A' (n + 1) c') (n + 1) (intsV .i64 (L ++ [p])) → w.grownBy w' v.ownBlock → wpList P ops Q rest (a.put o.dst (.slice A' (n + 1) c')) w') : wpList P ops Q (o :: rest) a w := by
  have hg : w.heap[gl]? = some (.cells #[.int .i64 p] e (0, 0)) := hnew
  have h0 : w.cell? ⟨gl, 0, none⟩ = some (.int .i64 p) := by rw [cell_of_row w _ 0 _ e (0, 0) hg]; rfl
  refine wpList_append_own w hgd s x t ho base e i _ 1 8 ht hi hz hsize hby rfl (by decide) v n (intsV .i64 L) hs hown ⟨gl, 0, none⟩ 1 1 (intsV .i64 [p]) hx rfl (news_int h0) (by intro u hu; simp [intsV] at hu; subst hu; rfl) (by unfold maxLen; omega) (by omega) hbase ?_
  intro v' w' ho' hg' _
  obtain ⟨g, c, rfl, _, _⟩ := own_form ho' (by omega)
  exact h _ _ w' (by simpa [intsV] using ho') hg'
end
/-- behind an append: what lies below stays -/
theorem below_append {B : Nat} {a w w' : World} {v : Value} {base : Nat} {e : TypeId} {size n : Nat} {xs : List Value} (h : Below B a w) (hg : w.grownBy w' v.ownBlock) (ho : w.ownsRow base e size v n xs) (hB : B ≤ w.heap.size) (hb : B ≤ base) : Below B a w' :=
  h.grown hg hB (fun k hk => by have := (ho.lt k hk).1; omega)
theorem cell_append {w w' : World} {v : Value} {base : Nat} {e : TypeId} {size n : Nat} {xs : List Value} {p : Addr} {u : Value} (hc : w.cell? p = some u) (hg : w.grownBy w' v.ownBlock) (ho : w.ownsRow base e size v n xs) (hb : p.block < base) : w'.cell? p = some u :=
  hg.cell hc (fun e => by have := (ho.lt p.block e.symm).1; omega)
end Go.Proofs.YtblbfgoifaddiaaDoor
