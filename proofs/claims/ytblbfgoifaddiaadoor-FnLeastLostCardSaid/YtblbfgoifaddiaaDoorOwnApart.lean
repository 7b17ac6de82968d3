/- Rows of one call's own whose elements are of different types lie in different blocks: what is done to one leaves the other. Over any program. -/
import Derived.Test.YtblbfgoifaddiaaDoorAppend
namespace Go.Proofs.YtblbfgoifaddiaaDoor
open Go.RowKit
set_option linter.unusedVariables false
theorem own_tag {w : World} {base : Nat} {e : TypeId} {size n : Nat} {v : Value} {xs : List Value} (h : w.ownsRow base e size v n xs) {k : Nat} (hk : v.ownBlock = some k) : ∃ cur, w.heap[k]? = some (.cells cur e (0, 0)) := by
  rcases h.2 with ⟨rfl, _⟩ | ⟨g, cap, cur, rfl, _, hg, _⟩
  · simp [Value.ownBlock] at hk
  · simp only [Value.ownBlock, Option.some.injEq] at hk
    subst hk
    exact ⟨cur, hg⟩
theorem own_ne {w : World} {b1 b2 : Nat} {e1 e2 : TypeId} {s1 s2 n1 n2 : Nat} {v1 v2 : Value} {xs1 xs2 : List Value} (h1 : w.ownsRow b1 e1 s1 v1 n1 xs1) (h2 : w.ownsRow b2 e2 s2 v2 n2 xs2) (hne : e1 ≠ e2) {k : Nat} (hk : v1.ownBlock = some k) : v2.ownBlock ≠ some k := by
  intro hk2
  obtain ⟨c1, g1⟩ := own_tag h1 hk
  obtain ⟨c2, g2⟩ := own_tag h2 hk2
  rw [g1] at g2
  simp only [Option.some.injEq, Obj.cells.injEq] at g2
  exact hne g2.2.1
/-- a store into a row of another type leaves this one -/
theorem own_types {w w' : World} {b1 b2 : Nat} {e1 e2 : TypeId} {s1 s2 n1 n2 : Nat} {v1 v2 : Value} {xs1 xs2 : List Value} (h1 : w.ownsRow b1 e1 s1 v1 n1 xs1) (h2 : w.ownsRow b2 e2 s2 v2 n2 xs2) (hg : w.grownBy w' v2.ownBlock) (hne : e1 ≠ e2) : w'.ownsRow b1 e1 s1 v1 n1 xs1 :=
  h1.kept hg (by
    cases hv : v1.ownBlock with
    | none => exact .inl rfl
    | some k => exact .inr (own_ne h1 h2 hne hv).symm)
theorem own_cap {w : World} {base : Nat} {e : TypeId} {size n c : Nat} {A : Option Addr} {xs : List Value} (h : w.ownsRow base e size (.slice A n c) n xs) : n ≤ c := by
  rcases h.2 with ⟨hv, h0⟩ | ⟨g, cap, cur, hv, _, _, hc, _⟩
  · injection hv with _ _ h3; omega
  · injection hv with _ _ h3; omega
/-! ### two rows of the same type, each appended to -/
def ApartV (v1 v2 : Value) : Prop := ∀ k, v1.ownBlock = some k → v2.ownBlock ≠ some k
theorem ApartV.symm {v1 v2 : Value} (h : ApartV v1 v2) : ApartV v2 v1 := fun k h2 h1 => h k h1 h2
theorem ApartV.nil (v : Value) : ApartV (.slice none 0 0) v := fun k h => by simp [Value.ownBlock] at h
theorem ApartV.grown {w : World} {b : Nat} {e : TypeId} {sz n : Nat} {xs : List Value} {v1 v1' v2 : Value} (h : ApartV v1 v2) (h2 : w.ownsRow b e sz v2 n xs) (hat : v1'.ownBlock = v1.ownBlock ∨ v1'.ownBlock = some w.heap.size) : ApartV v1' v2 := fun k hk hk2 => by
  rcases hat with e | e
  · exact h k (by rw [← e]; exact hk) hk2
  · rw [e] at hk
    injection hk with hk
    have := (h2.lt k hk2).2
    omega
theorem own_apartV {w w' : World} {b : Nat} {e : TypeId} {sz n : Nat} {xs : List Value} {v1 v2 : Value} (h2 : w.ownsRow b e sz v2 n xs) (h : ApartV v1 v2) (hg : w.grownBy w' v1.ownBlock) : w'.ownsRow b e sz v2 n xs :=
  h2.kept hg (by
    cases hv : v2.ownBlock with
    | none => exact .inl rfl
    | some k => exact .inr (fun e => h k e.symm hv))
section
variable {P : Program} {ops : Array Oper} {rest : List Oper} {o : Oper} {a : Act} {Q : Exit → Act → World → Prop}
theorem wpList_append_pair_at (w : World) (hgd : o.guard = none) (s x : Operand) (t : TypeId) (ho : o.op = .call { callee := .builtin .append, args := #[s, x], argTypes := #[t, t] })
    (base : Nat) (e : TypeId) (i : TypeInfo) (ht : P.underlying t = some (.slice e)) (hi : P.info? e = some i) (hz : i.zero = some (.agg #[.int .i64 0, .int .i64 0])) (hsize : i.size = 2) (hby : i.bytes = 16)
    (v : Value) (n : Nat) (L : List (Int × Int)) (hs : a.eval s = v) (hown : w.ownsRow base e 2 v n (pairsV L))
    (gl : Nat) {p q : Int} (hnew : Newest w gl e #[.int .i64 p, .int .i64 q]) (hx : a.eval x = .slice (some ⟨gl, 0, none⟩) 1 1)
    (hn : n ≤ 1000000) (hbase : base ≤ w.heap.size)
    (h : ∀ A' c' w', w'.ownsRow base e 2 (.slice A' (n + 1) c') (n + 1) (pairsV (L ++ [(p, q)])) → w.grownBy w' v.ownBlock → ((Value.slice A' (n + 1) c').ownBlock = v.ownBlock ∨ (Value.slice A' (n + 1) c').ownBlock = some w.heap.size) → wpList P ops Q rest (a.put o.dst (.slice A' (n + 1) c')) w') : wpList P ops Q (o :: rest) a w := by
  have hg : w.heap[gl]? = some (.cells #[.int .i64 p, .int .i64 q] e (0, 0)) := hnew
  have h0 : w.cell? ⟨gl, 0, none⟩ = some (.int .i64 p) := by rw [cell_of_row w _ 0 _ e (0, 0) hg]; rfl
  have h1 : w.cell? ⟨gl, 1, none⟩ = some (.int .i64 q) := by rw [cell_of_row w _ 1 _ e (0, 0) hg]; rfl
  refine wpList_append_own_at w hgd s x t ho base e i _ 2 16 ht hi hz hsize hby rfl (by decide) v n (pairsV L) hs hown ⟨gl, 0, none⟩ 1 1 (pairsV [(p, q)]) hx rfl (news_pair h0 h1) pairsV_one (by unfold maxLen; omega) (by omega) hbase ?_
  intro v' w' ho' hg' _ hat
  obtain ⟨g, c, rfl, _, _⟩ := own_form ho' (by omega)
  exact h _ _ w' (by rw [pairsV_append]; exact ho') hg' hat
theorem wpList_append_int_at (w : World) (hgd : o.guard = none) (s x : Operand) (t : TypeId) (ho : o.op = .call { callee := .builtin .append, args := #[s, x], argTypes := #[t, t] })
    (base : Nat) (e : TypeId) (i : TypeInfo) (ht : P.underlying t = some (.slice e)) (hi : P.info? e = some i) (hz : i.zero = some (.int .i64 0)) (hsize : i.size = 1) (hby : i.bytes = 8)
    (v : Value) (n : Nat) (L : List Int) (hs : a.eval s = v) (hown : w.ownsRow base e 1 v n (intsV .i64 L))
    (gl : Nat) {p : Int} (hnew : Newest w gl e #[.int .i64 p]) (hx : a.eval x = .slice (some ⟨gl, 0, none⟩) 1 1)
    (hn : n ≤ 1000000) (hbase : base ≤ w.heap.size)
    (h : ∀ A' c' w', w'.ownsRow base e 1 (.slice A' (n + 1) c') (n + 1) (intsV .i64 (L ++ [p])) → w.grownBy w' v.ownBlock → ((Value.slice A' (n + 1) c').ownBlock = v.ownBlock ∨ (Value.slice A' (n + 1) c').ownBlock = some w.heap.size) → wpList P ops Q rest (a.put o.dst (.slice A' (n + 1) c')) w') : wpList P ops Q (o :: rest) a w := by
  have hg : w.heap[gl]? = some (.cells #[.int .i64 p] e (0, 0)) := hnew
  have h0 : w.cell? ⟨gl, 0, none⟩ = some (.int .i64 p) := by rw [cell_of_row w _ 0 _ e (0, 0) hg]; rfl
  refine wpList_append_own_at w hgd s x t ho base e i _ 1 8 ht hi hz hsize hby rfl (by decide) v n (intsV .i64 L) hs hown ⟨gl, 0, none⟩ 1 1 (intsV .i64 [p]) hx rfl (news_int h0) (by intro u hu; simp [intsV] at hu; subst hu; rfl) (by unfold maxLen; omega) (by omega) hbase ?_
  intro v' w' ho' hg' _ hat
  obtain ⟨g, c, rfl, _, _⟩ := own_form ho' (by omega)
  exact h _ _ w' (by simpa [intsV] using ho') hg' hat
end
end Go.Proofs.YtblbfgoifaddiaaDoor
