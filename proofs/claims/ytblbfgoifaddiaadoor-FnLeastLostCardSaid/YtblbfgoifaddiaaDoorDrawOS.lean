/- A drawing world in which the caller has a row of its own, of whatever elements. -/
import Derived.Test.YtblbfgoifaddiaaDoorStOwn
import Derived.Test.YtblbfgoifaddiaaDoorInfo
import Derived.Test.YtblbfgoifaddiaaDoorAppend
import Derived.Test.YtblbfgoifaddiaaDoorOwnApart
import Derived.Deep.RegionHeld3
import Derived.Deep.DeepMust
import Derived.Deep.RegionLaw
namespace Go.Proofs.YtblbfgoifaddiaaDoor
open Go.RowKit
set_option linter.unusedVariables false
/-- a drawing world in which the caller has a row of its own, from block B on -/
structure OS (W w : World) (R K B : Nat) (e : TypeId) (sz : Nat) (v : Value) (n : Nat) (xs : List Value) : Prop where
  st : St W w R K
  own : w.ownsRow B e sz v n xs
  hB : R < B
  hW : W.heap.size ≤ B
  hs : B ≤ w.heap.size
theorem own_ge {w : World} {base : Nat} {e : TypeId} {size n : Nat} {v : Value} {xs : List Value} (h : w.ownsRow base e size v n xs) {k : Nat} (hk : v.ownBlock = some k) : base ≤ k := by
  rcases h.2 with ⟨rfl, _⟩ | ⟨g, cap, cur, rfl, hb, _⟩
  · simp [Value.ownBlock] at hk
  · simp [Value.ownBlock] at hk; omega
section
variable {W w w' w9 : World} {R K K' B sz n n9 : Nat} {e : TypeId} {v v9 : Value} {xs xs9 : List Value} {N : Int}
theorem OS.alloc (h : OS W w R K B e sz v n xs) (o : Obj) : OS W (w.alloc o) R K B e sz v n xs :=
  ⟨h.st.step ((Below.refl _ w).alloc (Nat.le_refl _) o) (Nat.le_refl _), h.own.alloc o, h.hB, h.hW, by have := h.hs; simp; omega⟩
/-- what the caller draws on by a contract -/
theorem OS.draw (h : OS W w R K B e sz v n xs) (st1 : St w w' R K') : OS W w' R K' B e sz v n xs :=
  ⟨h.st.own (Below.refl _ _) st1 (Below.refl _ _), own_other h.own st1.gr (fun k hk => by have := own_ge h.own hk; have := h.hB; omega), h.hB, h.hW, Nat.le_trans h.hs st1.gr.size⟩
theorem pick_os (h : OS W w R K B e sz v n xs) (hK : K ≤ 1000000) :
    Calls Tryd.prog 49 #[.pointer (some ⟨R, 0, none⟩), .int .i64 N] w fun e' w' => ∃ u : Int, e' = .returned (.int .i64 u) ∧ 0 ≤ u ∧ (1 ≤ N → u < N) ∧ OS W w' R (K + 1) B e sz v n xs ∧ St w w' R (K + 1) := by
  refine (pick_st (h.st.self (Below.refl _ _)) hK).mono ?_
  rintro e' w' ⟨u, rfl, h0, h1, st1, hz⟩
  exact ⟨u, rfl, h0, h1, h.draw st1, st1⟩
theorem odd_os (h : OS W w R K B e sz v n xs) (hK : K ≤ 1000000) (hN : -9223372036854775808 ≤ N) :
    Calls Tryd.prog 51 #[.pointer (some ⟨R, 0, none⟩), .int .i64 N] w fun e' w' => ∃ u : Bool, e' = .returned (.bool u) ∧ OS W w' R (K + 1) B e sz v n xs := by
  refine (odd_st (h.st.self (Below.refl _ _)) hK hN).mono ?_
  rintro e' w' ⟨u, rfl, st1⟩
  exact ⟨u, rfl, h.draw st1⟩
theorem OS.append (h : OS W w R K B e sz v n xs) {row : Option Nat} (hg : w.grownBy w9 row) (hrow : ∀ k, row = some k → B ≤ k) {sz9 : Nat} {e9 : TypeId} (ho : w9.ownsRow B e9 sz9 v9 n9 xs9) : OS W w9 R K B e9 sz9 v9 n9 xs9 := by
  have lt := h.st.lt
  have hB := h.hB
  have hb : ∀ k, k < w.heap.size → k < B → w9.heap[k]? = w.heap[k]? := fun k hk hk2 => hg.block k hk (fun e => by have := hrow k e.symm; omega)
  have gr := h.st.gr
  have hW := h.hW
  exact ⟨⟨h.st.rd.keep hg.size (fun k hk => hb k (by omega) (by omega)), ⟨hg.os.trans gr.os, hg.tape.trans gr.tape, hg.output.trans gr.output, Nat.le_trans gr.size hg.size, fun k hk hr => (hb k (Nat.lt_of_lt_of_le hk gr.size) (by omega)).trans (gr.block k hk hr)⟩⟩, ho, h.hB, h.hW, Nat.le_trans h.hs hg.size⟩
theorem OS.more (h : OS W w R K B e sz v n xs) (hK : K ≤ K') : OS W w R K' B e sz v n xs := ⟨h.st.more hK, h.own, h.hB, h.hW, h.hs⟩
theorem OS.drew (h : OS W w R K B e sz v n xs) : OS W w.drew R K B e sz v n xs :=
  ⟨h.st.step (Below.refl _ w).drew (Nat.le_refl _), own_drew h.own, h.hB, h.hW, h.hs⟩
theorem OS.drewN (h : OS W w R K B e sz v n xs) (k : Nat) : OS W (w.drewN k) R K B e sz v n xs :=
  ⟨h.st.step (below_drawn (Below.refl _ w) k) (Nat.le_refl _), own_drewN h.own k, h.hB, h.hW, h.hs⟩
/-- an empty row of the caller's own, newly laid -/
theorem OS.made (st : St W w R K) (e : TypeId) (sz : Nat) : OS W (w.alloc (.cells #[] e)) R K w.heap.size e sz (.slice (some ⟨w.heap.size, 0, none⟩) 0 0) 0 [] :=
  ⟨st.step ((Below.refl _ w).alloc (Nat.le_refl _) _) (Nat.le_refl _), by simpa using (World.ownsRow_made (e := e) (size := sz) (base := w.heap.size) w #[] 0 (Nat.le_refl _) (Nat.zero_le _) (by simp)), st.lt, st.gr.size, by simp⟩
end
theorem step_append_own {P : Program} {ops : Array Oper} {o : Oper} {a : Act} {w : World} {K : Act → World → Prop} {Q : Exit → Act → World → Prop} {E : Prop}
    (hg : o.guard = none) (s x : Operand) (t : TypeId) (hop : o.op = Op.call { callee := Callee.builtin Builtin.append, args := #[s, x], argTypes := #[t, t] })
    (base : Nat) (e : TypeId) (i : TypeInfo) (z : Value) (size bytes : Nat) (h1 : P.underlying t = some (.slice e)) (h2 : P.info? e = some i) (h3 : i.zero = some z) (h4 : i.size = size) (h5 : i.bytes = bytes) (h6 : z.cells.size = size) (h7 : 0 < size)
    (v : Value) (n : Nat) (xs : List Value) (hs : a.eval s = v) (hown : w.ownsRow base e size v n xs)
    (ad : Addr) (m c : Nat) (news : List Value) (hx : a.eval x = .slice (some ad) m c) (hn : news.length = m * size) (hc : ∀ j u, news[j]? = some u → w.cell? (ad.add j) = some u) (h1c : ∀ u ∈ news, u.oneCell' = true)
    (b1 : n + m ≤ maxLen) (b2 : (n + m) * bytes ≤ 140737488355328) (hbase : base ≤ w.heap.size)
    (hK : ∀ v' w', w'.ownsRow base e size v' (n + m) (xs ++ news) → w.grownBy w' v.ownBlock → K (a.put o.dst v') w') :
    if Region.wanted o (yielded ops a.tmps) = true then Oper.wp P o a w K Q else E := by
  have hw : Region.wanted o (yielded ops a.tmps) = true := by simp [Region.wanted, hg]
  rw [if_pos hw]
  obtain ⟨v', w', hrun, r1, r2, _⟩ := run_append_own (P := P) w base t o.type e i z size bytes h1 h2 h3 h4 h5 h6 h7 v n xs hown ad m c news hn hc h1c b1 b2 hbase
  unfold Oper.wp
  simp [execOp, hop, resolve, invoke, builtin, hs, hx, hrun, Result.andThen]
  exact hK v' w' r1 r2
theorem own_one {w : World} {gl base : Nat} {e : TypeId} {p q : Int} (h : Newest w gl e #[.int .i64 p, .int .i64 q]) (hb : base ≤ gl) : w.ownsRow base e 2 (.slice (some ⟨gl, 0, none⟩) 1 1) 1 (pairsV [(p, q)]) :=
  ⟨by simp [pairsV], .inr ⟨gl, 1, _, rfl, hb, h, Nat.le_refl _, by unfold maxLen; omega, by simp, by simp [pairsV]⟩⟩
theorem own_one1 {w : World} {gl base : Nat} {e : TypeId} {p : Int} (h : Newest w gl e #[.int .i64 p]) (hb : base ≤ gl) : w.ownsRow base e 1 (.slice (some ⟨gl, 0, none⟩) 1 1) 1 (intsV .i64 [p]) :=
  ⟨by simp [intsV], .inr ⟨gl, 1, _, rfl, hb, h, Nat.le_refl _, by unfold maxLen; omega, by simp, by simp [intsV]⟩⟩
theorem pairsV_drop1 (L : List (Int × Int)) : pairsV (L.drop 1) = (pairsV L).drop 2 := by
  cases L with
  | nil => rfl
  | cons p r => rfl
theorem intsV_append (k : IntKind) (xs ys : List Int) : intsV k (xs ++ ys) = intsV k xs ++ intsV k ys := by simp [intsV]
theorem intsV_one {k : IntKind} {xs : List Int} : ∀ u ∈ intsV k xs, u.oneCell' = true := by
  intro u hu
  simp [intsV] at hu
  obtain ⟨x, _, rfl⟩ := hu
  rfl
/-- one of two numbers -/
def oneOf (a b : Int) (u : Nat) : Int := if u = 0 then a else b
theorem oneOf_or (a b : Int) (u : Nat) : oneOf a b u = a ∨ oneOf a b u = b := by unfold oneOf; split <;> simp
theorem two_at (w : World) (e : TypeId) (a b : Int) (u : Nat) (h : u < 2) : (w.alloc (.cells #[.int .i64 a, .int .i64 b] e)).cell? ⟨w.heap.size, u, none⟩ = some (.int .i64 (oneOf a b u)) := by
  obtain rfl | rfl : u = 0 ∨ u = 1 := by omega
  · unfold oneOf; rw [if_pos rfl]; go_simp
  · unfold oneOf; rw [if_neg (by decide)]; go_simp
set_option linter.unusedSimpArgs false
theorem step_min {P : Program} {ops : Array Oper} {o : Oper} {a : Act} {w : World} {K : Act → World → Prop} {Q : Exit → Act → World → Prop} {E : Prop}
    (hg : o.guard = none) (x : Operand) (t : TypeId) (hop : o.op = Op.call { callee := Callee.builtin Builtin.min, args := #[.const (.int .i64 1), x], argTypes := #[t, t] })
    (m : Nat) (hs : a.eval x = .int .i64 m) (hm : 1 ≤ m) (hK : K (a.put o.dst (.int .i64 1)) w) :
    if Region.wanted o (yielded ops a.tmps) = true then Oper.wp P o a w K Q else E := by
  have hw : Region.wanted o (yielded ops a.tmps) = true := by simp [Region.wanted, hg]
  rw [if_pos hw]
  have h1 : ¬ ((m : Int) < 1) := by omega
  have h0 : a.eval (.const (.int .i64 1)) = .int .i64 1 := rfl
  have hrun : (Builtin.min_ #[t, t] o.type #[.int .i64 1, .int .i64 m]).run P w = .ok (.int .i64 1) w := by
    simp [Builtin.min_, Builtin.min2, h1, go_sem]
  unfold Oper.wp
  simp [execOp, hop, resolve, invoke, builtin, hs, h0, hrun, Result.andThen]
  exact hK
end Go.Proofs.YtblbfgoifaddiaaDoor
