/- 'append' as one guarded operation of a list; rows of one call's own, read as cells. -/
import Derived.Test.YtblbfgoifaddiaaDoorAppend
import Derived.Test.YtblbfgoifaddiaaDoorOwnApart
import Derived.Laws.AppendOwn
namespace Go.Proofs.YtblbfgoifaddiaaDoor
open Go.RowKit
set_option linter.unusedVariables false
section
variable {P : Program} {ops : Array Oper} {rest : List Oper} {o : Oper} {a : Act} {Q : Exit → Act → World → Prop}
theorem wpList_append_own_w (w : World) (hw : Region.wanted o (yielded ops a.tmps) = true) (s x : Operand) (t : TypeId)
    (ho : o.op = .call { callee := .builtin .append, args := #[s, x], argTypes := #[t, t] })
    (base : Nat) (e : TypeId) (i : TypeInfo) (z : Value) (size bytes : Nat) (ht : P.underlying t = some (.slice e)) (hi : P.info? e = some i) (hz : i.zero = some z)
    (hsize : i.size = size) (hby : i.bytes = bytes) (hzs : z.cells.size = size) (hsz : 0 < size)
    (v : Value) (n : Nat) (xs : List Value) (hs : a.eval s = v) (hown : w.ownsRow base e size v n xs)
    (ad : Addr) (m c : Nat) (news : List Value) (hx : a.eval x = .slice (some ad) m c) (hl : news.length = m * size) (hnews : ∀ j u, news[j]? = some u → w.cell? (ad.add j) = some u) (h1 : ∀ u ∈ news, u.oneCell' = true)
    (h63 : n + m ≤ maxLen) (hbytes : (n + m) * bytes ≤ 140737488355328) (hbase : base ≤ w.heap.size)
    (h : ∀ v' w', w'.ownsRow base e size v' (n + m) (xs ++ news) → w.grownBy w' v.ownBlock → (v' = .slice none 0 0 ↔ v = .slice none 0 0 ∧ m = 0) → wpList P ops Q rest (a.put o.dst v') w') : wpList P ops Q (o :: rest) a w := by
  unfold wpList
  rw [if_pos hw]
  exact .inl (wp_append_own w s x t ho base e i z size bytes ht hi hz hsize hby hzs hsz v n xs hs hown ad m c news hx hl hnews h1 h63 hbytes hbase fun v' w' h2 h3 h4 => h v' w' h2 h3 h4)
end
theorem own_cells {w : World} {base g n c sz : Nat} {e : TypeId} {xs : List Value} (h : w.ownsRow base e sz (.slice (some ⟨g, 0, none⟩) n c) n xs) : ∀ j u, xs[j]? = some u → w.cell? ((⟨g, 0, none⟩ : Addr).add j) = some u := fun j u hu => h.cells rfl j u hu
theorem own_made0 {w : World} {base : Nat} (hb : base ≤ w.heap.size) (e : TypeId) (sz : Nat) : (w.alloc (.cells #[] e)).ownsRow base e sz (.slice (some ⟨w.heap.size, 0, none⟩) 0 0) 0 [] := by
  simpa using (World.ownsRow_made (e := e) (size := sz) (base := base) w #[] 0 hb (Nat.zero_le _) (by simp))
theorem cells_one2 {w : World} {gl : Nat} {e : TypeId} {p q : Int} (h : Newest w gl e #[.int .i64 p, .int .i64 q]) : ∀ j u, (pairsV [(p, q)])[j]? = some u → w.cell? ((⟨gl, 0, none⟩ : Addr).add j) = some u :=
  news_pair (by rw [cell_of_row w _ 0 _ e (0, 0) h]; rfl) (by rw [cell_of_row w _ 1 _ e (0, 0) h]; rfl)
theorem cells_one1 {w : World} {gl : Nat} {e : TypeId} {p : Int} (h : Newest w gl e #[.int .i64 p]) : ∀ j u, (intsV .i64 [p])[j]? = some u → w.cell? ((⟨gl, 0, none⟩ : Addr).add j) = some u :=
  news_int (by rw [cell_of_row w _ 0 _ e (0, 0) h]; rfl)
/-- a row of pairs of the caller's own, in a later world -/
structure PO (w wk : World) (e : TypeId) (v : Value) (n : Nat) (L : List (Int × Int)) : Prop where
  be : Below w.heap.size w wk
  own : wk.ownsRow w.heap.size e 2 v n (pairsV L)
theorem PO.next {w wk w' : World} {e : TypeId} {v : Value} {n : Nat} {L : List (Int × Int)} (h : PO w wk e v n L) (hb : Below wk.heap.size wk w') : PO w w' e v n L :=
  ⟨h.be.trans (hb.mono h.be.size), own_below h.own hb⟩
theorem PO.rd {w wk : World} {e : TypeId} {A : Option Addr} {n c : Nat} {L : List (Int × Int)} (h : PO w wk e (.slice A n c) n L) : RdP wk wk.heap.size A L := RdP.of_own h.own
theorem own_tail {w : World} {base g n c : Nat} {e : TypeId} {L : List (Int × Int)} (h : w.ownsRow base e 2 (.slice (some ⟨g, 0, none⟩) n c) n (pairsV L)) : RdP w w.heap.size (some ⟨g, 2, none⟩) (L.drop 1) := fun j x y hj => by
  have h2 := RdP.of_own h (1 + j) x y (by rw [← List.getElem?_drop]; exact hj)
  obtain ⟨b, off, e1, hb, c1, c2⟩ := h2
  injection e1 with e1
  injection e1 with e2 e3
  subst e2 e3
  exact ⟨g, 2, rfl, hb, by rw [show 2 + j * 2 = 0 + (1 + j) * 2 by omega]; exact c1, by rw [show 2 + j * 2 + 1 = 0 + (1 + j) * 2 + 1 by omega]; exact c2⟩
end Go.Proofs.YtblbfgoifaddiaaDoor
