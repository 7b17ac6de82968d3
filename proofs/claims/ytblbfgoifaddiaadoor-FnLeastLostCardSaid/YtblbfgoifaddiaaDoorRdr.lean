/- The reader of the drawn inputs: what its calls return, and that they write their own cell alone. -/
import Derived.Test.YtblbfgoifaddiaaDoorLeaf
import Derived.Test.YtblbfgoifaddiaaDoorMem
import Derived.Test.YtblbfgoifaddiaaDoorBits
import Derived.BigQuiet
import Derived.OwnWalk
namespace Go.Proofs.YtblbfgoifaddiaaDoor
open Go.RowKit
set_option linter.unusedVariables false
theorem i64_xor_nat (a b : Nat) (ha : a < 2 ^ 60) (hb : b < 2 ^ 60) : bits .xor .i64 (a : Int) (b : Int) = ((a ^^^ b : Nat) : Int) := by
  have hx : a ^^^ b < 2 ^ 60 := Nat.xor_lt_two_pow ha hb
  show IntKind.i64.wrap ((BitVec.ofInt 64 (a : Int) ^^^ BitVec.ofInt 64 (b : Int)).toNat : Int) = _
  rw [BitVec.toNat_xor, ofInt_small a (by omega), ofInt_small b (by omega), IntKind.wrap_i64]
  omega
theorem xor_pos {x : Int} (h0 : 0 ≤ x) (h1 : x < 2 ^ 60) : 0 ≤ bits .xor .i64 x (x / 64) := by
  obtain ⟨a, rfl⟩ := Int.eq_ofNat_of_zero_le h0
  have := i64_xor_nat a (a / 64) (by omega) (by omega)
  rw [show ((a / 64 : Nat) : Int) = (a : Int) / 64 by omega] at this
  rw [this]; omega
theorem i64_xor_lt {x : Int} (h0 : 0 ≤ x) (h1 : x < 2 ^ 60) : bits .xor .i64 x (x / 64) < 2 ^ 60 := by
  obtain ⟨a, rfl⟩ := Int.eq_ofNat_of_zero_le h0
  have := i64_xor_nat a (a / 64) (by omega) (by omega)
  rw [show ((a / 64 : Nat) : Int) = (a : Int) / 64 by omega] at this
  rw [this]
  have := Nat.xor_lt_two_pow (x := a) (y := a / 64) (n := 60) (by omega) (by omega)
  omega
/-- the reader at block R: its bytes and its place -/
structure RdK (w : World) (R : Nat) (A : Option Addr) (n c : Nat) (p : Nat) : Prop where
  sl : w.cell? ⟨R, 0, none⟩ = some (.slice A n c)
  at1 : w.cell? ⟨R, 1, none⟩ = some (.int .i64 p)
  f0 : w.frozen? ⟨R, 0, none⟩ = false
  f1 : w.frozen? ⟨R, 1, none⟩ = false
  lt : R < w.heap.size

set_option maxHeartbeats 4000000 in
theorem pick_any (w : World) (R : Nat) (A : Option Addr) (n c : Nat) (xs : List Int) (p : Nat) (N : Int) (hk : RdK w R A n c p) (hl : xs.length = n) (rd : RdI .u8 w R A xs) (hb : ∀ x ∈ xs, 0 ≤ x ∧ x ≤ 255) (hp : p < 1099511627776) (hn : n ≤ 2000) :
    Calls Tryd.prog 49 #[.pointer (some ⟨R, 0, none⟩), .int .i64 N] w fun e w' => (∃ v : Int, e = .returned (.int .i64 v) ∧ 0 ≤ v ∧ (v < N ∨ v = 0)) ∧ ∃ k, w' = (w.setCell ⟨R, 1, none⟩ (.int .i64 ((p : Int) + 1))).drewN k := by
  obtain ⟨sl, at1, f0, f1, lt⟩ := hk
  by_cases hN : N < 1
  · go_enter Tryd.func49, Tryd.ntmps49
    go_wp2
    go_ret
    exact ⟨⟨0, rfl, by omega, .inr rfl⟩, 0, rfl⟩
  · by_cases h0 : n = 0
    · subst h0
      go_enter Tryd.func49, Tryd.ntmps49
      go_wp2
      go_ret
      exact ⟨⟨0, rfl, by omega, .inr rfl⟩, 0, rfl⟩
    · by_cases hlt : p < n
      · obtain ⟨x, hx⟩ : ∃ x, xs[p]? = some x := ⟨_, List.getElem?_eq_getElem (by omega)⟩
        obtain ⟨b, off, rfl, hbR, hcx⟩ := rd p x hx
        have hx1 := hb x (List.mem_of_getElem? hx)
        obtain ⟨hx2, hx3⟩ := hx1
        have hne : b ≠ R := by omega
        have m0 : 0 ≤ x % N := Int.emod_nonneg _ (by omega)
        have m1 : x % N < N := Int.emod_lt_of_pos _ (by omega)
        go_enter Tryd.func49, Tryd.ntmps49
        go_wp2
        go_ret
        exact ⟨⟨_, rfl, m0, .inl m1⟩, 0, rfl⟩
      · obtain ⟨x, hx⟩ : ∃ x, xs[p % n]? = some x := ⟨_, List.getElem?_eq_getElem (by have := Nat.mod_lt p (show 0 < n by omega); omega)⟩
        obtain ⟨y, hy⟩ : ∃ y, xs[(p * 7 + 3) % n]? = some y := ⟨_, List.getElem?_eq_getElem (by have := Nat.mod_lt (p * 7 + 3) (show 0 < n by omega); omega)⟩
        obtain ⟨b, off, rfl, hbR, hcx⟩ := rd _ x hx
        obtain ⟨b', off', e', hbR', hcy⟩ := rd _ y hy
        injection e' with e'
        injection e' with e1 e2
        subst e1 e2
        obtain ⟨hx2, hx3⟩ := hb x (List.mem_of_getElem? hx)
        obtain ⟨hy2, hy3⟩ := hb y (List.mem_of_getElem? hy)
        have hne : b ≠ R := by omega
        have q1 : ((p : Int).tmod n) = ((p % n : Nat) : Int) := by rw [Int.tmod_eq_emod_of_nonneg (by omega)]; rfl
        have q2 : (((p : Int) * 7 + 3).tmod n) = (((p * 7 + 3) % n : Nat) : Int) := by rw [Int.tmod_eq_emod_of_nonneg (by omega)]; rfl
        have q3 : ((p : Int).tdiv n) = ((p / n : Nat) : Int) := by rw [Int.tdiv_eq_ediv_of_nonneg (by omega)]; rfl
        have l1 := Nat.mod_lt p (show 0 < n by omega)
        have l2 := Nat.mod_lt (p * 7 + 3) (show 0 < n by omega)
        have l3 := Nat.div_le_self p n
        generalize p % n = J at q1 hx hcx l1
        generalize (p * 7 + 3) % n = K at q2 hy hcy l2
        generalize p / n = D at q3 l3
        go_enter Tryd.func49, Tryd.ntmps49
        go_wp2_with (fail)
        go_quiet (fail)
        have s0 : 0 ≤ x * 131 + y * 1117 + (p : Int) * 29 + (D : Int) * 53 := by omega
        have s1 : x * 131 + y * 1117 + (p : Int) * 29 + (D : Int) * 53 < 1152921504606846976 := by omega
        generalize x * 131 + y * 1117 + (p : Int) * 29 + (D : Int) * 53 = X at s0 s1 ⊢
        have z0 := xor_pos s0 s1
        have z1 := i64_xor_lt s0 s1
        generalize hZ : bits .xor .i64 X (X / 64) = Z at z0 z1
        have m0 : 0 ≤ Z % N := Int.emod_nonneg _ (by omega)
        have m1 : Z % N < N := Int.emod_lt_of_pos _ (by omega)
        go_wp2
        go_ret
        exact ⟨⟨_, rfl, m0, .inl m1⟩, _, rfl⟩

/-- the reader at block R, as its callers know it: it was drawn from at most K times -/
def Rdr (w : World) (R K : Nat) : Prop := ∃ A n c xs p, RdK w R A n c p ∧ xs.length = n ∧ RdI .u8 w R A xs ∧ (∀ x ∈ xs, 0 ≤ x ∧ x ≤ 255) ∧ n ≤ 2000 ∧ p ≤ K
/-- the reader in world w, which grew out of W by nothing but new blocks and the reader's own -/
structure St (W w : World) (R K : Nat) : Prop where
  rd : Rdr w R K
  gr : W.grownBy w (some R)
theorem rd_grown_trans {a b c : World} {R : Nat} (h : a.grownBy b (some R)) (k : b.grownBy c (some R)) : a.grownBy c (some R) :=
  ⟨k.os.trans h.os, k.tape.trans h.tape, k.output.trans h.output, Nat.le_trans h.size k.size, fun i hi hr => (k.block i (Nat.lt_of_lt_of_le hi h.size) hr).trans (h.block i hi hr)⟩
theorem rd_grown_refl (a : World) (R : Nat) : a.grownBy a (some R) := ⟨rfl, rfl, rfl, Nat.le_refl _, fun _ _ _ => rfl⟩
theorem grown_of_below {B : Nat} {a b : World} {R : Nat} (h : Below B a b) (hB : a.heap.size ≤ B) : a.grownBy b (some R) :=
  ⟨h.os, h.tape, h.output, h.size, fun k hk _ => h.block k (by omega)⟩
theorem St.below {W w : World} {R K B : Nat} (h : St W w R K) (hB : B ≤ R) (hW : B ≤ W.heap.size) : Below B W w :=
  (Below.refl B W).grown h.gr hW (fun k e => by injection e with e; omega)
/-- a world in which the reader's block and those below it are as they were -/
theorem Rdr.keep {w w' : World} {R K : Nat} (h : Rdr w R K) (hs : w.heap.size ≤ w'.heap.size) (hb : ∀ k, k ≤ R → w'.heap[k]? = w.heap[k]?) : Rdr w' R K := by
  obtain ⟨A, n, c, xs, p, ⟨sl, at1, f0, f1, lt⟩, hl, rd, hx, hn, hp⟩ := h
  exact ⟨A, n, c, xs, p, ⟨(World.cell?_of_block (hb R (Nat.le_refl _))).trans sl, (World.cell?_of_block (hb R (Nat.le_refl _))).trans at1, (World.frozen?_of_block (hb R (Nat.le_refl _))).trans f0, (World.frozen?_of_block (hb R (Nat.le_refl _))).trans f1, by omega⟩, hl, rd.keep (fun q hq => World.cell?_of_block (hb _ (by omega))) (Nat.le_refl _), hx, hn, hp⟩
theorem Rdr.more {w : World} {R K K' : Nat} (h : Rdr w R K) (hK : K ≤ K') : Rdr w R K' := by
  obtain ⟨A, n, c, xs, p, a, b, d, e, f, g⟩ := h
  exact ⟨A, n, c, xs, p, a, b, d, e, f, by omega⟩
theorem St.step {W w w' : World} {R K B : Nat} (h : St W w R K) (hb : Below B w w') (hB : w.heap.size ≤ B) : St W w' R K := by
  have lt : R < w.heap.size := by obtain ⟨A, n, c, xs, p, a, _⟩ := h.rd; exact a.lt
  exact ⟨h.rd.keep hb.size (fun k hk => hb.block k (by omega)), rd_grown_trans h.gr (grown_of_below hb hB)⟩

theorem pick_st {W w : World} {R K : Nat} {N : Int} (st : St W w R K) (hK : K ≤ 1000000) :
    Calls Tryd.prog 49 #[.pointer (some ⟨R, 0, none⟩), .int .i64 N] w fun e w' => ∃ v : Int, e = .returned (.int .i64 v) ∧ 0 ≤ v ∧ (1 ≤ N → v < N) ∧ St W w' R (K + 1) ∧ w'.heap.size = w.heap.size := by
  obtain ⟨⟨A, n, c, xs, p, hk, hl, rd, hx, hn, hp⟩, gr⟩ := st
  refine (pick_any w R A n c xs p N hk hl rd hx (by omega) hn).mono ?_
  rintro e w' ⟨⟨v, rfl, h0, h1⟩, k, rfl⟩
  obtain ⟨sl, at1, f0, f1, lt⟩ := hk
  have hbl : ∀ j, j ≠ R → ((w.setCell ⟨R, 1, none⟩ (.int .i64 ((p : Int) + 1))).drewN k).heap[j]? = w.heap[j]? := fun j hj => by
    rw [World.heap_drewN]; exact Below.heap_setCell _ _ _ _ hj
  refine ⟨v, rfl, h0, fun hN => by omega, ⟨⟨A, n, c, xs, p + 1, ⟨?_, ?_, ?_, ?_, ?_⟩, hl, rd.keep (fun q hq => World.cell?_of_block (hbl _ (by omega))) (Nat.le_refl _), hx, hn, by omega⟩, rd_grown_trans gr ⟨rfl, rfl, rfl, by simp [World.setCell], fun j _ hr => hbl j (fun e => hr (by rw [e]))⟩⟩, by simp [World.setCell]⟩
  · go_simp
  · rw [Int.natCast_succ]; go_simp
  · go_simp
  · go_simp
  · simpa [World.setCell] using lt
theorem odd_st {W w : World} {R K : Nat} {N : Int} (st : St W w R K) (hK : K ≤ 1000000) (hN : -9223372036854775808 ≤ N) :
    Calls Tryd.prog 51 #[.pointer (some ⟨R, 0, none⟩), .int .i64 N] w fun e w' => ∃ b : Bool, e = .returned (.bool b) ∧ St W w' R (K + 1) := by
  by_cases h : 0 < N
  · go_enter Tryd.func51, Tryd.ntmps51
    go_wp2_with (go_at_call 49; refine (pick_st st hK).mono ?_; rintro e w1 ⟨v, rfl, h0, h1, st1, hz1⟩)
    go_ret
    exact ⟨_, rfl, st1⟩
  · go_enter Tryd.func51, Tryd.ntmps51
    go_wp2
    go_ret
    have fin : St W w R (K + 1) := ⟨st.rd.more (Nat.le_succ K), st.gr⟩
    exact ⟨.inl rfl, fin⟩
theorem open_st {w : World} {A : Option Addr} {n c : Nat} {xs : List Int} (hl : xs.length = n) (hc : n ≤ c) (rd : RdI .u8 w w.heap.size A xs) (hn : n ≤ 1048576) (hx : ∀ x ∈ xs, 0 ≤ x ∧ x ≤ 255) :
    Calls Tryd.prog 26 #[.slice A n c] w fun e w' => e = .returned (.pointer (some ⟨w.heap.size, 0, none⟩)) ∧ St w w' w.heap.size 0 ∧ w'.heap.size = w.heap.size + 1 := by
  have key : ∀ (m : Nat) (ys : List Int), ys.length = m → m ≤ 2000 → RdI .u8 w w.heap.size A ys → (∀ x ∈ ys, 0 ≤ x ∧ x ≤ 255) → St w (w.alloc (.cells #[.slice A m c, .int .i64 0] 71)) w.heap.size 0 := fun m ys h1 h2 h3 h4 =>
    ⟨⟨A, m, c, ys, 0, ⟨by go_simp, by go_simp, by go_simp, by go_simp, by simp⟩, h1, h3.keep (fun q hq => World.cell?_of_block (Below.heap_alloc _ _ _ hq)) (Nat.le_refl _), h4, h2, Nat.le_refl _⟩, grown_of_below ((Below.refl _ w).alloc (Nat.le_refl _) _) (Nat.le_refl _)⟩
  by_cases h : 2000 < n
  · have fin := key 2000 (xs.take 2000) (by simp; omega) (by omega) (fun j x hj => rd j x (by rw [List.getElem?_take] at hj; split at hj; exact hj; cases hj)) (fun x hj => hx x (List.mem_of_mem_take hj))
    go_enter Tryd.func26, Tryd.ntmps26
    go_wp2
    go_ret
    exact ⟨rfl, fin, by simp⟩
  · have fin := key n xs hl (by omega) rd hx
    go_enter Tryd.func26, Tryd.ntmps26
    go_wp2
    go_ret
    exact ⟨rfl, fin, by simp⟩
theorem results_tmp4 {fn : Func} {t u v x : Tmp} (h : fn.results = #[.tmp t, .tmp u, .tmp v, .tmp x]) (tmps : Array Value) (P : Program) (w : World) :
    (results fn tmps).run P w = .ok (.tuple #[tmps.getD t undef, tmps.getD u undef, tmps.getD v undef, tmps.getD x undef]) w := by
  simp [results, h]
section
variable {w : World} {A : Option Addr} {n c : Nat} {xs : List Int}
end
section
open Go.ChangeShapes Go.WideShapes Go.ChangeAt Go.Joins Go.Deep
theorem open_bytes_cap {P : Program} {H : Type} {enc : TypeId × Value → H} {w : World} {base : Nat} {held : Bool} {r : Reach} {b0 : Nat} {t e : TypeId} {v : Value} {d : DataW H} {p : List MemPlace} (ht : P.underlying t = some (.slice e)) (he : P.underlying e = some (.int .u8)) (hc : P.cellsOf e = 1)
    (hv : Value.okWide P w r b0 t v) (h : DataW.Trod enc P w base (fun _ => true) held t v d p) {A : Option Addr} {n c : Nat} (hs : v = .slice A n c) : n ≤ c := by
  subst hs
  obtain ⟨fuel, hf⟩ := h
  rcases open_ints ht he hc hf with ⟨hcs, _⟩ | ⟨x, l, c', zs, hcs, _, hl, hm, hz, _, hcell, hwz⟩
  · simp [Value.cells] at hcs
    obtain ⟨rfl, rfl, rfl⟩ := hcs
    exact Nat.le_refl _
  · simp [Value.cells] at hcs
    obtain ⟨rfl, rfl, rfl⟩ := hcs
    exact hl
theorem u8_range {xs : List Int} (wf : ∀ x ∈ xs, (Lit.int .u8 x).wf = true) : ∀ x ∈ xs, 0 ≤ x ∧ x ≤ 255 := fun x hx => by
  have h := wf x hx
  have e1 : IntKind.u8.min = 0 := by decide
  have e2 : IntKind.u8.max = 255 := by decide
  simp [Lit.wf, e1, e2] at h
  omega
end
end Go.Proofs.YtblbfgoifaddiaaDoor
