/- What is drawn for the laws FnStrandsOk and FnStrandsMany: wants, a length, and strands for them. -/
import Derived.Test.YtcegmlogjbnoeaaDoorDrawBW
import Derived.Test.YtcegmlogjbnoeaaDoorDrawCW
import Derived.Test.YtcegmlogjbnoeaaDoorFitSpec
namespace Go.Proofs.YtcegmlogjbnoeaaDoor
open Go.RowKit
set_option linter.unusedVariables false
theorem OS.below {W w w' : World} {R K B sz n : Nat} {e : TypeId} {v : Value} {xs : List Value} (h : OS W w R K B e sz v n xs) (hb : Below w.heap.size w w') : OS W w' R K B e sz v n xs :=
  ⟨h.st.step hb (Nat.le_refl _), own_below h.own hb, h.hB, h.hW, Nat.le_trans h.hs hb.size⟩
def DrawnWWs (W : World) (R K : Nat) (w : World) (e : Ending) (w' : World) : Prop := ∃ (A : Option Addr) (n c : Nat) (L : List Int) (long : Int) (A2 : Option Addr) (n2 c2 : Nat) (M : List Int) (B2 : Nat), e = .returned (.tuple #[.slice A n c, .int .i64 long, .slice A2 n2 c2]) ∧ L.length = n ∧ n ≤ 9 ∧ 0 ≤ long ∧ long ≤ 61 ∧ M.length = n2 ∧ n2 ≤ 8 ∧ w.heap.size ≤ B2 ∧ OS W w' R (K + 70) w.heap.size 3 1 (.slice A n c) n (intsV .i64 L) ∧ OS W w' R (K + 70) B2 3 1 (.slice A2 n2 c2) n2 (intsV .i64 M)
set_option maxRecDepth 100000 in
set_option maxHeartbeats 1000000 in
theorem where_st {W w : World} {R K : Nat} (st : St W w R K) (hK : K ≤ 10000) :
    Calls Tryd.prog 83 #[.pointer (some ⟨R, 0, none⟩)] w (DrawnWWs W R K w) := by
  go_enter Tryd.func83, Tryd.ntmps83
  go_wp2_with (fail)
  refine (wants_st st (by omega) (by omega) (by omega)).mono ?_
  rintro e w2 ⟨A4, m, c4, L, long, rfl, hL, hn9, l0, l1, os⟩
  obtain ⟨xs, hxs⟩ := fit_exists L long
  have hs2 := os.hs
  have hlt0 : ∀ k, (Value.slice A4 m c4).ownBlock = some k → k < w2.heap.size := fun k hk => own_lt os.own hk
  have HLT := Lib.hid hlt0
  have HX8 := Lib.hid hxs.le
  have lt2 := os.st.lt
  have sw2 := os.st.gr.size
  clear hlt0 st
  go_wp2_with (fail)
  refine (specFit_any _ _ _ L long _ hL (RdI.of_own os.own) (by omega) xs hxs).mono ?_
  intro e w3 hrow
  obtain ⟨A5, c5, rfl, own5, hb3⟩ := hrow
  have osl := os.below hb3
  have osm : OS W w3 R (K + 40) w2.heap.size 3 1 (.slice A5 xs.length c5) xs.length (intsV .i64 xs) := ⟨os.st.step hb3 (Nat.le_refl _), own5, lt2, sw2, hb3.size⟩
  have hx8 := HX8.out
  clear own5 hb3 os hxs
  generalize hm2 : xs.length = m2 at *
  have HM2 := Lib.hid hm2
  clear hm2
  go_wp2_with (fail)
  go_loopw [8] (fun i wr => ∃ (k : Nat) (M : List Int) (K' : Nat), k ≤ m2 ∧ i = .int .i64 k ∧ M.length = m2 ∧ OS W wr R K' w.heap.size 3 1 (.slice A4 m c4) m (intsV .i64 L) ∧ OS W wr R K' w2.heap.size 3 1 (.slice A5 m2 c5) m2 (intsV .i64 M) ∧ K' ≤ K + 40 + 3 * k) (fun i _ => m2 - (intOf i).toNat)
  case atStart => exact ⟨0, xs, K + 40, Nat.zero_le _, rfl, HM2.out, osl, osm, by omega⟩
  case round =>
    obtain ⟨k, M, K', hk, rfl, hM, osl1, osm1, hK'⟩ := hrel
    clear osl osm
    by_cases hlt : k < m2
    · go_wp2_with (fail)
      refine (pick_st (osm1.st.self (Below.refl _ _)) (by omega)).mono ?_
      rintro e w4 ⟨x, rfl, x0, x1, st4, -⟩
      have osl4 := osl1.draw st4
      have osm4 := osm1.draw st4
      clear osl1 osm1 x1 st4
      by_cases hx0 : x = 0
      · subst hx0
        obtain ⟨g, cc, hform, -, -⟩ := own_form osm4.own (by omega)
        injection hform with hA _ hC
        subst hA
        clear hC cc
        go_wp2_with (fail)
        refine (pick_st (osm4.st.self (Below.refl _ _)) (by omega)).mono ?_
        rintro e w5 ⟨y, rfl, y0, y1, st5, -⟩
        have osl5 := osl4.draw st5
        have osm5 := osm4.draw st5
        have hy1 : y ≤ 8 := by omega
        clear osl4 osm4 y1 st5
        go_wp2_with (fail)
        refine (pick_st (osm5.st.self (Below.refl _ _)) (by omega)).mono ?_
        rintro e w6 ⟨z, rfl, z0, z1, st6, -⟩
        have osl6 := osl5.draw st6
        have osm6 := osm5.draw st6
        have hz1 : z ≤ 19 := by omega
        clear osl5 osm5 z1 st6
        obtain ⟨q, hq⟩ : ∃ q, M[k]? = some q := ⟨_, List.getElem?_eq_getElem (by omega)⟩
        have c1 := own_int osm6.own hq
        have f1 := osm6.own.frozenAt k
        have OSL := Lib.hid osl6
        have OSM := Lib.hid osm6
        have HM := Lib.hid hM
        clear osl6 osm6 hM hq
        have hgl : ∀ j, (Value.slice A4 m c4).ownBlock = some j → j ≠ g := fun j hj e => by
          have h1 := HLT.out j hj
          have h2 := own_ge OSM.out.own (show (Value.slice (some ⟨g, 0, none⟩) m2 c5).ownBlock = some g from rfl)
          omega
        have hg2 := own_ge OSM.out.own (show (Value.slice (some ⟨g, 0, none⟩) m2 c5).ownBlock = some g from rfl)
        have HGL := Lib.hid hgl
        clear hgl
        go_wp2
        go_roundw
        case rel =>
          refine ⟨k + 1, M.set k (y - z / 19), _, by omega, by go_num, by rw [List.length_set]; exact HM.out, ?_, OSM.out.set k _, by omega⟩
          exact OSL.out.apart (row := some g) ⟨rfl, rfl, rfl, by simp, fun j _ hj => Below.heap_setCell w6 ⟨g, k, none⟩ (.int .i64 (y - z / 19)) j (fun e => hj (by rw [e]))⟩ (fun j hj => by injection hj with hj; subst hj; exact ⟨by omega, fun h => HGL.out _ h rfl⟩)
        case measure => simp [intOf] <;> omega
      · have hxb : (x == 0) = false := by simpa using hx0
        go_wp2
        go_roundw
        case rel => exact ⟨k + 1, M, _, by omega, by go_num, hM, osl4, osm4, by omega⟩
        case measure => simp [intOf] <;> omega
    · go_wp2
      go_ret3
      exact ⟨A4, m, c4, L, long, A5, m2, c5, M, w2.heap.size, rfl, hL, hn9, l0, l1, hM, hx8, hs2, osl1.more (by omega), osm1.more (by omega)⟩
/-- drawn wants, a length, and strands -/
def DrawnWW (w : World) (e : Ending) (w' : World) : Prop := ∃ (A : Option Addr) (n c : Nat) (L : List Int) (long : Int) (A2 : Option Addr) (n2 c2 : Nat) (M : List Int), e = .returned (.tuple #[.slice A n c, .int .i64 long, .slice A2 n2 c2]) ∧ L.length = n ∧ n ≤ 9 ∧ 0 ≤ long ∧ long ≤ 61 ∧ M.length = n2 ∧ n2 ≤ 8 ∧ w'.ownsRow w.heap.size 3 1 (.slice A n c) n (intsV .i64 L) ∧ w'.ownsRow w.heap.size 3 1 (.slice A2 n2 c2) n2 (intsV .i64 M) ∧ Below w.heap.size w w'
section
variable {w : World} {A : Option Addr} {n c : Nat} {xs : List Int}
set_option maxHeartbeats 1000000 in
theorem drawStrandsOk_st (hl : xs.length = n) (hc : n ≤ c) (rd : RdI .u8 w w.heap.size A xs) (hn : n ≤ 1048576) (hx : ∀ x ∈ xs, 0 ≤ x ∧ x ≤ 255) :
    Calls Tryd.prog 52 #[.slice A n c] w (DrawnWW w) := by
  go_enter Tryd.func52, Tryd.ntmps52
  go_wp2_with (fail)
  refine (open_st hl hc rd hn hx).mono ?_
  rintro e w1 ⟨rfl, st1, hz1⟩
  go_wp2_with (fail)
  refine (where_st st1 (by omega)).mono ?_
  rintro e w3 ⟨A4, n4, c4, L, long, A5, n5, c5, M, B2, rfl, hL, hn9, l0, l1, hM, hn8, hB, osl, osm⟩
  go_wp2
  go_ret3
  exact ⟨A4, n4, c4, L, long, A5, n5, c5, M, rfl, hL, hn9, l0, l1, hM, hn8, own_lower osl.own (by omega), own_lower osm.own (by omega), osl.st.below (Nat.le_refl _) (Nat.le_refl _)⟩
set_option maxHeartbeats 1000000 in
theorem drawStrandsMany_st (hl : xs.length = n) (hc : n ≤ c) (rd : RdI .u8 w w.heap.size A xs) (hn : n ≤ 1048576) (hx : ∀ x ∈ xs, 0 ≤ x ∧ x ≤ 255) :
    Calls Tryd.prog 56 #[.slice A n c] w (DrawnWW w) := by
  go_enter Tryd.func56, Tryd.ntmps56
  go_wp2_with (fail)
  refine (open_st hl hc rd hn hx).mono ?_
  rintro e w1 ⟨rfl, st1, hz1⟩
  go_wp2_with (fail)
  refine (where_st st1 (by omega)).mono ?_
  rintro e w3 ⟨A4, n4, c4, L, long, A5, n5, c5, M, B2, rfl, hL, hn9, l0, l1, hM, hn8, hB, osl, osm⟩
  go_wp2
  go_ret3
  exact ⟨A4, n4, c4, L, long, A5, n5, c5, M, rfl, hL, hn9, l0, l1, hM, hn8, own_lower osl.own (by omega), own_lower osm.own (by omega), osl.st.below (Nat.le_refl _) (Nat.le_refl _)⟩
end
end Go.Proofs.YtcegmlogjbnoeaaDoor
