/- What an order loses: both walks. -/
import Derived.Test.YtblbfgoifaddiaaDoorOrdWalk
namespace Go.Proofs.YtblbfgoifaddiaaDoor
open Go.RowKit
set_option linter.unusedVariables false
set_option linter.unusedSimpArgs false
/-- the kind of a heat, and what is lost between two -/
def kdF (L : List (Int × Int × Int)) (i : Nat) : Nat := ((L.getD i (0, 0, 0)).1).toNat
def costF (L : List (Int × Int × Int)) (rows : List (List Int)) (i j : Nat) : Int := (rows.getD (kdF L i) []).getD (kdF L j) 0
def natO (o : List Int) : List Nat := o.map Int.toNat
def orderLost (L : List (Int × Int × Int)) (rows : List (List Int)) (o : List Int) : Int :=
  if heatsOk L = true ∧ lostOk rows = true ∧ isOrd o L.length = true then oc (costF L rows) none (natO o) else -1
theorem orderLost_1 {L : List (Int × Int × Int)} {rows : List (List Int)} {o : List Int} (h : heatsOk L = false) : orderLost L rows o = -1 := by simp [orderLost, h]
theorem orderLost_2 {L : List (Int × Int × Int)} {rows : List (List Int)} {o : List Int} (h : lostOk rows = false) : orderLost L rows o = -1 := by simp [orderLost, h]
theorem orderLost_3 {L : List (Int × Int × Int)} {rows : List (List Int)} {o : List Int} (h : isOrd o L.length = false) : orderLost L rows o = -1 := by simp [orderLost, h]
theorem orderLost_4 {L : List (Int × Int × Int)} {rows : List (List Int)} {o : List Int} (h : heatsOk L = true) (h2 : lostOk rows = true) (h3 : isOrd o L.length = true) : orderLost L rows o = oc (costF L rows) none (natO o) := by simp [orderLost, h, h2, h3]
section
variable {L : List (Int × Int × Int)} {rows : List (List Int)}
theorem kdF_get {i : Nat} {x y z : Int} (h : L[i]? = some (x, y, z)) : kdF L i = x.toNat := by simp [kdF, List.getD_eq_getElem?_getD, h]
theorem kd_lt (h : heatsOk L = true) {i : Nat} (hi : i < L.length) : ∃ y z, L[i]? = some (((kdF L i : Nat) : Int), y, z) ∧ kdF L i < 4 := by
  obtain ⟨⟨x, y, z⟩, hx⟩ : ∃ q, L[i]? = some q := ⟨_, List.getElem?_eq_getElem hi⟩
  obtain ⟨h0, h1, -⟩ := (heatsOk_facts h).2 i x y z hx
  have e := kdF_get hx
  refine ⟨y, z, ?_, by omega⟩
  rw [hx, show ((kdF L i : Nat) : Int) = x by omega]
theorem cost_get (h2 : lostOk rows = true) {a b : Nat} (ha : a < 4) (hb : b < 4) : ∃ r, rows[a]? = some r ∧ r.length = 4 ∧ r[b]? = some ((rows.getD a []).getD b 0) ∧ 0 ≤ (rows.getD a []).getD b 0 ∧ (rows.getD a []).getD b 0 ≤ 99 := by
  obtain ⟨hl, hf⟩ := lostOk_facts h2
  obtain ⟨r, hr⟩ : ∃ r, rows[a]? = some r := ⟨_, List.getElem?_eq_getElem (by omega)⟩
  obtain ⟨h4, hv⟩ := hf a r hr
  obtain ⟨x, hx⟩ : ∃ x, r[b]? = some x := ⟨_, List.getElem?_eq_getElem (by omega)⟩
  have e : (rows.getD a []).getD b 0 = x := by simp [List.getD_eq_getElem?_getD, hr, hx]
  rw [e]
  exact ⟨r, hr, h4, hx, (hv b x hx).1, (hv b x hx).2⟩
theorem costF_bounds (h : heatsOk L = true) (h2 : lostOk rows = true) (i j : Nat) (hi : i < L.length) (hj : j < L.length) : 0 ≤ costF L rows i j ∧ costF L rows i j ≤ 99 := by
  obtain ⟨-, -, -, a⟩ := kd_lt h hi
  obtain ⟨-, -, -, b⟩ := kd_lt h hj
  obtain ⟨-, -, -, -, h0, h1⟩ := cost_get h2 a b
  exact ⟨h0, h1⟩
/-- where the number for two heats is read -/
theorem cost_at {w : World} {B : Nat} {A A2 : Option Addr} (h : heatsOk L = true) (h2 : lostOk rows = true) (rd : RdT w B A L) (rr : RdR w B A2 rows) {i j : Nat} (hi : i < L.length) (hj : j < L.length) :
    ∃ (b off b2 off2 b3 off3 c3 ki kj : Nat), A = some ⟨b, off, none⟩ ∧ A2 = some ⟨b2, off2, none⟩ ∧ b < B ∧ b2 < B ∧ b3 < B ∧ ki < 4 ∧ kj < 4 ∧
      w.cell? ⟨b, off + i * 3, none⟩ = some (.int .i64 ki) ∧ w.cell? ⟨b, off + j * 3, none⟩ = some (.int .i64 kj) ∧ w.cell? ⟨b2, off2 + ki, none⟩ = some (.slice (some ⟨b3, off3, none⟩) 4 c3) ∧ w.cell? ⟨b3, off3 + kj, none⟩ = some (.int .i64 (costF L rows i j)) ∧ 0 ≤ costF L rows i j ∧ costF L rows i j ≤ 99 := by
  obtain ⟨y, z, hx, a⟩ := kd_lt h hi
  obtain ⟨y', z', hx', a'⟩ := kd_lt h hj
  obtain ⟨b, off, rfl, hb, hc, -, -⟩ := rd i _ _ _ hx
  obtain ⟨b', off', e', hb', hc', -, -⟩ := rd j _ _ _ hx'
  injection e' with e'
  injection e' with e1 e2
  subst e1 e2
  obtain ⟨r, hr, h4, hv, v0, v1⟩ := cost_get h2 a a'
  obtain ⟨b2, off2, rfl, hb2, A', c', hc2, rd2⟩ := rr _ _ hr
  obtain ⟨b3, off3, rfl, hb3, hc3⟩ := rd2 _ _ hv
  rw [h4] at hc2
  exact ⟨b, off, b2, off2, b3, off3, c', kdF L i, kdF L j, rfl, rfl, hb, hb2, hb3, a, a', hc, hc', hc2, hc3, v0, v1⟩
end
theorem natO_get {o : List Int} {k : Nat} {x : Nat} (h : o[k]? = some (x : Int)) : (natO o)[k]? = some x := by simp [natO, h]
theorem oc_take {c : Nat → Nat → Int} {l : List Nat} {k i j : Nat} (hi : l[k]? = some i) (hj : l[k + 1]? = some j) : oc c none (l.take (k + 2)) = oc c none (l.take (k + 1)) + c i j := by
  rw [List.take_add_one (i := k + 1), hj, Option.toList_some, oc_snoc]
  have e : lst none (l.take (k + 1)) = some i := by rw [List.take_add_one, hi, Option.toList_some, lst_snoc]
  rw [e]; rfl
theorem oc_one {c : Nat → Nat → Int} (l : List Nat) : oc c none (l.take 1) = 0 := by
  cases l with
  | nil => rfl
  | cons j t => simp [oc, cst]
set_option maxRecDepth 100000 in
set_option maxHeartbeats 1000000 in
theorem implOrderLost_any (A : Option Addr) (n c : Nat) (L : List (Int × Int × Int)) (A2 : Option Addr) (n2 c2 : Nat) (rows : List (List Int)) (A3 : Option Addr) (n3 c3 : Nat) (o : List Int) (w : World)
    (hl : L.length = n) (hr : RdT w w.heap.size A L) (hn : n ≤ 7) (hl2 : rows.length = n2) (hr2 : RdR w w.heap.size A2 rows) (hn2 : n2 ≤ 100) (hl3 : o.length = n3) (hr3 : RdI .i64 w w.heap.size A3 o) (hn3 : n3 ≤ 1048576 ∧ n3 ≤ c3) :
    Calls Tryd.prog 15 #[.slice A n c, .slice A2 n2 c2, .slice A3 n3 c3] w fun e w' => e = .returned (.int .i64 (orderLost L rows o)) ∧ Below w.heap.size w w' := by
  have HL := Lib.hid hl
  have HL2 := Lib.hid hl2
  have HL3 := Lib.hid hl3
  clear hl hl2 hl3
  cases h1 : heatsOk L
  · have HE : Hid (orderLost L rows o = -1) := Lib.hid (orderLost_1 h1)
    go_enter Tryd.func15, Tryd.ntmps15
    go_wp2_with (fail)
    refine (implHeats_any _ _ _ L _ HL.out hr (by omega)).mono ?_
    rintro e w1 ⟨rfl, hb1⟩
    rw [h1]
    go_wp2
    go_ret
    exact ⟨ret_int HE.out.symm, hb1⟩
  have H1 := Lib.hid h1
  cases h2 : lostOk rows
  · have HE : Hid (orderLost L rows o = -1) := Lib.hid (orderLost_2 h2)
    go_enter Tryd.func15, Tryd.ntmps15
    go_wp2_with (fail)
    refine (implHeats_any _ _ _ L _ HL.out hr (by omega)).mono ?_
    rintro e w1 ⟨rfl, hb1⟩
    rw [h1]
    have hr2' := hr2.up hb1 hb1.size
    go_wp2_with (fail)
    refine (implLost_any _ _ _ rows _ HL2.out hr2' (by omega)).mono ?_
    rintro e w2 ⟨rfl, hb2⟩
    rw [h2]
    have hb2' := below_next hb1 hb2
    go_wp2
    go_ret
    exact ⟨ret_int HE.out.symm, hb2'⟩
  have H2 := Lib.hid h2
  go_enter Tryd.func15, Tryd.ntmps15
  go_wp2_with (fail)
  refine (implHeats_any _ _ _ L _ HL.out hr (by omega)).mono ?_
  rintro e w1 ⟨rfl, hb1⟩
  rw [h1]
  have hr2' := hr2.up hb1 hb1.size
  go_wp2_with (fail)
  refine (implLost_any _ _ _ rows _ HL2.out hr2' (by omega)).mono ?_
  rintro e w2 ⟨rfl, hb2⟩
  rw [h2]
  have hb2' := below_next hb1 hb2
  have hr3' := hr3.up hb2' hb2'.size
  clear hr2' hb1 hb2
  go_wp2_with (fail)
  refine (implOrd_any _ _ _ o n _ HL3.out hr3' (by omega) (by omega)).mono ?_
  rintro e w3 ⟨rfl, hb3⟩
  have hb := below_next hb2' hb3
  clear hb2' hb3 hr3'
  cases h3 : isOrd o n
  · have HE : Hid (orderLost L rows o = -1) := Lib.hid (orderLost_3 (by rw [HL.out]; exact h3))
    go_wp2
    go_ret
    exact ⟨ret_int HE.out.symm, hb⟩
  have HE : Hid (orderLost L rows o = oc (costF L rows) none (natO o)) := Lib.hid (orderLost_4 h1 h2 (by rw [HL.out]; exact h3))
  obtain ⟨e3, hof⟩ := isOrd_facts h3
  rw [HL3.out] at e3
  subst e3
  have r4 := (lostOk_facts h2).1
  rw [HL2.out] at r4
  subst r4
  have n6 := (heatsOk_facts h1).1
  rw [HL.out] at n6
  have HOF := Lib.hid hof
  clear h1 h2 h3 hof
  go_wp2_with (fail)
  go_loopw [7, 8] (fun u v wr => ∃ (k : Nat) (s : Int), (k ≤ n3 ∨ n3 = 0 ∧ k = 1) ∧ 1 ≤ k ∧ v = .int .i64 k ∧ u = .int .i64 s ∧ 0 ≤ s ∧ s ≤ 99 * k ∧ s = oc (costF L rows) none ((natO o).take k) ∧ Below w.heap.size w wr) (fun _ v _ => n3 + 1 - (intOf v).toNat)
  case atStart => exact ⟨1, 0, by omega, Nat.le_refl _, rfl, rfl, by omega, by omega, (oc_one _).symm, hb⟩
  case round =>
    clear hb
    obtain ⟨k, s, hk, hk1, rfl, rfl, s0, s1, hs, hbel⟩ := hrel
    have HS := Lib.hid hs
    have hsz := hbel.size
    clear hs
    by_cases hlt : k < n3
    · obtain ⟨k, rfl⟩ : ∃ q, k = q + 1 := ⟨k - 1, by omega⟩
      obtain ⟨x, hx⟩ : ∃ q, o[k]? = some q := ⟨_, List.getElem?_eq_getElem (by rw [HL3.out]; omega)⟩
      obtain ⟨x', hx'⟩ : ∃ q, o[k + 1]? = some q := ⟨_, List.getElem?_eq_getElem (by rw [HL3.out]; omega)⟩
      obtain ⟨x0, x1, -⟩ := HOF.out k x hx
      obtain ⟨y0, y1, -⟩ := HOF.out (k + 1) x' hx'
      obtain ⟨i, rfl⟩ := Int.eq_ofNat_of_zero_le x0
      obtain ⟨j, rfl⟩ := Int.eq_ofNat_of_zero_le y0
      obtain ⟨b, off, rfl, hbB, hc⟩ := hr3 k _ hx
      obtain ⟨b', off', e', hbB', hc'⟩ := hr3 (k + 1) _ hx'
      injection e' with e'
      injection e' with e1 e2
      subst e1 e2
      obtain ⟨d1, f1, d2, f2, d3, f3, g3, ki, kj, rfl, rfl, q1, q2, q3, q4, q5, q6, q7, q8, q9, v0, v1⟩ := cost_at H1.out H2.out hr hr2 (i := i) (j := j) (by rw [HL.out]; omega) (by rw [HL.out]; omega)
      have HST := Lib.hid (oc_take (c := costF L rows) (natO_get hx) (natO_get hx'))
      generalize costF L rows i j = cv at *
      rw [← hbel.cell (by assumption)] at hc hc' q6 q7 q8 q9
      have kw : IntKind.i64.wrap (k : Int) = (k : Int) := by rw [IntKind.wrap_i64]; omega
      have i0 : (0 : Int) ≤ (i : Int) := by omega
      have j0 : (0 : Int) ≤ (j : Int) := by omega
      have ki4 : (ki : Int) < 4 := by omega
      have kj4 : (kj : Int) < 4 := by omega
      clear hr hr2 hr3 hx hx'
      go_wp2_with (fail)
      go_quiet (fail)
      go_wp2
      go_roundw
      case rel => exact ⟨k + 2, s + cv, by omega, by omega, by go_num, rfl, by omega, by omega, by rw [HST.out, ← HS.out], below_drawn hbel _⟩
      case measure => simp [intOf] <;> omega
    · have HF : Hid (oc (costF L rows) none (natO o) = s) := Lib.hid (by rw [HS.out, List.take_of_length_le (by simp [natO]; have := HL3.out; omega)])
      go_wp2
      go_ret
      exact ⟨ret_int (by rw [HE.out, HF.out]), hbel⟩
set_option maxRecDepth 100000 in
set_option maxHeartbeats 1000000 in
theorem specOrderLost_any (A : Option Addr) (n c : Nat) (L : List (Int × Int × Int)) (A2 : Option Addr) (n2 c2 : Nat) (rows : List (List Int)) (A3 : Option Addr) (n3 c3 : Nat) (o : List Int) (w : World)
    (hl : L.length = n) (hr : RdT w w.heap.size A L) (hn : n ≤ 7) (hl2 : rows.length = n2) (hr2 : RdR w w.heap.size A2 rows) (hn2 : n2 ≤ 100) (hl3 : o.length = n3) (hr3 : RdI .i64 w w.heap.size A3 o) (hn3 : n3 ≤ 1048576 ∧ n3 ≤ c3) :
    Calls Tryd.prog 16 #[.slice A n c, .slice A2 n2 c2, .slice A3 n3 c3] w fun e w' => e = .returned (.int .i64 (orderLost L rows o)) ∧ Below w.heap.size w w' := by
  have HL := Lib.hid hl
  have HL2 := Lib.hid hl2
  have HL3 := Lib.hid hl3
  clear hl hl2 hl3
  cases h1 : heatsOk L
  · have HE : Hid (orderLost L rows o = -1) := Lib.hid (orderLost_1 h1)
    go_enter Tryd.func16, Tryd.ntmps16
    go_wp2_with (fail)
    refine (specHeats_any _ _ _ L _ HL.out hr (by omega)).mono ?_
    rintro e w1 ⟨rfl, hb1⟩
    rw [h1]
    go_wp2
    go_ret
    exact ⟨ret_int HE.out.symm, hb1⟩
  have H1 := Lib.hid h1
  cases h2 : lostOk rows
  · have HE : Hid (orderLost L rows o = -1) := Lib.hid (orderLost_2 h2)
    go_enter Tryd.func16, Tryd.ntmps16
    go_wp2_with (fail)
    refine (specHeats_any _ _ _ L _ HL.out hr (by omega)).mono ?_
    rintro e w1 ⟨rfl, hb1⟩
    rw [h1]
    have hr2' := hr2.up hb1 hb1.size
    go_wp2_with (fail)
    refine (specLost_any _ _ _ rows _ HL2.out hr2' (by omega)).mono ?_
    rintro e w2 ⟨rfl, hb2⟩
    rw [h2]
    have hb2' := below_next hb1 hb2
    go_wp2
    go_ret
    exact ⟨ret_int HE.out.symm, hb2'⟩
  have H2 := Lib.hid h2
  go_enter Tryd.func16, Tryd.ntmps16
  go_wp2_with (fail)
  refine (specHeats_any _ _ _ L _ HL.out hr (by omega)).mono ?_
  rintro e w1 ⟨rfl, hb1⟩
  rw [h1]
  have hr2' := hr2.up hb1 hb1.size
  go_wp2_with (fail)
  refine (specLost_any _ _ _ rows _ HL2.out hr2' (by omega)).mono ?_
  rintro e w2 ⟨rfl, hb2⟩
  rw [h2]
  have hb2' := below_next hb1 hb2
  have hr3' := hr3.up hb2' hb2'.size
  clear hr2' hb1 hb2
  go_wp2_with (fail)
  refine (specOrd_any _ _ _ o n _ HL3.out hr3' hn3 (by omega)).mono ?_
  rintro e w3 ⟨rfl, hb3⟩
  have hb := below_next hb2' hb3
  clear hb2' hb3 hr3'
  cases h3 : isOrd o n
  · have HE : Hid (orderLost L rows o = -1) := Lib.hid (orderLost_3 (by rw [HL.out]; exact h3))
    go_wp2
    go_ret
    exact ⟨ret_int HE.out.symm, hb⟩
  have HE : Hid (orderLost L rows o = oc (costF L rows) none (natO o)) := Lib.hid (orderLost_4 h1 h2 (by rw [HL.out]; exact h3))
  obtain ⟨e3, hof⟩ := isOrd_facts h3
  rw [HL3.out] at e3
  subst e3
  have r4 := (lostOk_facts h2).1
  rw [HL2.out] at r4
  subst r4
  have n6 := (heatsOk_facts h1).1
  rw [HL.out] at n6
  have HOF := Lib.hid hof
  clear h1 h2 h3 hof
  go_wp2_with (fail)
  go_loopw [7, 8] (fun u v wr => ∃ (k : Nat) (s : Int), (k ≤ n3 ∨ n3 = 0 ∧ k = 1) ∧ 1 ≤ k ∧ v = .int .i64 k ∧ u = .int .i64 s ∧ 0 ≤ s ∧ s ≤ 99 * k ∧ s = oc (costF L rows) none ((natO o).take k) ∧ Below w.heap.size w wr) (fun _ v _ => n3 + 1 - (intOf v).toNat)
  case atStart => exact ⟨1, 0, by omega, Nat.le_refl _, rfl, rfl, by omega, by omega, (oc_one _).symm, hb⟩
  case round =>
    clear hb
    obtain ⟨k, s, hk, hk1, rfl, rfl, s0, s1, hs, hbel⟩ := hrel
    have HS := Lib.hid hs
    have hsz := hbel.size
    clear hs
    by_cases hlt : k < n3
    · obtain ⟨k, rfl⟩ : ∃ q, k = q + 1 := ⟨k - 1, by omega⟩
      obtain ⟨x, hx⟩ : ∃ q, o[k]? = some q := ⟨_, List.getElem?_eq_getElem (by rw [HL3.out]; omega)⟩
      obtain ⟨x', hx'⟩ : ∃ q, o[k + 1]? = some q := ⟨_, List.getElem?_eq_getElem (by rw [HL3.out]; omega)⟩
      obtain ⟨x0, x1, -⟩ := HOF.out k x hx
      obtain ⟨y0, y1, -⟩ := HOF.out (k + 1) x' hx'
      obtain ⟨i, rfl⟩ := Int.eq_ofNat_of_zero_le x0
      obtain ⟨j, rfl⟩ := Int.eq_ofNat_of_zero_le y0
      obtain ⟨b, off, rfl, hbB, hc⟩ := hr3 k _ hx
      obtain ⟨b', off', e', hbB', hc'⟩ := hr3 (k + 1) _ hx'
      injection e' with e'
      injection e' with e1 e2
      subst e1 e2
      obtain ⟨d1, f1, d2, f2, d3, f3, g3, ki, kj, rfl, rfl, q1, q2, q3, q4, q5, q6, q7, q8, q9, v0, v1⟩ := cost_at H1.out H2.out hr hr2 (i := i) (j := j) (by rw [HL.out]; omega) (by rw [HL.out]; omega)
      have HST := Lib.hid (oc_take (c := costF L rows) (natO_get hx) (natO_get hx'))
      generalize costF L rows i j = cv at *
      rw [← hbel.cell (by assumption)] at hc hc' q6 q7 q8 q9
      have kw : IntKind.i64.wrap (k : Int) = (k : Int) := by rw [IntKind.wrap_i64]; omega
      have i0 : (0 : Int) ≤ (i : Int) := by omega
      have j0 : (0 : Int) ≤ (j : Int) := by omega
      have ki4 : (ki : Int) < 4 := by omega
      have kj4 : (kj : Int) < 4 := by omega
      clear hr hr2 hr3 hx hx'
      go_wp2_with (fail)
      go_quiet (fail)
      go_wp2
      go_roundw
      case rel => exact ⟨k + 2, s + cv, by omega, by omega, by go_num, rfl, by omega, by omega, by rw [HST.out, ← HS.out], below_drawn hbel _⟩
      case measure => simp [intOf] <;> omega
    · have HF : Hid (oc (costF L rows) none (natO o) = s) := Lib.hid (by rw [HS.out, List.take_of_length_le (by simp [natO]; have := HL3.out; omega)])
      go_wp2
      go_ret
      exact ⟨ret_int (by rw [HE.out, HF.out]), hbel⟩
end Go.Proofs.YtblbfgoifaddiaaDoor
