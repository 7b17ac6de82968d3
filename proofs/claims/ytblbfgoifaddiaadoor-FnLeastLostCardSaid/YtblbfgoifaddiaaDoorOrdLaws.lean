/- 'LeastLost' of the reference: the walk. -/
/- The plain steps of the laws on orders of heats. -/
/- The plain steps of the laws FnOrderLost and FnLeastLost: the table turned over, a heat less, no losses. -/
import Derived.Test.YtblbfgoifaddiaaDoorBestSpec
import Derived.Test.YtblbfgoifaddiaaDoorDrawOl
namespace Go.Proofs.YtblbfgoifaddiaaDoor
open Go.RowKit
set_option linter.unusedVariables false
set_option linter.unusedSimpArgs false
set_option maxRecDepth 100000 in
set_option maxHeartbeats 1000000 in
theorem specLeastL_any (A : Option Addr) (n c : Nat) (L : List (Int × Int × Int)) (A2 : Option Addr) (n2 c2 : Nat) (rows : List (List Int)) (w : World)
    (hl : L.length = n) (hr : RdT w w.heap.size A L) (hn : n ≤ 7) (hl2 : rows.length = n2) (hr2 : RdR w w.heap.size A2 rows) (hn2 : n2 ≤ 100) :
    Calls Tryd.prog 24 #[.slice A n c, .slice A2 n2 c2] w fun e w' => e = .returned (.int .i64 (leastLost L rows)) ∧ Below w.heap.size w w' := by
  have HL := Lib.hid hl
  have HL2 := Lib.hid hl2
  clear hl hl2
  have hbl := bestRow_len L rows
  obtain ⟨p, hp⟩ : ∃ p, (bestRow L rows).length = p := ⟨_, rfl⟩
  have hp6 : p ≤ 6 := by omega
  have HP := Lib.hid hp
  clear hbl hp
  go_enter Tryd.func24, Tryd.ntmps24
  go_wp2_with (fail)
  refine (specBest_any _ _ _ L _ _ _ rows _ HL.out hr (by omega) HL2.out hr2 (by omega)).mono ?_
  intro e w3 hrow
  obtain ⟨A5, c5, rfl, own5, hb⟩ := hrow
  rw [HP.out] at own5
  rw [HP.out]
  have hrC := hr.up hb hb.size
  have hr2C := hr2.up hb hb.size
  have hc5 := own_cap own5
  have rd5 := RdI.of_own own5
  clear own5
  go_wp2_with (fail)
  refine (specOrderLost_any _ _ _ L _ _ _ rows _ _ _ (bestRow L rows) _ HL.out hrC (by omega) HL2.out hr2C (by omega) HP.out rd5 ⟨by omega, hc5⟩).mono ?_
  rintro e w4 ⟨rfl, hb4⟩
  have hb5 := below_next hb hb4
  clear hb hb4
  go_wp2
  go_ret
  exact ⟨rfl, hb5⟩
end Go.Proofs.YtblbfgoifaddiaaDoor
namespace Go.Proofs.YtblbfgoifaddiaaDoor
open Go.RowKit
set_option linter.unusedVariables false
set_option linter.unusedSimpArgs false
theorem natO_castI (l : List Nat) : natO (castI l) = l := by
  induction l with
  | nil => rfl
  | cons a t ih => simp only [castI, natO, List.map_cons] at ih ⊢; rw [ih]; simp
theorem nodup_take {l : List Nat} (h : l.Nodup) {k x : Nat} (hx : l[k]? = some x) : x ∉ l.take k := fun hm => by
  have e : l = l.take k ++ l.drop k := (List.take_append_drop k l).symm
  rw [e, List.nodup_append] at h
  have hd : x ∈ l.drop k := by
    have h0 : (l.drop k)[0]? = some x := by rw [List.getElem?_drop]; exact hx
    exact List.mem_of_getElem? h0
  exact h.2.2 x hm x hd rfl
theorem hasI_castI {l : List Nat} {x : Nat} (h : x ∉ l) : hasI (castI l) (x : Int) = false := by
  unfold hasI castI
  simp only [List.contains_eq_mem, List.mem_map, decide_eq_false_iff_not]
  rintro ⟨y, hy, e⟩
  have : y = x := by omega
  exact h (this ▸ hy)
theorem isOrd_castI {l : List Nat} {n : Nat} (h1 : l.Nodup) (h2 : ∀ j, j ∈ l → j < n) (h3 : l.length = n) : isOrd (castI l) n = true := by
  have hl : (castI l).length = n := by simp [castI, h3]
  refine isOrd_mk ?_ hl
  have key : ∀ m, okTo (castI l) n m = true := by
    intro m
    induction m with
    | zero => rfl
    | succ m ih =>
      rw [okTo, ih, Bool.true_and]
      cases hx : l[m]? with
      | none => simp [okAt, castI, hx]
      | some x =>
        have hx2 : (castI l)[m]? = some (x : Int) := castI_get hx
        have e : (castI l).take m = castI (l.take m) := by simp [castI, List.map_take]
        rw [okAt_in hx2, e, hasI_castI (nodup_take h1 hx)]
        have := h2 x (List.mem_of_getElem? hx)
        simp only [Bool.not_false, Bool.and_true, inB_iff]
        omega
  exact key _
theorem isOrd_nat {o : List Int} {n : Nat} (h : isOrd o n = true) : (natO o).Nodup ∧ (∀ j, j ∈ natO o → j < n) ∧ (natO o).length = n ∧ castI (natO o) = o := by
  obtain ⟨hl, hf⟩ := isOrd_facts h
  have hb : ∀ x, x ∈ o → 0 ≤ x ∧ x < n := fun x hx => by
    obtain ⟨k, hk⟩ := List.getElem?_of_mem hx
    exact ⟨(hf k x hk).1, (hf k x hk).2.1⟩
  have hc : castI (natO o) = o := by
    unfold castI natO
    rw [List.map_map]
    conv => rhs; rw [← List.map_id o]
    exact List.map_congr_left fun x hx => by have := hb x hx; simp; omega
  refine ⟨?_, fun j hj => ?_, by simp [natO, hl], hc⟩
  · rw [List.nodup_iff_pairwise_ne, List.pairwise_iff_getElem]
    intro i j hi hj hij e
    have hlen : (natO o).length = o.length := by simp [natO]
    rw [hlen] at hi hj
    simp only [natO, List.getElem_map] at e
    have hx := hf j o[j] (List.getElem?_eq_getElem hj)
    have h1 := hb o[i] (List.getElem_mem hi)
    have h2 := hb o[j] (List.getElem_mem hj)
    have e2 : o[i] = o[j] := by omega
    have hmem : o[j] ∈ o.take j := by
      rw [← e2]
      exact List.mem_of_getElem? (l := o.take j) (i := i) (by rw [List.getElem?_take, if_pos hij, List.getElem?_eq_getElem hi])
    have h3 := hx.2.2
    unfold hasI at h3
    rw [List.contains_eq_mem, decide_eq_false_iff_not] at h3
    exact h3 hmem
  · simp only [natO, List.mem_map] at hj
    obtain ⟨x, hx, rfl⟩ := hj
    have := hb x hx; omega
section
variable {L : List (Int × Int × Int)} {rows : List (List Int)}
theorem least_val (h : heatsOk L = true) (h2 : lostOk rows = true) : leastLost L rows = oc (costF L rows) none (bestO (costF L rows) L.length) := by
  have n6 := (heatsOk_facts h).1
  obtain ⟨a, b, c⟩ := (bestO_lists (c := costF L rows) n6).get n6
  rw [leastLost, bestRow_3 h h2, orderLost_4 h h2 (isOrd_castI a b c), natO_castI]
theorem oc_ge0 (h : heatsOk L = true) (h2 : lostOk rows = true) {o : List Nat} (ho : ∀ j, j ∈ o → j < L.length) : 0 ≤ oc (costF L rows) none o :=
  oc_nonneg (n := L.length) (fun i j hi hj => (costF_bounds h h2 i j hi hj).1) o none (fun i e => by cases e) ho
theorem least_nonneg (h : heatsOk L = true) (h2 : lostOk rows = true) : 0 ≤ leastLost L rows := by
  have n6 := (heatsOk_facts h).1
  rw [least_val h h2]
  exact oc_ge0 h h2 ((bestO_lists (c := costF L rows) n6).get n6).2.1
/-- the best order loses no more than any -/
theorem least_le (h : heatsOk L = true) (h2 : lostOk rows = true) {o : List Nat} (a : o.Nodup) (b : ∀ j, j ∈ o → j < L.length) (c : o.length = L.length) : leastLost L rows ≤ oc (costF L rows) none o := by
  have n6 := (heatsOk_facts h).1
  rw [least_val h h2]
  exact bestO_le n6 (lists0 n6 a b c)
/-- either the arguments are no good, or they are -/
theorem orderLost_cases (L : List (Int × Int × Int)) (rows : List (List Int)) (o : List Int) : orderLost L rows o = -1 ∨ (heatsOk L = true ∧ lostOk rows = true ∧ isOrd o L.length = true ∧ orderLost L rows o = oc (costF L rows) none (natO o) ∧ 0 ≤ orderLost L rows o) := by
  cases h1 : heatsOk L
  · exact .inl (orderLost_1 h1)
  cases h2 : lostOk rows
  · exact .inl (orderLost_2 h2)
  cases h3 : isOrd o L.length
  · exact .inl (orderLost_3 h3)
  · refine .inr ⟨rfl, rfl, rfl, orderLost_4 h1 h2 h3, ?_⟩
    rw [orderLost_4 h1 h2 h3]
    exact oc_ge0 h1 h2 (isOrd_nat h3).2.1
end
end Go.Proofs.YtblbfgoifaddiaaDoor
namespace Go.Proofs.YtblbfgoifaddiaaDoor
open Go.RowKit
set_option linter.unusedVariables false
set_option linter.unusedSimpArgs false
def turnRow (rows : List (List Int)) (k j : Nat) : List Int := (List.range j).map fun i => (rows.getD i []).getD k 0
def turnTo (rows : List (List Int)) (k : Nat) : List (List Int) := (List.range k).map fun i => turnRow rows i 4
theorem turnRow_succ (rows : List (List Int)) (k j : Nat) : turnRow rows k j ++ [(rows.getD j []).getD k 0] = turnRow rows k (j + 1) := by simp [turnRow, List.range_succ]
theorem turnTo_succ (rows : List (List Int)) (k : Nat) : turnTo rows k ++ [turnRow rows k 4] = turnTo rows (k + 1) := by simp [turnTo, List.range_succ]
theorem turnRow_len (rows : List (List Int)) (k j : Nat) : (turnRow rows k j).length = j := by simp [turnRow]
theorem turnTo_len (rows : List (List Int)) (k : Nat) : (turnTo rows k).length = k := by simp [turnTo]
def zeroRows : List (List Int) := List.replicate 4 (List.replicate 4 0)
section
variable {L : List (Int × Int × Int)} {rows : List (List Int)}
theorem turn_ok (h2 : lostOk rows = true) : lostOk (turnTo rows 4) = true := by
  refine lostOk_mk (turnTo_len _ _) ?_
  rw [List.all_eq_true]
  intro r hr
  obtain ⟨k, hk, rfl⟩ := List.mem_map.1 hr
  have hk4 : k < 4 := List.mem_range.1 hk
  refine rowOk_mk (turnRow_len _ _ _) ?_
  rw [List.all_eq_true]
  intro x hx
  obtain ⟨j, hj, rfl⟩ := List.mem_map.1 hx
  obtain ⟨-, -, -, -, h0, h1⟩ := cost_get h2 (List.mem_range.1 hj) hk4
  exact inB_iff.2 ⟨h0, h1⟩
theorem turn_at {a b : Nat} (ha : a < 4) (hb : b < 4) : ((turnTo rows 4).getD a []).getD b 0 = (rows.getD b []).getD a 0 := by
  simp [turnTo, turnRow, List.getD_eq_getElem?_getD, ha, hb]
theorem kdF_out {i : Nat} (h : L.length ≤ i) : kdF L i = 0 := by simp [kdF, List.getD_eq_getElem?_getD, List.getElem?_eq_none h]
theorem kd4 (h : heatsOk L = true) (i : Nat) : kdF L i < 4 := by
  by_cases hi : i < L.length
  · obtain ⟨-, -, -, a⟩ := kd_lt h hi; exact a
  · rw [kdF_out (by omega)]; decide
/-- the other way round, with the table turned over, as much is lost -/
theorem turn_lost (h1 : heatsOk L = true) (h2 : lostOk rows = true) {o : List Int} (h3 : isOrd o L.length = true) : orderLost L (turnTo rows 4) o.reverse = orderLost L rows o := by
  obtain ⟨a, b, c, e⟩ := isOrd_nat h3
  have e2 : o.reverse = castI (natO o).reverse := by
    conv => lhs; rw [← e]
    unfold castI
    rw [List.map_reverse]
  have hc : costF L (turnTo rows 4) = fun i j => costF L rows j i := by funext i j; exact turn_at (kd4 h1 i) (kd4 h1 j)
  rw [e2, orderLost_4 h1 (turn_ok h2) (isOrd_castI ((List.reverse_perm _).nodup_iff.2 a) (fun j hj => b j (List.mem_reverse.1 hj)) (by simp [c])), natO_castI, hc, oc_rev, orderLost_4 h1 h2 h3]
/-- no order loses less than the least -/
theorem least_order (h1 : heatsOk L = true) (h2 : lostOk rows = true) {o : List Int} (h3 : isOrd o L.length = true) : leastLost L rows ≤ orderLost L rows o := by
  obtain ⟨a, b, c, e⟩ := isOrd_nat h3
  rw [orderLost_4 h1 h2 h3]
  exact least_le h1 h2 a b c
/-- either the arguments are no good, or they are -/
theorem leastLost_cases (L : List (Int × Int × Int)) (rows : List (List Int)) : leastLost L rows = -1 ∨ (heatsOk L = true ∧ lostOk rows = true ∧ 0 ≤ leastLost L rows) := by
  cases h1 : heatsOk L
  · exact .inl (orderLost_1 h1)
  cases h2 : lostOk rows
  · exact .inl (orderLost_2 h2)
  · exact .inr ⟨rfl, rfl, least_nonneg h1 h2⟩
/-! ### a heat less -/
def pickT (L : List (Int × Int × Int)) (o : List Nat) : List (Int × Int × Int) := o.map fun i => L.getD i (0, 0, 0)
theorem pickT_succ {o : List Nat} {k i : Nat} (h : o[k]? = some i) : pickT L (o.take k) ++ [L.getD i (0, 0, 0)] = pickT L (o.take (k + 1)) := by
  rw [List.take_add_one, h]; simp [pickT]
theorem pickT_len (o : List Nat) : (pickT L o).length = o.length := by simp [pickT]
theorem pickT_ok (h : heatsOk L = true) {o : List Nat} (ho : ∀ j, j ∈ o → j < L.length) (h6 : o.length ≤ 6) : heatsOk (pickT L o) = true := by
  refine heatsOk_mk (by rw [pickT_len]; exact h6) ?_
  rw [List.all_eq_true]
  intro q hq
  obtain ⟨i, hi, rfl⟩ := List.mem_map.1 hq
  have hi' := ho i hi
  have h0 := (heatsOk_facts h).2
  have e : L[i]? = some (L.getD i (0, 0, 0)) := by simp [List.getD_eq_getElem?_getD, List.getElem?_eq_getElem hi']
  exact heatOk_iff.2 (h0 i _ _ _ e)
theorem range_getD (o : List Nat) (d : Nat) : (List.range o.length).map (fun i => o.getD i d) = o := by
  refine List.ext_getElem (by simp) fun i h1 h2 => ?_
  simp [List.getD_eq_getElem?_getD, List.getElem?_eq_getElem h2]
theorem kdF_pick {o : List Nat} (i : Nat) : kdF (pickT L o) i = kdF L (o.getD i L.length) := by
  by_cases hi : i < o.length
  · have e : (pickT L o).getD i (0, 0, 0) = L.getD (o.getD i L.length) (0, 0, 0) := by
      simp [pickT, List.getD_eq_getElem?_getD, List.getElem?_eq_getElem hi]
    unfold kdF
    rw [e]
  · rw [kdF_out (by rw [pickT_len]; omega)]
    have e : o.getD i L.length = L.length := by simp [List.getD_eq_getElem?_getD, List.getElem?_eq_none (Nat.le_of_not_lt hi)]
    rw [e, kdF_out (Nat.le_refl _)]
/-- the heats of an order's beginning lose no more than the order -/
theorem pick_least (h : heatsOk L = true) (h2 : lostOk rows = true) {o : List Nat} (ho : ∀ j, j ∈ o → j < L.length) (h6 : o.length ≤ 6) : leastLost (pickT L o) rows ≤ oc (costF L rows) none o := by
  have hc : ∀ i j, costF (pickT L o) rows i j = costF L rows (o.getD i L.length) (o.getD j L.length) := fun i j => by unfold costF; rw [kdF_pick, kdF_pick]
  have hm := oc_map (c := costF L rows) (c' := costF (pickT L o) rows) (g := fun i => o.getD i L.length) hc (List.range o.length) none
  rw [range_getD, Option.map_none] at hm
  rw [← hm]
  exact least_le (pickT_ok h ho h6) h2 (List.nodup_range) (fun j hj => by rw [pickT_len]; exact List.mem_range.1 hj) (by rw [pickT_len, List.length_range])
theorem oc_take_le (h : heatsOk L = true) (h2 : lostOk rows = true) {o : List Nat} (ho : ∀ j, j ∈ o → j < L.length) (k : Nat) : oc (costF L rows) none (o.take k) ≤ oc (costF L rows) none o := by
  induction hn : o.length - k generalizing k with
  | zero => rw [List.take_of_length_le (by omega)]; exact Int.le_refl _
  | succ m ih =>
    refine Int.le_trans ?_ (ih (k + 1) (by omega))
    have hx : o[k]? = some o[k] := List.getElem?_eq_getElem (by omega)
    rw [List.take_add_one, hx, Option.toList_some, oc_snoc]
    have hk : o[k] < L.length := ho _ (List.getElem_mem (by omega))
    have : 0 ≤ cst (costF L rows) (lst none (o.take k)) o[k] := by
      cases k with
      | zero => simp [lst, cst]
      | succ k =>
        have hy : o[k]? = some o[k] := List.getElem?_eq_getElem (by omega)
        rw [List.take_add_one, hy, Option.toList_some, lst_snoc]
        exact (costF_bounds h h2 _ _ (ho _ (List.getElem_mem (by omega))) hk).1
    omega
/-- without the last heat of the best order no more is lost -/
theorem fewer_least (h : heatsOk L = true) (h2 : lostOk rows = true) (k : Nat) : leastLost (pickT L ((bestO (costF L rows) L.length).take k)) rows ≤ leastLost L rows := by
  have n6 := (heatsOk_facts h).1
  obtain ⟨a, b, c⟩ := (bestO_lists (c := costF L rows) n6).get n6
  refine Int.le_trans (pick_least h h2 (fun j hj => b j (List.mem_of_mem_take hj)) (by rw [List.length_take]; omega)) ?_
  rw [least_val h h2]
  exact oc_take_le h h2 b k
/-! ### no losses -/
theorem zero_at (a b : Nat) : (zeroRows.getD a []).getD b 0 = 0 := by
  have key : ∀ r, r ∈ zeroRows → r = List.replicate 4 0 := fun r hr => List.eq_of_mem_replicate hr
  cases ha : zeroRows[a]? with
  | none => simp [List.getD_eq_getElem?_getD, ha]
  | some r =>
    have := key r (List.mem_of_getElem? ha)
    subst this
    cases hb : (List.replicate 4 (0 : Int))[b]? with
    | none => simp only [List.getD_eq_getElem?_getD, ha, Option.getD_some, hb, Option.getD_none]
    | some x =>
      have := List.eq_of_mem_replicate (List.mem_of_getElem? hb)
      subst this
      simp only [List.getD_eq_getElem?_getD, ha, Option.getD_some, hb]
theorem zero_least (h : heatsOk L = true) : leastLost L zeroRows = 0 := by
  rw [least_val h (by decide)]
  exact oc_zero _ _ fun i j => zero_at _ _
end
/-- two beside each other exchanged: an order again -/
theorem exch_ok {l : List Nat} {q a b : Nat} (ha : l[q]? = some a) (hb : l[q + 1]? = some b) : ((l.set q b).set (q + 1) a).Perm l := by
  have hq := (List.getElem?_eq_some_iff.1 hb).1
  have e : l = l.take q ++ a :: b :: l.drop (q + 2) := by
    conv => lhs; rw [← List.take_append_drop q l]
    congr 1
    rw [List.drop_eq_getElem_cons (by omega), List.drop_eq_getElem_cons (by omega)]
    obtain ⟨_, e1⟩ := List.getElem?_eq_some_iff.1 ha
    obtain ⟨_, e2⟩ := List.getElem?_eq_some_iff.1 hb
    rw [e1, e2]
  have hs : (l.take q).length = q := by rw [List.length_take]; omega
  generalize l.take q = s at e hs
  generalize l.drop (q + 2) = t at e
  subst e
  have e2 : ((s ++ a :: b :: t).set q b).set (q + 1) a = s ++ b :: a :: t := by
    rw [List.set_append_right _ _ (by omega), hs, Nat.sub_self, List.set_cons_zero, List.set_append_right _ _ (by omega), hs]
    simp
  rw [e2]
  exact (List.Perm.swap a b t).append_left s
theorem castI_set (l : List Nat) (k x : Nat) : castI (l.set k x) = (castI l).set k (x : Int) := by simp [castI, List.map_set]
/-- what the law has at hand: heats, a table, an order -/
structure LB (w wk : World) (vh : Value) (m : Nat) (L : List (Int × Int × Int)) (A5 : Option Addr) (rows : List (List Int)) (vo : Value) (p : Nat) (M : List Int) : Prop where
  be : Below w.heap.size w wk
  oh : wk.ownsRow w.heap.size 34 3 vh m (tripV L)
  rt : RdR wk wk.heap.size A5 rows
  oo : wk.ownsRow w.heap.size 3 1 vo p (intsV .i64 M)
theorem LB.next {w wk w' : World} {vh vo : Value} {m p : Nat} {L : List (Int × Int × Int)} {A5 : Option Addr} {rows : List (List Int)} {M : List Int} (h : LB w wk vh m L A5 rows vo p M) (hb : Below wk.heap.size wk w') : LB w w' vh m L A5 rows vo p M :=
  ⟨h.be.trans (hb.mono h.be.size), own_below h.oh hb, h.rt.up hb hb.size, own_below h.oo hb⟩
theorem LB.drewN {w wk : World} {vh vo : Value} {m p : Nat} {L : List (Int × Int × Int)} {A5 : Option Addr} {rows : List (List Int)} {M : List Int} (h : LB w wk vh m L A5 rows vo p M) (k : Nat) : LB w (wk.drewN k) vh m L A5 rows vo p M :=
  ⟨below_drawn h.be k, own_drewN h.oh k, h.rt.drewN k, own_drewN h.oo k⟩
theorem Tab.blk {w : World} {base N : Nat} {T E : TypeId} {v : Value} {vs : List Value} {rows : List (List Int)} (h : Tab w base T E v N vs rows) {j : Nat} {u : Value} (hu : vs[j]? = some u) {k : Nat} (hk : u.ownBlock = some k) : base ≤ k ∧ k < w.heap.size := by
  have hj : j < N := by rw [← h.vlen]; exact (List.getElem?_eq_some_iff.1 hu).1
  obtain ⟨u', r, hu', hr⟩ := h.get hj
  exact (h.row j u r hu hr).lt k hk
theorem rev_step {M : List Int} {q : Nat} {y : Int} (h : M[q]? = some y) : (M.drop (q + 1)).reverse ++ [y] = (M.drop q).reverse := by
  obtain ⟨hl, e⟩ := List.getElem?_eq_some_iff.1 h
  rw [List.drop_eq_getElem_cons hl, e, List.reverse_cons]
end Go.Proofs.YtblbfgoifaddiaaDoor
