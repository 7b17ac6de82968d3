/- The library's stable sort of at most twenty indices, by the closure of the program's 'LadleOf'. -/
import Derived.Test.YtblbfgoifaddiaaDoorLadRow
import Derived.Test.YtblbfgoifaddiaaDoorOwnApart
import Derived.Test.YtblbfgoifaddiaaDoorSz
import Derived.Test.YtblbfgoifaddiaaDoorInfo
import Derived.BigQuiet
import Derived.BigRegion
import Derived.RegionTactic
import Derived.Deep.QuietTactic
import Derived.Outline
namespace Go.Proofs.YtblbfgoifaddiaaDoor
open Go.RowKit
set_option linter.unusedVariables false
theorem own_cellS {w : World} {base g n c : Nat} {e : TypeId} {xs : List Int} (h : w.ownsRow base e 1 (.slice (some ⟨g, 0, none⟩) n c) n (intsV .i64 xs)) {j : Nat} {x : Int} (hj : xs[j]? = some x) : w.cell? ⟨g, j, none⟩ = some (.int .i64 x) := by
  have hc := h.cells (g := g) rfl j (.int .i64 x) (by simp [intsV, hj])
  rw [add_none] at hc
  simpa using hc
def castI (o : List Nat) : List Int := o.map fun (i : Nat) => (i : Int)
/-- the row in which number i is being put into the order o: it stands at place j -/
def insRow (n i : Nat) (o : List Nat) (j : Nat) : List Int := castI ((o.take j ++ i :: o.drop j) ++ List.range' (i + 1) (n - (i + 1)))
theorem range_split {n i : Nat} (h : i < n) : List.range' i (n - i) = i :: List.range' (i + 1) (n - (i + 1)) := by
  rw [show n - i = (n - (i + 1)) + 1 by omega, List.range'_succ]
theorem insRow_start {n i : Nat} {o : List Nat} (h : i < n) (ho : o.length = i) : castI (o ++ List.range' i (n - i)) = insRow n i o i := by
  unfold insRow
  rw [range_split h, ← ho, List.take_length, List.drop_length]
  simp
theorem insRow_done {n i j : Nat} {o : List Nat} : insRow n i o j = castI ((o.take j ++ i :: o.drop j) ++ List.range' (i + 1) (n - (i + 1))) := rfl
theorem ins_parts {o : List Nat} {J x : Nat} (h : o[J]? = some x) : ∃ a b, o = a ++ x :: b ∧ a.length = J := by
  obtain ⟨hl, he⟩ := List.getElem?_eq_some_iff.1 h
  refine ⟨o.take J, o.drop (J + 1), ?_, by rw [List.length_take]; omega⟩
  rw [← he, List.getElem_cons_drop, List.take_append_drop]
section
variable {n i J x : Nat} {o : List Nat}
theorem insRow_at (h : o[J]? = some x) : (insRow n i o (J + 1))[J + 1]? = some (i : Int) := by
  obtain ⟨a, b, rfl, rfl⟩ := ins_parts h
  have e1 : (a ++ x :: b).take (a.length + 1) = a ++ [x] := by rw [List.take_append, List.take_of_length_le (by omega)]; simp
  have e2 : (a ++ x :: b).drop (a.length + 1) = b := by rw [List.drop_append]; simp
  unfold insRow castI
  rw [e1, e2]
  simp
theorem insRow_ahead (h : o[J]? = some x) : (insRow n i o (J + 1))[J]? = some (x : Int) := by
  obtain ⟨a, b, rfl, rfl⟩ := ins_parts h
  have e1 : (a ++ x :: b).take (a.length + 1) = a ++ [x] := by rw [List.take_append, List.take_of_length_le (by omega)]; simp
  have e2 : (a ++ x :: b).drop (a.length + 1) = b := by rw [List.drop_append]; simp
  unfold insRow castI
  rw [e1, e2]
  simp
theorem insRow_swap (h : o[J]? = some x) : ((insRow n i o (J + 1)).set (J + 1) (x : Int)).set J (i : Int) = insRow n i o J := by
  obtain ⟨a, b, rfl, rfl⟩ := ins_parts h
  have e1 : (a ++ x :: b).take (a.length + 1) = a ++ [x] := by rw [List.take_append, List.take_of_length_le (by omega)]; simp
  have e2 : (a ++ x :: b).drop (a.length + 1) = b := by rw [List.drop_append]; simp
  have e3 : (a ++ x :: b).take a.length = a := by simp
  have e4 : (a ++ x :: b).drop a.length = x :: b := by simp
  unfold insRow castI
  rw [e1, e2, e3, e4]
  simp
end
/-- at the place where the number stands those ahead are as long at least, and those behind are shorter -/
theorem ins_stop {ws : List Int} {i j : Nat} {o : List Nat} (ho : OrdTo ws i o) (hj : j ≤ i) (hd : ∀ y ∈ o.drop j, wF ws y < wF ws i) (ht : ∀ x, j ≠ 0 → o[j - 1]? = some x → wF ws i ≤ wF ws x) : OrdTo ws (i + 1) (o.take j ++ i :: o.drop j) := by
  refine ho.insert (fun y hy => ?_) hd
  have hlen := ho.length
  cases j with
  | zero => simp at hy
  | succ J =>
    have hp := ho.1
    have hJ : J < o.length := by omega
    have h1 := ht o[J] (by omega) (List.getElem?_eq_getElem hJ)
    obtain ⟨k, hk, rfl⟩ := List.mem_iff_getElem.1 hy
    rw [List.getElem_take]
    simp only [List.length_take] at hk
    by_cases e : k = J
    · subst e; exact h1
    · have := (List.pairwise_iff_getElem.1 hp k J (by omega) hJ (by omega)).ge
      omega
theorem ins_next {ws : List Int} {i J x : Nat} {o : List Nat} (hx : o[J]? = some x) (hlt : wF ws x < wF ws i) (hd : ∀ y ∈ o.drop (J + 1), wF ws y < wF ws i) : ∀ y ∈ o.drop J, wF ws y < wF ws i := by
  obtain ⟨hl, he⟩ := List.getElem?_eq_some_iff.1 hx
  intro y hy
  rw [List.drop_eq_getElem_cons hl, he] at hy
  rcases List.mem_cons.1 hy with e | e
  · subst e; exact hlt
  · exact hd y e
theorem own_ge' {w : World} {base g n c sz : Nat} {e : TypeId} {xs : List Value} (h : w.ownsRow base e sz (.slice (some ⟨g, 0, none⟩) n c) n xs) : base ≤ g ∧ g < w.heap.size := h.lt g rfl
set_option maxHeartbeats 1000000 in
theorem ladCmp_any (bx a b : Nat) (A : Option Addr) (n c : Nat) (xs : List (Int × Int × Int)) (ka ta ra kb tb rb : Int) (w : World) (hbox : w.cell? ⟨bx, 0, none⟩ = some (.slice A n c)) (hl : xs.length = n) {B : Nat} (hr : RdT w B A xs) (hn : n ≤ 1048576)
    (ha : xs[a]? = some (ka, ta, ra)) (hb : xs[b]? = some (kb, tb, rb)) (ba : 0 ≤ ta ∧ ta ≤ 999) (bb : 0 ≤ tb ∧ tb ≤ 999) :
    Calls Tryd.prog 29 #[.int .i64 a, .int .i64 b, .pointer (some ⟨bx, 0, none⟩)] w fun e w' => e = .returned (.int .i64 (ta - tb)) ∧ ∃ k, w' = w.drewN k := by
  have h1 := (List.getElem?_eq_some_iff.1 ha).1
  have h2 := (List.getElem?_eq_some_iff.1 hb).1
  obtain ⟨g, off, rfl, hg, ca1, ca, ca2⟩ := hr a ka ta ra ha
  obtain ⟨g', off', e', hg', cb1, cb, cb2⟩ := hr b kb tb rb hb
  injection e' with e'
  injection e' with e1 e2
  subst e1 e2
  rw [hl] at h1 h2
  clear hr ha hb hl ca1 ca2 cb1 cb2
  go_enter Tryd.func29, Tryd.ntmps29
  go_wp2_with (fail)
  go_quiet (fail)
  go_wp2
  go_ret
  exact ⟨rfl, _, rfl⟩
set_option maxRecDepth 100000 in
set_option maxHeartbeats 2000000 in
theorem ladIns_any (base g c n bx : Nat) (A : Option Addr) (cA : Nat) (xs : List (Int × Int × Int)) (w : World) (hl : xs.length = n) (hw : heatsOk xs = true) (hbox : w.cell? ⟨bx, 0, none⟩ = some (.slice A n cA)) (hbx : bx < base) (hr : RdT w base A xs) (hs : base ≤ w.heap.size)
    (hown : w.ownsRow base 3 1 (.slice (some ⟨g, 0, none⟩) n c) n (intsV .i64 (castI (List.range n)))) :
    Calls Tryd.prog 62 #[.slice (some ⟨g, 0, none⟩) n c, .int .i64 0, .int .i64 n, .func (.func 29) #[] #[.pointer (some ⟨bx, 0, none⟩)]] w fun e w' => e = .returned (.tuple #[]) ∧ ∃ o, OrdTo (keysT xs) n o ∧ w'.ownsRow base 3 1 (.slice (some ⟨g, 0, none⟩) n c) n (intsV .i64 (castI o)) ∧ Below base w w' := by
  have h8 := (heatsOk_facts hw).1
  rw [hl] at h8
  have HL := Lib.hid hl
  have HW := Lib.hid hw
  have HO := Lib.hid hown
  have hgb := own_ge' hown
  by_cases hn0 : n = 0
  · subst hn0
    go_enter Tryd.func62, Tryd.ntmps62
    go_wp2_with (fail)
    go_loop [8] (fun v => v = .int .i64 1) (fun _ => 0)
    case atStart => exact rfl
    case round =>
      subst hrel
      go_wp2
      go_end0
      exact ⟨rfl, [], OrdTo.zero (keysT xs), HO.out, Below.refl _ _⟩
  have HO1 : Hid (w.ownsRow base 3 1 (.slice (some ⟨g, 0, none⟩) n c) n (intsV .i64 (castI ([0] ++ List.range' 1 (n - 1))))) := Lib.hid (by
    have e : List.range n = [0] ++ List.range' 1 (n - 1) := by
      obtain ⟨m, rfl⟩ : ∃ m, n = m + 1 := ⟨n - 1, by omega⟩
      rw [List.range_eq_range', List.range'_succ]; rfl
    rw [← e]; exact hown)
  have hz : OrdTo (keysT xs) 1 [0] := by
    have := (OrdTo.zero (keysT xs)).insert (j := 0) (by simp) (by simp)
    simpa using this
  have HZ := Lib.hid hz
  clear hown hz HO
  go_enter Tryd.func62, Tryd.ntmps62
  go_wp2_with (fail)
  go_loopw [8] (fun v wr => ∃ (i : Nat) (o : List Nat), 1 ≤ i ∧ i ≤ n ∧ v = .int .i64 i ∧ OrdTo (keysT xs) i o ∧ wr.ownsRow base 3 1 (.slice (some ⟨g, 0, none⟩) n c) n (intsV .i64 (castI (o ++ List.range' i (n - i)))) ∧ Below base w wr) (fun v _ => n - (intOf v).toNat)
  case atStart => exact ⟨1, [0], Nat.le_refl _, by omega, by go_num, HZ.out, HO1.out, Below.refl _ _⟩
  case round =>
    obtain ⟨i, o, hi1, hin, rfl, ho, own, hbel⟩ := hrel
    clear HO1 HZ
    have HOO := Lib.hid ho
    have hol := ho.length
    by_cases hlt : i < n
    · rw [insRow_start hlt hol] at own
      have HOL := Lib.hid hol
      clear ho hol
      go_wp2_with (fail)
      go_loopw [9] (fun v wr => ∃ (j : Nat), j ≤ i ∧ v = .int .i64 j ∧ (∀ y ∈ o.drop j, wF (keysT xs) y < wF (keysT xs) i) ∧ wr.ownsRow base 3 1 (.slice (some ⟨g, 0, none⟩) n c) n (intsV .i64 (insRow n i o j)) ∧ Below base w wr) (fun v _ => (intOf v).toNat)
      case atStart => exact ⟨i, Nat.le_refl _, rfl, (by intro y hy; rw [← HOL.out, List.drop_length] at hy; simp at hy), own, hbel⟩
      case round =>
        clear own hbel
        obtain ⟨j, hj, rfl, hd, own, hbel⟩ := hrel
        have OWN := Lib.hid own
        have HD := Lib.hid hd
        cases j with
        | zero =>
          have HS := Lib.hid (ins_stop HOO.out (Nat.zero_le _) HD.out (fun x h => absurd rfl h))
          clear own hd
          go_wp2_with (fail)
          go_quiet (fail)
          go_wp2
          go_roundw
          case rel => exact ⟨i + 1, o.take 0 ++ i :: o.drop 0, by omega, by omega, by go_num, HS.out, own_drewN OWN.out _, below_drawn hbel _⟩
          case measure => simp [intOf] <;> omega
        | succ J =>
          obtain ⟨x, hx⟩ : ∃ x, o[J]? = some x := ⟨_, List.getElem?_eq_getElem (by rw [HOL.out]; omega)⟩
          have hxi : x < i := (HOO.out.2 x).1 (List.mem_of_getElem? hx)
          obtain ⟨⟨ki, xi, ri⟩, hxi1⟩ : ∃ q, xs[i]? = some q := ⟨_, List.getElem?_eq_getElem (by rw [HL.out]; omega)⟩
          obtain ⟨⟨kx, xx, rx⟩, hxx1⟩ : ∃ q, xs[x]? = some q := ⟨_, List.getElem?_eq_getElem (by rw [HL.out]; omega)⟩
          have b1 := (heatsOk_facts HW.out).2 i ki xi ri hxi1
          have b2 := (heatsOk_facts HW.out).2 x kx xx rx hxx1
          have wi : wF (keysT xs) i = -xi := by rw [wF_keys, tapF_get hxi1]
          have wx : wF (keysT xs) x = -xx := by rw [wF_keys, tapF_get hxx1]
          have WI := Lib.hid wi
          have WX := Lib.hid wx
          clear wi wx
          have c1 := own_cellS own (insRow_at (n := n) (i := i) hx)
          have c2 := own_cellS own (insRow_ahead (n := n) (i := i) hx)
          have f1 := own.frozenAt (J + 1)
          have f2 := own.frozenAt J
          have hb1 : wr.cell? ⟨bx, 0, none⟩ = some (.slice A n cA) := (hbel.cell (by exact hbx)).trans hbox
          have hr1 := hr.below hbel
          clear own hd
          have K := fun k => ladCmp_any bx i x A n cA xs ki xi ri kx xx rx (wr.drewN k) hb1 HL.out (hr1.below (below_drawn (Below.refl _ _) k)) (by omega) hxi1 hxx1 (by omega) (by omega)
          have HK := Lib.hid K
          clear K
          go_wp2_with (fail)
          go_quiet (first | (go_at_call 29; refine Calls.quiet_of (HK.out _)))
          by_cases hlx : xi - xx < 0
          · have HN := Lib.hid (ins_next hx (by rw [WX.out, WI.out]; omega) HD.out)
            have HSW := Lib.hid (insRow_swap (n := n) (i := i) hx)
            clear hx hxi1 hxx1
            go_wp2
            go_region
            all_goals go_wp2
            go_roundw
            case rel => exact ⟨J, by omega, rfl, HN.out, (by rw [← HSW.out]; exact own_set1 (own_set1 (own_drewN OWN.out _))), ((below_drawn hbel _).setCell hgb.1 _).setCell hgb.1 _⟩
            case measure => simp [intOf] <;> omega
          · have HS := Lib.hid (ins_stop HOO.out hj HD.out (fun y _ hy => by
              rw [show J + 1 - 1 = J by omega, hx] at hy
              injection hy with hy
              subst hy
              rw [WX.out, WI.out]; omega))
            clear hx hxi1 hxx1
            go_wp2
            go_roundw
            case rel => exact ⟨i + 1, o.take (J + 1) ++ i :: o.drop (J + 1), by omega, by omega, by go_num, HS.out, own_drewN OWN.out _, below_drawn hbel _⟩
            case measure => simp [intOf] <;> omega
    · obtain rfl : i = n := by omega
      have own' : wr.ownsRow base 3 1 (.slice (some ⟨g, 0, none⟩) i c) i (intsV .i64 (castI o)) := by simpa using own
      clear own
      go_wp2
      go_end0
      exact ⟨rfl, o, HOO.out, own', hbel⟩
set_option maxHeartbeats 1000000 in
theorem ladStable_any (base g c n bx : Nat) (A : Option Addr) (cA : Nat) (xs : List (Int × Int × Int)) (w : World) (hl : xs.length = n) (hw : heatsOk xs = true) (hbox : w.cell? ⟨bx, 0, none⟩ = some (.slice A n cA)) (hbx : bx < base) (hr : RdT w base A xs) (hs : base ≤ w.heap.size)
    (hown : w.ownsRow base 3 1 (.slice (some ⟨g, 0, none⟩) n c) n (intsV .i64 (castI (List.range n)))) :
    Calls Tryd.prog 54 #[.slice (some ⟨g, 0, none⟩) n c, .int .i64 n, .func (.func 29) #[] #[.pointer (some ⟨bx, 0, none⟩)]] w fun e w' => e = .returned (.tuple #[]) ∧ ∃ o, OrdTo (keysT xs) n o ∧ w'.ownsRow base 3 1 (.slice (some ⟨g, 0, none⟩) n c) n (intsV .i64 (castI o)) ∧ Below base w w' := by
  have h8 := (heatsOk_facts hw).1
  rw [hl] at h8
  have D1 : ¬ (20 : Int) ≤ n := by omega
  have D2 : ¬ (20 : Int) < n := by omega
  go_enter Tryd.func54, Tryd.ntmps54
  go_wp2_with (fail)
  go_loop [7, 8] (fun u v => u = .int .i64 0 ∧ v = .int .i64 20) (fun _ _ => 0)
  case atStart => exact ⟨rfl, rfl⟩
  case round =>
    obtain ⟨rfl, rfl⟩ := hrel
    go_wp2_with (go_at_call 62; refine (ladIns_any base g c n bx A cA xs _ hl hw hbox hbx hr hs hown).mono ?_; rintro e w1 ⟨rfl, o, ho, own1, hb1⟩)
    go_loop [6, 7, 8, 9] (fun t u v x => t = .int .i64 20) (fun _ _ _ _ => 0)
    case atStart => exact rfl
    case round =>
      subst hrel
      go_wp2
      go_end0
      exact ⟨rfl, o, ho, own1, hb1⟩
set_option maxHeartbeats 1000000 in
theorem ladSort_any (base g c n bx : Nat) (A : Option Addr) (cA : Nat) (xs : List (Int × Int × Int)) (w : World) (hl : xs.length = n) (hw : heatsOk xs = true) (hbox : w.cell? ⟨bx, 0, none⟩ = some (.slice A n cA)) (hbx : bx < base) (hr : RdT w base A xs) (hs : base ≤ w.heap.size)
    (hown : w.ownsRow base 3 1 (.slice (some ⟨g, 0, none⟩) n c) n (intsV .i64 (castI (List.range n)))) :
    Calls Tryd.prog 28 #[.slice (some ⟨g, 0, none⟩) n c, .func (.func 29) #[] #[.pointer (some ⟨bx, 0, none⟩)]] w fun e w' => e = .returned (.tuple #[]) ∧ ∃ o, OrdTo (keysT xs) n o ∧ w'.ownsRow base 3 1 (.slice (some ⟨g, 0, none⟩) n c) n (intsV .i64 (castI o)) ∧ Below base w w' := by
  go_enter Tryd.func28, Tryd.ntmps28
  go_wp2_with (go_at_call 54; refine (ladStable_any base g c n bx A cA xs _ hl hw hbox hbx hr hs hown).mono ?_; rintro e w1 ⟨rfl, o, ho, own1, hb1⟩)
  go_end0
  exact ⟨rfl, o, ho, own1, hb1⟩
end Go.Proofs.YtblbfgoifaddiaaDoor
