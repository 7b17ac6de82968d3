/- Whether a list is an order: both walks. -/
import Derived.Test.YtblbfgoifaddiaaDoorLostV
import Derived.Test.YtblbfgoifaddiaaDoorLadSort
import Derived.Test.YtblbfgoifaddiaaDoorHas
import Derived.BigQuiet
namespace Go.Proofs.YtblbfgoifaddiaaDoor
open Go.RowKit
set_option linter.unusedVariables false
set_option linter.unusedSimpArgs false
def okAt (o : List Int) (n k : Nat) : Bool := match o[k]? with
  | none => true
  | some x => inB x 0 ((n : Int) - 1) && !hasI (o.take k) x
def okTo (o : List Int) (n : Nat) : Nat → Bool
  | 0 => true
  | k + 1 => okTo o n k && okAt o n k
/-- the order has each index below n once -/
def isOrd (o : List Int) (n : Nat) : Bool := okTo o n o.length && decide (o.length = n)
theorem okTo_bad {o : List Int} {n k : Nat} (h : okAt o n k = false) : ∀ m, k < m → okTo o n m = false := by
  intro m
  induction m with
  | zero => intro h; omega
  | succ m ih =>
    intro hm
    rw [okTo]
    by_cases e : k = m
    · subst e; rw [h, Bool.and_false]
    · rw [ih (by omega), Bool.false_and]
theorem isOrd_bad {o : List Int} {n k : Nat} (h : okAt o n k = false) (hk : k < o.length) : isOrd o n = false := by rw [isOrd, okTo_bad h _ hk, Bool.false_and]
theorem isOrd_len {o : List Int} {n : Nat} (h : o.length ≠ n) : isOrd o n = false := by simp [isOrd, h]
theorem isOrd_mk {o : List Int} {n : Nat} (h : okTo o n o.length = true) (hl : o.length = n) : isOrd o n = true := by rw [isOrd, h, Bool.true_and, decide_eq_true_eq]; exact hl
theorem okAt_in {o : List Int} {n k : Nat} {x : Int} (hx : o[k]? = some x) : okAt o n k = (inB x 0 ((n : Int) - 1) && !hasI (o.take k) x) := by simp [okAt, hx]
theorem okTo_at {o : List Int} {n : Nat} : ∀ m, okTo o n m = true → ∀ k, k < m → okAt o n k = true := by
  intro m
  induction m with
  | zero => intro _ k hk; omega
  | succ m ih =>
    intro h k hk
    rw [okTo, Bool.and_eq_true] at h
    by_cases e : k = m
    · subst e; exact h.2
    · exact ih h.1 k (by omega)
theorem isOrd_facts {o : List Int} {n : Nat} (h : isOrd o n = true) : o.length = n ∧ ∀ (k : Nat) (x : Int), o[k]? = some x → 0 ≤ x ∧ x < n ∧ hasI (o.take k) x = false := by
  rw [isOrd, Bool.and_eq_true, decide_eq_true_eq] at h
  refine ⟨h.2, fun k x hx => ?_⟩
  have := okTo_at _ h.1 k (List.getElem?_eq_some_iff.1 hx).1
  rw [okAt_in hx, Bool.and_eq_true, inB_iff, Bool.not_eq_true'] at this
  exact ⟨this.1.1, by omega, this.2⟩
theorem RdI.take {k : IntKind} {w : World} {B : Nat} {A : Option Addr} {xs : List Int} (h : RdI k w B A xs) (m : Nat) : RdI k w B A (xs.take m) := fun j x hx => by
  rw [List.getElem?_take] at hx
  split at hx
  · exact h j x hx
  · cases hx
theorem RdI.drewN {k : IntKind} {w : World} {A : Option Addr} {xs : List Int} (h : RdI k w w.heap.size A xs) (m : Nat) : RdI k (w.drewN m) (w.drewN m).heap.size A xs := h
theorem take_len {xs : List Int} {n k : Nat} (hl : xs.length = n) (hk : k ≤ n) : (xs.take k).length = k := by rw [List.length_take]; omega
theorem info_Bool : (Tryd.prog.info? 4).map (fun i => (i.zero, i.size, i.bytes)) = some (some (.bool false), 1, 1) := by kernel_rfl
theorem madeB (n : Nat) : (madeCells (Value.bool false).cells (n * 1)).toList = List.replicate n (.bool false) := by
  rw [Nat.mul_one]
  exact toList_madeCells_one (.bool false) n
/-- which of the first n are among the first k of the order -/
def seenV (o : List Int) (n k : Nat) : List Value := (List.range n).map fun (j : Nat) => .bool (hasI (o.take k) (j : Int))
theorem seenV_get {o : List Int} {n k j : Nat} (h : j < n) : (seenV o n k)[j]? = some (.bool (hasI (o.take k) (j : Int))) := by simp [seenV, h]
theorem seenV_zero (o : List Int) (n : Nat) : seenV o n 0 = List.replicate n (.bool false) := by
  apply List.ext_getElem?
  intro j
  by_cases h : j < n
  · rw [seenV_get h]; simp [hasI, h]
  · rw [List.getElem?_eq_none (by simp [seenV]; omega), List.getElem?_eq_none (by simp; omega)]
theorem hasI_succ {o : List Int} {k : Nat} {x y : Int} (h : o[k]? = some x) : hasI (o.take (k + 1)) y = (hasI (o.take k) y || decide (y = x)) := by
  unfold hasI
  rw [List.take_add_one, h, Option.toList_some]
  by_cases e : y = x
  · subst e; simp
  · simp [e]
theorem seenV_succ {o : List Int} {n k i : Nat} (h : o[k]? = some (i : Int)) (hi : i < n) : (seenV o n k).set i (.bool true) = seenV o n (k + 1) := by
  apply List.ext_getElem?
  intro j
  by_cases hj : j < n
  · rw [List.getElem?_set]
    by_cases e : i = j
    · subst e
      rw [if_pos rfl, if_pos (by simp [seenV]; exact hi), seenV_get hi, hasI_succ h]
      simp
    · rw [if_neg e, seenV_get hj, seenV_get hj, hasI_succ h]
      have : ¬ ((j : Int) = (i : Int)) := by omega
      simp [this]
  · rw [List.getElem?_eq_none (by simp [seenV]; omega), List.getElem?_eq_none (by simp [seenV]; omega)]
theorem own_cellV {w : World} {base g n c : Nat} {e : TypeId} {xs : List Value} (h : w.ownsRow base e 1 (.slice (some ⟨g, 0, none⟩) n c) n xs) {j : Nat} {x : Value} (hj : xs[j]? = some x) : w.cell? ⟨g, j, none⟩ = some x := by
  have hc := h.cells (g := g) rfl j x hj
  rw [add_none] at hc
  simpa using hc
set_option maxRecDepth 100000 in
set_option maxHeartbeats 1000000 in
theorem implOrd_any (A : Option Addr) (n c : Nat) (o : List Int) (m : Nat) (w : World) (hl : o.length = n) (hr : RdI .i64 w w.heap.size A o) (hn : n ≤ 1048576) (hm : m ≤ 7) :
    Calls Tryd.prog 42 #[.slice A n c, .int .i64 m] w fun e w' => e = .returned (.bool (isOrd o m)) ∧ Below w.heap.size w w' := by
  obtain ⟨i0, hi, hz0, hz1, hz2⟩ := info_parts info_Bool
  have HL := Lib.hid hl
  clear hl
  by_cases hnm : n = m
  · subst hnm
    have D0 : ((n : Int) == (n : Int)) = true := by simp
    go_enter Tryd.func42, Tryd.ntmps42
    go_wp2_with (at_make; refine wpList_make_full _ rfl _ _ 76 rfl w.heap.size 4 i0 _ 1 Tryd.underlying76 hi hz0 hz1 .i64 .i64 _ _ n rfl rfl (by go_num) (by go_num) (by rw [hz2]; omega) (by unfold maxLen; omega) (by omega) ?_; intro w4 hown4 hgr4)
    rw [madeB, ← seenV_zero o n] at hown4
    have t4 : Below w.heap.size w w4 := (Below.refl _ _).grown hgr4 (by omega) (by simp)
    clear hgr4
    generalize hG : w.heap.size = G1 at *
    go_loopw [16] (fun v wr => ∃ (k : Nat), k ≤ n ∧ v = .int .i64 k ∧ okTo o n k = true ∧ wr.ownsRow G1 4 1 (.slice (some ⟨G1, 0, none⟩) n n) n (seenV o n k) ∧ Below G1 w wr) (fun v _ => n - (intOf v).toNat)
    case atStart => exact ⟨0, Nat.zero_le _, rfl, rfl, hown4, t4⟩
    case round =>
      clear hown4 t4
      obtain ⟨k, hk, rfl, hok, own, hbel⟩ := hrel
      have HOK := Lib.hid hok
      have OWN := Lib.hid own
      clear hok own
      by_cases hlt : k < n
      · obtain ⟨x, hx⟩ : ∃ x, o[k]? = some x := ⟨_, List.getElem?_eq_getElem (by rw [HL.out]; omega)⟩
        obtain ⟨b, off, rfl, hbB, hc⟩ := hr k x hx
        rw [← hbel.cell (by exact hbB)] at hc
        have HX := Lib.hid hx
        have BEL := Lib.hid hbel
        clear hx hr hbel
        cases h1 : inB x 0 ((n : Int) - 1)
        · have HB : Hid (isOrd o n = false) := Lib.hid (isOrd_bad (k := k) (by rw [okAt_in HX.out, h1, Bool.false_and]) (by rw [HL.out]; exact hlt))
          go_wp2_with (go_at_call 53; refine (within_any _ _ _ _).mono ?_; rintro e w' ⟨rfl, rfl⟩)
          go_ret
          exact ⟨ret_bool HB.out.symm, by rw [hG]; exact BEL.out⟩
        · obtain ⟨x0, x1⟩ := inB_iff.1 h1
          obtain ⟨i, rfl⟩ := Int.eq_ofNat_of_zero_le x0
          have hin : i < n := by omega
          have hini : (i : Int) < n := by omega
          have cs := own_cellV OWN.out (seenV_get (o := o) (k := k) hin)
          have fz := OWN.out.frozenAt i
          have OK1 : Hid (okAt o n k = !hasI (o.take k) (i : Int)) := Lib.hid (by rw [okAt_in HX.out, h1, Bool.true_and])
          cases h2 : hasI (o.take k) (i : Int)
          · rw [h2] at cs
            have own2 := (OWN.out.stored i (.bool true)).1
            rw [seenV_succ HX.out hin] at own2
            have OWN2 := Lib.hid own2
            have BEL2 := Lib.hid (BEL.out.setCell (p := ⟨G1, i, none⟩) (Nat.le_refl _) (.bool true))
            clear own2
            go_wp2_with (go_at_call 53; refine (within_any _ _ _ _).mono ?_; rintro e w' ⟨rfl, rfl⟩)
            go_roundw
            case rel => exact ⟨k + 1, by omega, by go_num, by rw [okTo, HOK.out, OK1.out, h2]; rfl, OWN2.out, BEL2.out⟩
            case measure => simp [intOf] <;> omega
          · rw [h2] at cs
            have HB : Hid (isOrd o n = false) := Lib.hid (isOrd_bad (k := k) (by rw [OK1.out, h2]; rfl) (by rw [HL.out]; exact hlt))
            go_wp2_with (go_at_call 53; refine (within_any _ _ _ _).mono ?_; rintro e w' ⟨rfl, rfl⟩)
            go_ret
            exact ⟨ret_bool HB.out.symm, by rw [hG]; exact BEL.out⟩
      · obtain rfl : k = n := by omega
        have HF : Hid (isOrd o k = true) := Lib.hid (isOrd_mk (by rw [HL.out]; exact HOK.out) HL.out)
        go_wp2
        go_ret
        exact ⟨ret_bool HF.out.symm, by rw [hG]; exact hbel⟩
  · have D0 : ((n : Int) == (m : Int)) = false := by rw [beq_eq_false_iff_ne]; omega
    have HF : Hid (isOrd o m = false) := Lib.hid (isOrd_len (by rw [HL.out]; exact hnm))
    go_enter Tryd.func42, Tryd.ntmps42
    go_wp2
    go_ret
    exact ⟨ret_bool HF.out.symm, Below.refl _ _⟩
set_option maxRecDepth 100000 in
set_option maxHeartbeats 1000000 in
theorem specOrd_any (A : Option Addr) (n c : Nat) (o : List Int) (m : Nat) (w : World) (hl : o.length = n) (hr2 : RdI .i64 w w.heap.size A o) (hn : n ≤ 1048576 ∧ n ≤ c) (hm : m ≤ 7) :
    Calls Tryd.prog 43 #[.slice A n c, .int .i64 m] w fun e w' => e = .returned (.bool (isOrd o m)) ∧ Below w.heap.size w w' := by
  have HL := Lib.hid hl
  obtain ⟨hn2, hcap⟩ := hn
  clear hl
  go_enter Tryd.func43, Tryd.ntmps43
  go_wp2
  go_loopw [5] (fun i wr => ∃ k : Nat, k ≤ n ∧ i = .int .i64 k ∧ okTo o m k = true ∧ Below w.heap.size w wr) (fun i _ => n - (intOf i).toNat)
  case atStart => exact ⟨0, Nat.zero_le _, rfl, rfl, Below.refl _ _⟩
  case round =>
    obtain ⟨k, hk, rfl, hok, hbel⟩ := hrel
    have HOK := Lib.hid hok
    clear hok
    have hsz := hbel.size
    by_cases hlt : k < n
    · obtain ⟨p, hp⟩ : ∃ p, o[k]? = some p := ⟨_, List.getElem?_eq_getElem (by rw [HL.out]; omega)⟩
      have hr := hr2.up hbel hsz
      have hrt := hr.take k
      have HRT := Lib.hid hrt
      obtain ⟨b2, off2, rfl, hbB2, hc2⟩ := hr k p hp
      have HP := Lib.hid hp
      clear hp hr hrt hr2
      have i0 : (0 : Int) ≤ (k : Int) := by omega
      cases h1 : inB p 0 ((m : Int) - 1)
      · have HB : Hid (isOrd o m = false) := Lib.hid (isOrd_bad (k := k) (by rw [okAt_in HP.out, h1, Bool.false_and]) (by rw [HL.out]; exact hlt))
        go_wp2_with (fail)
        go_quiet (first
          | (go_at_call 59; exact Calls.quiet_of_same ((has_any _ _ _ (o.take k) p _ (take_len HL.out (by omega)) (RdI.drewN HRT.out _) (by omega)).mono fun e w' h => ⟨h.1, h.2.symm⟩))
          | (go_at_call 33; exact Calls.quiet_of_same ((in_any _ _ _ _).mono fun e w' h => ⟨h.1, h.2.symm⟩)))
        go_wp2
        go_ret
        exact ⟨ret_bool HB.out.symm, below_drawn hbel _⟩
      · have OK1 : Hid (okAt o m k = !hasI (o.take k) p) := Lib.hid (by rw [okAt_in HP.out, h1, Bool.true_and])
        cases h2 : hasI (o.take k) p
        · go_wp2_with (fail)
          go_quiet (first
            | (go_at_call 59; exact Calls.quiet_of_same ((has_any _ _ _ (o.take k) p _ (take_len HL.out (by omega)) (RdI.drewN HRT.out _) (by omega)).mono fun e w' h => ⟨h.1, h.2.symm⟩))
            | (go_at_call 33; exact Calls.quiet_of_same ((in_any _ _ _ _).mono fun e w' h => ⟨h.1, h.2.symm⟩)))
          go_wp2
          go_roundw
          case rel => exact ⟨k + 1, by omega, by go_num, by rw [okTo, HOK.out, OK1.out, h2]; rfl, below_drawn hbel _⟩
          case measure => simp [intOf] <;> omega
        · have HB : Hid (isOrd o m = false) := Lib.hid (isOrd_bad (k := k) (by rw [OK1.out, h2]; rfl) (by rw [HL.out]; exact hlt))
          go_wp2_with (fail)
          go_quiet (first
            | (go_at_call 59; exact Calls.quiet_of_same ((has_any _ _ _ (o.take k) p _ (take_len HL.out (by omega)) (RdI.drewN HRT.out _) (by omega)).mono fun e w' h => ⟨h.1, h.2.symm⟩))
            | (go_at_call 33; exact Calls.quiet_of_same ((in_any _ _ _ _).mono fun e w' h => ⟨h.1, h.2.symm⟩)))
          go_wp2
          go_ret
          exact ⟨ret_bool HB.out.symm, below_drawn hbel _⟩
    · obtain rfl : k = n := by omega
      have HK : Hid (okTo o m o.length = true) := Lib.hid (by rw [HL.out]; exact HOK.out)
      by_cases hnm : k = m
      · subst hnm
        have D0 : ((k : Int) == (k : Int)) = true := by simp
        have HF : Hid (isOrd o k = true) := Lib.hid (isOrd_mk HK.out HL.out)
        go_wp2
        go_ret
        exact ⟨ret_bool HF.out.symm, hbel⟩
      · have D0 : ((k : Int) == (m : Int)) = false := by rw [beq_eq_false_iff_ne]; omega
        have HF : Hid (isOrd o m = false) := Lib.hid (isOrd_len (by rw [HL.out]; exact hnm))
        go_wp2
        go_ret
        exact ⟨ret_bool HF.out.symm, hbel⟩
end Go.Proofs.YtblbfgoifaddiaaDoor
