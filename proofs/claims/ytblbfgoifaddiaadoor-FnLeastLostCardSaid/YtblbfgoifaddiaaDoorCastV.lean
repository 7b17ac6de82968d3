/- Times at which heats are cast: what is right, and the walks of both functions that say so. -/
import Derived.Test.YtblbfgoifaddiaaDoorHeatsV
import Derived.BigQuiet
import Derived.Outline
namespace Go.Proofs.YtblbfgoifaddiaaDoor
open Go.RowKit
set_option linter.unusedVariables false
def castAt (xs : List (Int × Int × Int)) (f s : Int) (ts : List Int) (i : Nat) : Bool :=
  match xs[i]?, ts[i]?, ts[i + 1]? with
  | some (_, _, r), some a, some b => decide (r ≤ a) && inB b (a + f) (a + s)
  | _, _, _ => false
def castOk (xs : List (Int × Int × Int)) (f s : Int) (ts : List Int) : Bool :=
  heatsOk xs && (casterOk f s && (decide (ts.length = xs.length + 1) && ((ts.all fun q => inB q 0 9999) && (List.range xs.length).all (castAt xs f s ts))))
section
variable {xs : List (Int × Int × Int)} {f s : Int} {ts : List Int}
theorem castOk_1 (h : heatsOk xs = false) : castOk xs f s ts = false := by simp [castOk, h]
theorem castOk_2 (h : casterOk f s = false) : castOk xs f s ts = false := by simp [castOk, h]
theorem castOk_3 (h : ts.length ≠ xs.length + 1) : castOk xs f s ts = false := by simp [castOk, h]
theorem castOk_4 {k : Nat} {q : Int} (h : ts[k]? = some q) (hq : inB q 0 9999 = false) : castOk xs f s ts = false := by
  have : (ts.all fun q => inB q 0 9999) = false := by
    rw [List.all_eq_false]; exact ⟨q, List.mem_of_getElem? h, by rw [hq]; simp⟩
  simp only [castOk, this, Bool.and_false, Bool.false_and]
theorem castOk_5 {k : Nat} (hk : k < xs.length) (h : castAt xs f s ts k = false) : castOk xs f s ts = false := by
  have : (List.range xs.length).all (castAt xs f s ts) = false := by
    rw [List.all_eq_false]; exact ⟨k, List.mem_range.2 hk, by rw [h]; simp⟩
  simp only [castOk, this, Bool.and_false]
theorem castOk_mk (h1 : heatsOk xs = true) (h2 : casterOk f s = true) (h3 : ts.length = xs.length + 1) (h4 : (ts.all fun q => inB q 0 9999) = true) (h5 : (List.range xs.length).all (castAt xs f s ts) = true) : castOk xs f s ts = true := by
  simp only [castOk, h1, h2, h4, h5, decide_eq_true h3, Bool.and_self]
theorem castAt_get {i : Nat} {k t r a b : Int} (h1 : xs[i]? = some (k, t, r)) (h2 : ts[i]? = some a) (h3 : ts[i + 1]? = some b) : castAt xs f s ts i = (decide (r ≤ a) && inB b (a + f) (a + s)) := by simp [castAt, h1, h2, h3]
theorem castOk_facts (h : castOk xs f s ts = true) : heatsOk xs = true ∧ casterOk f s = true ∧ ts.length = xs.length + 1 ∧ (∀ (k : Nat) (q : Int), ts[k]? = some q → 0 ≤ q ∧ q ≤ 9999) ∧
    ∀ (i : Nat) (k t r a b : Int), xs[i]? = some (k, t, r) → ts[i]? = some a → ts[i + 1]? = some b → r ≤ a ∧ a + f ≤ b ∧ b ≤ a + s := by
  simp only [castOk, Bool.and_eq_true, decide_eq_true_eq] at h
  obtain ⟨h1, h2, h3, h4, h5⟩ := h
  refine ⟨h1, h2, h3, fun k q hk => inB_iff.1 (List.all_eq_true.1 h4 q (List.mem_of_getElem? hk)), fun i k t r a b hx ha hb => ?_⟩
  have := List.all_eq_true.1 h5 i (List.mem_range.2 (List.getElem?_eq_some_iff.1 hx).1)
  rw [castAt_get hx ha hb] at this
  simp only [Bool.and_eq_true, decide_eq_true_eq, inB_iff] at this
  exact ⟨this.1, this.2⟩
end
theorem allN_succ {p : Nat → Bool} {k : Nat} (h : (List.range k).all p = true) (hk : p k = true) : (List.range (k + 1)).all p = true := by
  rw [List.range_succ, List.all_append, h]; simp [hk]
set_option maxRecDepth 100000 in
set_option maxHeartbeats 1000000 in
theorem implCast_any (A1 : Option Addr) (n1 c1 : Nat) (xs : List (Int × Int × Int)) (f s : Int) (A2 : Option Addr) (n2 c2 : Nat) (ts : List Int) (w : World)
    (hl1 : xs.length = n1) (hr1 : RdT w w.heap.size A1 xs) (hn1 : n1 ≤ 1048576) (hl2 : ts.length = n2) (hr2 : RdI .i64 w w.heap.size A2 ts) (hn2 : n2 ≤ 1048576) :
    Calls Tryd.prog 27 #[.slice A1 n1 c1, .agg #[.int .i64 f, .int .i64 s], .slice A2 n2 c2] w fun e w' => e = .returned (.bool (castOk xs f s ts)) ∧ Below w.heap.size w w' := by
  have HL1 := Lib.hid hl1
  have HL2 := Lib.hid hl2
  have R1 := Lib.hid hr1
  have R2 := Lib.hid hr2
  clear hl1 hl2
  have tA : Below w.heap.size w (w.alloc (.cells #[.int .i64 f, .int .i64 s] 25)) := (Below.refl _ w).alloc (Nat.le_refl _) _
  have xA : BX (w.alloc (.cells #[.int .i64 f, .int .i64 s] 25)) w.heap.size [.int .i64 f, .int .i64 s] := by
    exact ⟨by simp, fun j v hv => by
      rw [cell_of_row _ w.heap.size j _ _ (0, 0) (heap_alloc_new w _)]
      simpa using hv, fun j => by go_simp⟩
  go_enter Tryd.func27, Tryd.ntmps27
  go_wp2_with (fail)
  generalize w.alloc (.cells #[.int .i64 f, .int .i64 s] 25) = w1 at *
  refine (implHeats_any _ _ _ xs _ HL1.out (hr1.up tA tA.size) (by omega)).mono ?_
  rintro e w2 ⟨rfl, hb2⟩
  have t2 := below_next tA hb2
  have x2 := xA.below hb2 xA.lt
  clear tA xA hb2
  cases h1 : heatsOk xs
  · go_wp2
    go_ret
    exact ⟨ret_bool (castOk_1 h1).symm, t2⟩
  have c0 := x2.at_ 0 _ rfl
  have c1 := x2.at_ 1 _ rfl
  go_wp2_with (fail)
  refine (implCaster_any _ _ _).mono ?_
  rintro e w3 ⟨rfl, hb3⟩
  have t3 := below_next t2 hb3
  have x3 := x2.below hb3 x2.lt
  clear t2 x2 hb3 c0 c1
  cases h2 : casterOk f s
  · go_wp2
    go_ret
    exact ⟨ret_bool (castOk_2 h2).symm, t3⟩
  by_cases h3 : n2 = n1 + 1
  · subst h3
    have hn6 : n1 ≤ 6 := by have := (heatsOk_facts h1).1; rw [HL1.out] at this; exact this
    have hne : (((n1 + 1 : Nat) : Int) != ((n1 : Int) + 1)) = false := by simp
    have H1 := Lib.hid h1
    have H2 := Lib.hid h2
    obtain ⟨f0, f1, s0, s1⟩ := casterOk_iff.1 h2
    clear h1 h2
    have hr2' := hr2.below t3
    go_wp2_with (fail)
    go_loop [31] (fun i => ∃ k : Nat, k ≤ n1 + 1 ∧ i = .int .i64 k ∧ ((ts.take k).all fun q => inB q 0 9999) = true) (fun i => n1 + 1 - (intOf i).toNat)
    case atStart => exact ⟨0, Nat.zero_le _, rfl, by simp⟩
    case round =>
      obtain ⟨k, hk, rfl, hall⟩ := hrel
      have HA := Lib.hid hall
      clear hall
      by_cases hlt : k < n1 + 1
      · obtain ⟨q, hq⟩ : ∃ q, ts[k]? = some q := ⟨_, List.getElem?_eq_getElem (by rw [HL2.out]; exact hlt)⟩
        obtain ⟨b, off, rfl, hbB, hc⟩ := hr2' k q hq
        have HQ := Lib.hid hq
        clear hq hr2 hr2'
        cases g1 : inB q 0 9999
        · go_wp2_with (go_at_call 53; refine (within_any _ _ _ _).mono ?_; rintro e w' ⟨rfl, rfl⟩)
          go_ret
          exact ⟨ret_bool (castOk_4 HQ.out g1).symm, t3⟩
        · go_wp2_with (go_at_call 53; refine (within_any _ _ _ _).mono ?_; rintro e w' ⟨rfl, rfl⟩)
          go_round
          case rel => exact ⟨k + 1, by omega, by go_num, by rw [List.take_add_one, HQ.out]; simp only [Option.toList_some, List.all_append, HA.out]; simp [g1]⟩
          case measure => simp [intOf] <;> omega
      · have HF : Hid ((ts.all fun q => inB q 0 9999) = true) := Lib.hid (by have h := HA.out; rwa [List.take_of_length_le (by rw [HL2.out]; omega)] at h)
        clear hr1 hr2 hr2' HA
        go_wp2_with (fail)
        go_loopw [41] (fun i wr => ∃ k : Nat, k ≤ n1 ∧ i = .int .i64 k ∧ (List.range k).all (castAt xs f s ts) = true ∧ BX wr w.heap.size [.int .i64 f, .int .i64 s] ∧ Below w.heap.size w wr) (fun i _ => n1 - (intOf i).toNat)
        case atStart => exact ⟨0, Nat.zero_le _, rfl, by simp, x3, t3⟩
        case round =>
          clear x3 t3
          obtain ⟨k, hk, rfl, hall, bx, hbel⟩ := hrel
          have HA := Lib.hid hall
          have hwsz := hbel.size
          clear hall
          by_cases hltk : k < n1
          · obtain ⟨⟨kk, t, r⟩, hx⟩ : ∃ q, xs[k]? = some q := ⟨_, List.getElem?_eq_getElem (by rw [HL1.out]; exact hltk)⟩
            obtain ⟨a, ha⟩ : ∃ q, ts[k]? = some q := ⟨_, List.getElem?_eq_getElem (by rw [HL2.out]; omega)⟩
            obtain ⟨b, hb⟩ : ∃ q, ts[k + 1]? = some q := ⟨_, List.getElem?_eq_getElem (by rw [HL2.out]; omega)⟩
            obtain ⟨b1, off1, rfl, hbB1, hc1, hc2, hc3⟩ := R1.out k kk t r hx
            obtain ⟨b2, off2, rfl, hbB2, hd1⟩ := R2.out k a ha
            obtain ⟨b2', off2', e', hbB2', hd2⟩ := R2.out (k + 1) b hb
            injection e' with e'
            injection e' with e1 e2
            subst e1 e2
            rw [← hbel.cell (by exact hbB1)] at hc1 hc2 hc3
            rw [← hbel.cell (by exact hbB2)] at hd1 hd2
            have hw2 : b2 < wr.heap.size := by omega
            have hf : ∀ q, q ∈ ts → 0 ≤ q ∧ q ≤ 9999 := fun q hq => inB_iff.1 (List.all_eq_true.1 HF.out q hq)
            obtain ⟨a0, a1⟩ := hf a (List.mem_of_getElem? ha)
            have c0 := bx.at_ 0 _ rfl
            have c1 := bx.at_ 1 _ rfl
            have hw0 := bx.lt
            have CA := Lib.hid (castAt_get (f := f) (s := s) hx ha hb)
            have BXN := Lib.hid (bx.alloc (.cells #[.int .i64 kk, .int .i64 t, .int .i64 r] 34))
            have HBN := Lib.hid (hbel.alloc hwsz (.cells #[.int .i64 kk, .int .i64 t, .int .i64 r] 34))
            clear hx ha hb hf bx hbel
            by_cases g1 : a < r
            · have HBAD : Hid (castAt xs f s ts k = false) := Lib.hid (by rw [CA.out]; simp; omega)
              go_wp2_with (fail)
              go_quiet (fail)
              go_wp2_with (go_at_call 53; refine (within_any _ _ _ _).mono ?_; rintro e w' ⟨rfl, rfl⟩)
              go_ret
              exact ⟨ret_bool (castOk_5 (by rw [HL1.out]; exact hltk) HBAD.out).symm, below_drawn HBN.out _⟩
            · have hra : r ≤ a := by omega
              cases g2 : inB b (a + f) (a + s)
              · have HBAD : Hid (castAt xs f s ts k = false) := Lib.hid (by rw [CA.out, g2]; simp)
                go_wp2_with (fail)
                go_quiet (fail)
                go_wp2_with (go_at_call 53; refine (within_any _ _ _ _).mono ?_; rintro e w' ⟨rfl, rfl⟩)
                go_ret
                exact ⟨ret_bool (castOk_5 (by rw [HL1.out]; exact hltk) HBAD.out).symm, below_drawn HBN.out _⟩
              · have HOK : Hid (castAt xs f s ts k = true) := Lib.hid (by rw [CA.out, g2]; simp [hra])
                go_wp2_with (fail)
                go_quiet (fail)
                go_wp2_with (go_at_call 53; refine (within_any _ _ _ _).mono ?_; rintro e w' ⟨rfl, rfl⟩)
                go_roundw
                case rel => exact ⟨k + 1, by omega, by go_num, allN_succ HA.out HOK.out, BXN.out.drewN _, below_drawn HBN.out _⟩
                case measure => simp [intOf] <;> omega
          · obtain rfl : k = n1 := by omega
            go_wp2
            go_ret
            exact ⟨ret_bool (castOk_mk H1.out H2.out (by rw [HL1.out, HL2.out]) HF.out (by rw [HL1.out]; exact HA.out)).symm, hbel⟩
  · have hne : ((n2 : Int) != ((n1 : Int) + 1)) = true := by rw [bne_iff_ne]; omega
    go_wp2
    go_ret
    exact ⟨ret_bool (castOk_3 (by rw [HL1.out, HL2.out]; exact h3)).symm, t3⟩
theorem castOk_all {xs : List (Int × Int × Int)} {f s : Int} {ts : List Int} (h1 : heatsOk xs = true) (h2 : casterOk f s = true) (h3 : ts.length = xs.length + 1) {q0 : Int} (h0 : ts[0]? = some q0) (hq0 : inB q0 0 9999 = true)
    (h5 : ∀ k, k < xs.length → castAt xs f s ts k = true ∧ ∀ b, ts[k + 1]? = some b → b ≤ 9999) : castOk xs f s ts = true := by
  refine castOk_mk h1 h2 h3 ?_ ?_
  · rw [List.all_eq_true]
    intro q hq
    obtain ⟨j, hj⟩ := List.getElem?_of_mem hq
    have hjl := (List.getElem?_eq_some_iff.1 hj).1
    cases j with
    | zero => rw [h0] at hj; injection hj with hj; subst hj; exact hq0
    | succ j =>
      obtain ⟨g1, g2⟩ := h5 j (by omega)
      obtain ⟨⟨kk, t, r⟩, hx⟩ : ∃ q, xs[j]? = some q := ⟨_, List.getElem?_eq_getElem (by omega)⟩
      obtain ⟨a, ha⟩ : ∃ q, ts[j]? = some q := ⟨_, List.getElem?_eq_getElem (by omega)⟩
      rw [castAt_get hx ha hj] at g1
      simp only [Bool.and_eq_true, decide_eq_true_eq, inB_iff] at g1
      have := (heatsOk_facts h1).2 j kk t r hx
      have := casterOk_iff.1 h2
      exact inB_true (by omega) (g2 q hj)
  · rw [List.all_eq_true]
    intro k hk
    exact (h5 k (List.mem_range.1 hk)).1
/-- the first k heats are cast rightly -/
def CastTo (xs : List (Int × Int × Int)) (f s : Int) (ts : List Int) (k : Nat) : Prop := ∀ j, j < k → castAt xs f s ts j = true ∧ ∀ b, ts[j + 1]? = some b → b ≤ 9999
theorem CastTo.get {xs : List (Int × Int × Int)} {f s : Int} {ts : List Int} {k : Nat} (h : CastTo xs f s ts k) (h1 : heatsOk xs = true) (h2 : casterOk f s = true) (hk : k ≤ xs.length) (h3 : ts.length = xs.length + 1) {q0 : Int} (h0 : ts[0]? = some q0) (hq0 : inB q0 0 9999 = true) {a : Int} (ha : ts[k]? = some a) : 0 ≤ a ∧ a ≤ 9999 := by
  cases k with
  | zero => rw [h0] at ha; injection ha with ha; subst ha; exact inB_iff.1 hq0
  | succ j =>
    obtain ⟨g1, g2⟩ := h j (by omega)
    obtain ⟨⟨kk, t, r⟩, hx⟩ : ∃ q, xs[j]? = some q := ⟨_, List.getElem?_eq_getElem (by omega)⟩
    obtain ⟨a', ha'⟩ : ∃ q, ts[j]? = some q := ⟨_, List.getElem?_eq_getElem (by omega)⟩
    rw [castAt_get hx ha' ha] at g1
    simp only [Bool.and_eq_true, decide_eq_true_eq, inB_iff] at g1
    have := (heatsOk_facts h1).2 j kk t r hx
    have := casterOk_iff.1 h2
    exact ⟨by omega, g2 a ha⟩
set_option maxRecDepth 100000 in
set_option maxHeartbeats 1000000 in
theorem specCast_any (A1 : Option Addr) (n1 c1 : Nat) (xs : List (Int × Int × Int)) (f s : Int) (A2 : Option Addr) (n2 c2 : Nat) (ts : List Int) (w : World)
    (hl1 : xs.length = n1) (hr1 : RdT w w.heap.size A1 xs) (hn1 : n1 ≤ 1048576) (hl2 : ts.length = n2) (hr2 : RdI .i64 w w.heap.size A2 ts) (hn2 : n2 ≤ 1048576) :
    Calls Tryd.prog 11 #[.slice A1 n1 c1, .agg #[.int .i64 f, .int .i64 s], .slice A2 n2 c2] w fun e w' => e = .returned (.bool (castOk xs f s ts)) ∧ Below w.heap.size w w' := by
  have HL1 := Lib.hid hl1
  have HL2 := Lib.hid hl2
  have R1 := Lib.hid hr1
  have R2 := Lib.hid hr2
  clear hl1 hl2
  have tA : Below w.heap.size w (w.alloc (.cells #[.int .i64 f, .int .i64 s] 25)) := (Below.refl _ w).alloc (Nat.le_refl _) _
  have xA : BX (w.alloc (.cells #[.int .i64 f, .int .i64 s] 25)) w.heap.size [.int .i64 f, .int .i64 s] := by
    exact ⟨by simp, fun j v hv => by
      rw [cell_of_row _ w.heap.size j _ _ (0, 0) (heap_alloc_new w _)]
      simpa using hv, fun j => by go_simp⟩
  go_enter Tryd.func11, Tryd.ntmps11
  go_wp2_with (fail)
  generalize w.alloc (.cells #[.int .i64 f, .int .i64 s] 25) = w1 at *
  refine (specHeats_any _ _ _ xs _ HL1.out (hr1.up tA tA.size) (by omega)).mono ?_
  rintro e w2 ⟨rfl, hb2⟩
  have t2 := below_next tA hb2
  have x2 := xA.below hb2 xA.lt
  clear tA xA hb2
  cases h1 : heatsOk xs
  · go_wp2
    go_ret
    exact ⟨ret_bool (castOk_1 h1).symm, t2⟩
  have c0 := x2.at_ 0 _ rfl
  have c1 := x2.at_ 1 _ rfl
  go_wp2_with (fail)
  refine (specCaster_any _ _ _).mono ?_
  rintro e w3 ⟨rfl, hb3⟩
  have t3 := below_next t2 hb3
  have x3 := x2.below hb3 x2.lt
  clear t2 x2 hb3 c0 c1
  cases h2 : casterOk f s
  · go_wp2
    go_ret
    exact ⟨ret_bool (castOk_2 h2).symm, t3⟩
  by_cases h3 : n2 = n1 + 1
  · subst h3
    have hn6 : n1 ≤ 6 := by have := (heatsOk_facts h1).1; rw [HL1.out] at this; exact this
    have hne : (((n1 + 1 : Nat) : Int) != ((n1 : Int) + 1)) = false := by simp
    have H1 := Lib.hid h1
    have H2 := Lib.hid h2
    obtain ⟨f0, f1, s0, s1⟩ := casterOk_iff.1 h2
    clear h1 h2
    obtain ⟨q0, hq0⟩ : ∃ q, ts[0]? = some q := ⟨_, List.getElem?_eq_getElem (by rw [HL2.out]; omega)⟩
    obtain ⟨b, off, rfl, hbB, hc⟩ := hr2 0 q0 hq0
    rw [← t3.cell (by exact hbB)] at hc
    simp only [Nat.add_zero] at hc
    have HQ0 := Lib.hid hq0
    clear hr1 hr2 hq0
    cases g0 : inB q0 0 9999
    · go_wp2_with (go_at_call 33; refine (in_any _ _ _ _).mono ?_; rintro e w' ⟨rfl, rfl⟩)
      go_ret
      exact ⟨ret_bool (castOk_4 HQ0.out g0).symm, t3⟩
    have G0 := Lib.hid g0
    go_wp2_with (go_at_call 33; refine (in_any _ _ _ _).mono ?_; rintro e w' ⟨rfl, rfl⟩)
    clear g0 hc
    go_loopw [7] (fun i wr => ∃ k : Nat, k ≤ n1 ∧ i = .int .i64 k ∧ CastTo xs f s ts k ∧ BX wr w.heap.size [.int .i64 f, .int .i64 s] ∧ Below w.heap.size w wr) (fun i _ => n1 - (intOf i).toNat)
    case atStart => exact ⟨0, Nat.zero_le _, rfl, fun j hj => absurd hj (Nat.not_lt_zero _), x3, t3⟩
    case round =>
      clear x3 t3
      obtain ⟨k, hk, rfl, hall, bx, hbel⟩ := hrel
      have HA := Lib.hid hall
      clear hall
      by_cases hltk : k < n1
      · obtain ⟨⟨kk, t, r⟩, hx⟩ : ∃ q, xs[k]? = some q := ⟨_, List.getElem?_eq_getElem (by rw [HL1.out]; exact hltk)⟩
        obtain ⟨a, ha⟩ : ∃ q, ts[k]? = some q := ⟨_, List.getElem?_eq_getElem (by rw [HL2.out]; omega)⟩
        obtain ⟨d, hd⟩ : ∃ q, ts[k + 1]? = some q := ⟨_, List.getElem?_eq_getElem (by rw [HL2.out]; omega)⟩
        obtain ⟨b1, off1, rfl, hbB1, hc1, hc2, hc3⟩ := R1.out k kk t r hx
        obtain ⟨b2, off2, e2, hbB2, hd1⟩ := R2.out k a ha
        injection e2 with e2
        injection e2 with e2 e3
        subst e2 e3
        obtain ⟨b2', off2', e', hbB2', hd2⟩ := R2.out (k + 1) d hd
        injection e' with e'
        injection e' with e1 e2
        subst e1 e2
        rw [← hbel.cell (by exact hbB1)] at hc1 hc2 hc3
        rw [← hbel.cell (by exact hbB2)] at hd1 hd2
        obtain ⟨a0, a1⟩ := HA.out.get H1.out H2.out (by rw [HL1.out]; exact hk) (by rw [HL1.out, HL2.out]) HQ0.out G0.out ha
        have c0 := bx.at_ 0 _ rfl
        have c1 := bx.at_ 1 _ rfl
        have CA := Lib.hid (castAt_get (f := f) (s := s) hx ha hd)
        have HD := Lib.hid hd
        have BXN := Lib.hid bx
        have HBN := Lib.hid hbel
        clear hx ha hd bx hbel
        cases g2 : inB d (a + f) (a + s)
        · have HBAD : Hid (castAt xs f s ts k = false) := Lib.hid (by rw [CA.out, g2]; simp)
          go_wp2_with (fail)
          go_quiet ((go_at_call 33; exact Calls.quiet_of_same ((in_any _ _ _ _).mono fun e w' h => ⟨h.1, h.2.symm⟩)))
          go_wp2
          go_ret
          exact ⟨ret_bool (castOk_5 (by rw [HL1.out]; exact hltk) HBAD.out).symm, below_drawn HBN.out _⟩
        · by_cases g1 : a < r
          · have D1 : decide (a < r) = true := by simpa using g1
            have HBAD : Hid (castAt xs f s ts k = false) := Lib.hid (by rw [CA.out]; simp; omega)
            go_wp2_with (fail)
            go_quiet ((go_at_call 33; exact Calls.quiet_of_same ((in_any _ _ _ _).mono fun e w' h => ⟨h.1, h.2.symm⟩)))
            go_wp2
            go_ret
            exact ⟨ret_bool (castOk_5 (by rw [HL1.out]; exact hltk) HBAD.out).symm, below_drawn HBN.out _⟩
          · have D1 : decide (a < r) = false := by simpa using g1
            have hra : r ≤ a := by omega
            by_cases g3 : 9999 < d
            · have D2 : decide (9999 < d) = true := by simpa using g3
              have HBAD : Hid (inB d 0 9999 = false) := Lib.hid (inB_false (by omega))
              go_wp2_with (fail)
              go_quiet ((go_at_call 33; exact Calls.quiet_of_same ((in_any _ _ _ _).mono fun e w' h => ⟨h.1, h.2.symm⟩)))
              go_wp2
              go_ret
              exact ⟨ret_bool (castOk_4 HD.out HBAD.out).symm, below_drawn HBN.out _⟩
            · have D2 : decide (9999 < d) = false := by simpa using g3
              have HOK : Hid (CastTo xs f s ts (k + 1)) := Lib.hid (fun j hj => by
                by_cases e : j = k
                · subst e
                  exact ⟨by rw [CA.out, g2]; simp [hra], fun b hb => by rw [HD.out] at hb; injection hb with hb; omega⟩
                · exact HA.out j (by omega))
              go_wp2_with (fail)
              go_quiet ((go_at_call 33; exact Calls.quiet_of_same ((in_any _ _ _ _).mono fun e w' h => ⟨h.1, h.2.symm⟩)))
              go_wp2
              go_roundw
              case rel => exact ⟨k + 1, by omega, by go_num, HOK.out, BXN.out.drewN _, below_drawn HBN.out _⟩
              case measure => simp [intOf] <;> omega
      · obtain rfl : k = n1 := by omega
        go_wp2
        go_ret
        exact ⟨ret_bool (castOk_all H1.out H2.out (by rw [HL1.out, HL2.out]) HQ0.out G0.out (by rw [HL1.out]; exact HA.out)).symm, hbel⟩
  · have hne : ((n2 : Int) != ((n1 : Int) + 1)) = true := by rw [bne_iff_ne]; omega
    go_wp2
    go_ret
    exact ⟨ret_bool (castOk_3 (by rw [HL1.out, HL2.out]; exact h3)).symm, t3⟩
end Go.Proofs.YtblbfgoifaddiaaDoor
