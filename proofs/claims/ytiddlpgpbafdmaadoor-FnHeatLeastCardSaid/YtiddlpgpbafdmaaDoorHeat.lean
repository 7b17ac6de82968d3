/- The walks of the functions on the heat of a slab: what each of them returns, in plain words of Ints. -/
import Derived.Test.YtiddlpgpbafdmaaDoorLeaf
namespace Go.Proofs.YtiddlpgpbafdmaaDoor
open Go.RowKit
set_option linter.unusedVariables false

theorem specStep_any (h f p : Int) (w : World) : Calls Tryd.prog 21 #[.int .i64 h, .int .i64 f, .int .i64 p] w fun e w' => e = .returned (.int .i64 (heatStep h f p)) ∧ w = w' := by
  cases hf : inB f 0 1500
  · go_enter Tryd.func21, Tryd.ntmps21
    go_wp2_with (go_at_call 57; refine (in_any _ _ _ _).mono ?_; rintro e w' ⟨rfl, rfl⟩)
    go_ret
    exact ⟨ret_int (by simp [heatStep, hsOk, hf]), rfl⟩
  · cases hh : inB h 0 f
    · go_enter Tryd.func21, Tryd.ntmps21
      go_wp2_with (go_at_call 57; refine (in_any _ _ _ _).mono ?_; rintro e w' ⟨rfl, rfl⟩)
      go_ret
      exact ⟨ret_int (by simp [heatStep, hsOk, hh]), rfl⟩
    · cases hp : inB p 1 99
      · go_enter Tryd.func21, Tryd.ntmps21
        go_wp2_with (go_at_call 57; refine (in_any _ _ _ _).mono ?_; rintro e w' ⟨rfl, rfl⟩)
        go_ret
        exact ⟨ret_int (by simp [heatStep, hsOk, hp]), rfl⟩
      · have e : heatStep h f p = step f p h := heatStep_ok (by simp [hsOk, hf, hh, hp])
        have HE := Lib.hid e
        clear e
        have b1 := inB_iff.1 hf
        have b2 := inB_iff.1 hh
        have b3 := inB_iff.1 hp
        obtain ⟨b11, b12⟩ := b1
        obtain ⟨b21, b22⟩ := b2
        obtain ⟨b31, b32⟩ := b3
        have d1 := (div_up_bounds (f - h) p (by omega) b31).1
        have d2 := (div_up_bounds (f - h) p (by omega) b31).2
        go_enter Tryd.func21, Tryd.ntmps21
        go_wp2_with (go_at_call 57; refine (in_any _ _ _ _).mono ?_; rintro e w' ⟨rfl, rfl⟩)
        go_ret
        exact ⟨ret_int (by rw [HE.out]; rfl), rfl⟩

theorem implStep_any (h f p : Int) (w : World) : Calls Tryd.prog 20 #[.int .i64 h, .int .i64 f, .int .i64 p] w fun e w' => e = .returned (.int .i64 (heatStep h f p)) ∧ w = w' := by
  cases hf : inB f 0 1500
  · go_enter Tryd.func20, Tryd.ntmps20
    go_wp2_with (go_at_call 56; refine (within_any _ _ _ _).mono ?_; rintro e w' ⟨rfl, rfl⟩)
    go_ret
    exact ⟨ret_int (by simp [heatStep, hsOk, hf]), rfl⟩
  · cases hh : inB h 0 f
    · go_enter Tryd.func20, Tryd.ntmps20
      go_wp2_with (go_at_call 56; refine (within_any _ _ _ _).mono ?_; rintro e w' ⟨rfl, rfl⟩)
      go_ret
      exact ⟨ret_int (by simp [heatStep, hsOk, hh]), rfl⟩
    · cases hp : inB p 1 99
      · go_enter Tryd.func20, Tryd.ntmps20
        go_wp2_with (go_at_call 56; refine (within_any _ _ _ _).mono ?_; rintro e w' ⟨rfl, rfl⟩)
        go_ret
        exact ⟨ret_int (by simp [heatStep, hsOk, hp]), rfl⟩
      · have e : heatStep h f p = step f p h := heatStep_ok (by simp [hsOk, hf, hh, hp])
        have HE := Lib.hid e
        clear e
        have b1 := inB_iff.1 hf
        have b2 := inB_iff.1 hh
        have b3 := inB_iff.1 hp
        obtain ⟨b11, b12⟩ := b1
        obtain ⟨b21, b22⟩ := b2
        obtain ⟨b31, b32⟩ := b3
        have d1 := (div_up_bounds (f - h) p (by omega) b31).1
        have d2 := (div_up_bounds (f - h) p (by omega) b31).2
        go_enter Tryd.func20, Tryd.ntmps20
        go_wp2_with (go_at_call 56; refine (within_any _ _ _ _).mono ?_; rintro e w' ⟨rfl, rfl⟩)
        go_ret
        exact ⟨ret_int (by rw [HE.out]; rfl), rfl⟩

theorem specAfter_any (h f p n : Int) (w : World) : Calls Tryd.prog 24 #[.int .i64 h, .int .i64 f, .int .i64 p, .int .i64 n] w fun e w' => e = .returned (.int .i64 (heatAfter h f p n)) ∧ w = w' := by
  cases hv : hsOk h f p
  · have hn := heatStep_neg hv
    go_enter Tryd.func24, Tryd.ntmps24
    go_wp2_with (first | (go_at_call 57; refine (in_any _ _ _ _).mono ?_; rintro e w' ⟨rfl, rfl⟩) | (go_at_call 21; refine (specStep_any _ _ _ _).mono ?_; rintro e w' ⟨rfl, rfl⟩))
    go_ret
    exact ⟨ret_int (by simp [heatAfter, hv]), rfl⟩
  · have hn := heatStep_nonneg hv
    cases hi : inB n 0 999
    · go_enter Tryd.func24, Tryd.ntmps24
      go_wp2_with (first | (go_at_call 57; refine (in_any _ _ _ _).mono ?_; rintro e w' ⟨rfl, rfl⟩) | (go_at_call 21; refine (specStep_any _ _ _ _).mono ?_; rintro e w' ⟨rfl, rfl⟩))
      go_ret
      exact ⟨ret_int (by simp [heatAfter, hi]), rfl⟩
    · have HV := Lib.hid hv
      have HI := Lib.hid hi
      obtain ⟨i1, i2⟩ := inB_iff.1 hi
      clear hv
      go_enter Tryd.func24, Tryd.ntmps24
      go_wp2_with (first | (go_at_call 57; refine (in_any _ _ _ _).mono ?_; rintro e w' ⟨rfl, rfl⟩) | (go_at_call 21; refine (specStep_any _ _ _ _).mono ?_; rintro e w' ⟨rfl, rfl⟩))
      clear hn hi
      go_loop [0, 9] (fun t i => ∃ k : Nat, (k : Int) ≤ n ∧ i = .int .i64 k ∧ t = .int .i64 (heatIt f p k h)) (fun _ i => (n - intOf i).toNat)
      case atStart => exact ⟨0, by omega, rfl, rfl⟩
      case round =>
        obtain ⟨k, hk, rfl, rfl⟩ := hrel
        have HS := Lib.hid (heatStep_it HV.out k)
        by_cases hlt : (k : Int) < n
        · go_wp2_with (first | (go_at_call 57; refine (in_any _ _ _ _).mono ?_; rintro e w' ⟨rfl, rfl⟩) | (go_at_call 21; refine (specStep_any _ _ _ _).mono ?_; rintro e w' ⟨rfl, rfl⟩))
          go_round
          case rel => exact ⟨k + 1, by omega, by go_num, by rw [HS.out]⟩
          case measure => simp [intOf]; omega
        · go_wp2_with (first | (go_at_call 57; refine (in_any _ _ _ _).mono ?_; rintro e w' ⟨rfl, rfl⟩) | (go_at_call 21; refine (specStep_any _ _ _ _).mono ?_; rintro e w' ⟨rfl, rfl⟩))
          go_ret
          exact ⟨ret_int (by simp only [heatAfter, HV.out, HI.out, Bool.and_self, if_true]; rw [show k = n.toNat by omega]), rfl⟩

theorem implAfter_any (h f p n : Int) (w : World) : Calls Tryd.prog 23 #[.int .i64 h, .int .i64 f, .int .i64 p, .int .i64 n] w fun e w' => e = .returned (.int .i64 (heatAfter h f p n)) ∧ w = w' := by
  cases hv : hsOk h f p
  · have hn := heatStep_neg hv
    go_enter Tryd.func23, Tryd.ntmps23
    go_wp2_with (first | (go_at_call 56; refine (within_any _ _ _ _).mono ?_; rintro e w' ⟨rfl, rfl⟩) | (go_at_call 20; refine (implStep_any _ _ _ _).mono ?_; rintro e w' ⟨rfl, rfl⟩))
    go_ret
    exact ⟨ret_int (by simp [heatAfter, hv]), rfl⟩
  · have hn := heatStep_nonneg hv
    cases hi : inB n 0 999
    · go_enter Tryd.func23, Tryd.ntmps23
      go_wp2_with (first | (go_at_call 56; refine (within_any _ _ _ _).mono ?_; rintro e w' ⟨rfl, rfl⟩) | (go_at_call 20; refine (implStep_any _ _ _ _).mono ?_; rintro e w' ⟨rfl, rfl⟩))
      go_ret
      exact ⟨ret_int (by simp [heatAfter, hi]), rfl⟩
    · have HV := Lib.hid hv
      have HI := Lib.hid hi
      obtain ⟨i1, i2⟩ := inB_iff.1 hi
      clear hv
      go_enter Tryd.func23, Tryd.ntmps23
      go_wp2_with (first | (go_at_call 56; refine (within_any _ _ _ _).mono ?_; rintro e w' ⟨rfl, rfl⟩) | (go_at_call 20; refine (implStep_any _ _ _ _).mono ?_; rintro e w' ⟨rfl, rfl⟩))
      clear hn hi
      go_loop [0, 20] (fun t i => ∃ k : Nat, (k : Int) ≤ n ∧ i = .int .i64 k ∧ t = .int .i64 (heatIt f p k h)) (fun _ i => (n - intOf i).toNat)
      case atStart => exact ⟨0, by omega, rfl, rfl⟩
      case round =>
        obtain ⟨k, hk, rfl, rfl⟩ := hrel
        have HS := Lib.hid (heatStep_it HV.out k)
        by_cases hlt : (k : Int) < n
        · go_wp2_with (first | (go_at_call 56; refine (within_any _ _ _ _).mono ?_; rintro e w' ⟨rfl, rfl⟩) | (go_at_call 20; refine (implStep_any _ _ _ _).mono ?_; rintro e w' ⟨rfl, rfl⟩))
          go_round
          case rel => exact ⟨k + 1, by omega, by go_num, by rw [HS.out]⟩
          case measure => simp [intOf]; omega
        · go_wp2_with (first | (go_at_call 56; refine (within_any _ _ _ _).mono ?_; rintro e w' ⟨rfl, rfl⟩) | (go_at_call 20; refine (implStep_any _ _ _ _).mono ?_; rintro e w' ⟨rfl, rfl⟩))
          go_ret
          exact ⟨ret_int (by simp only [heatAfter, HV.out, HI.out, Bool.and_self, if_true]; rw [show k = n.toNat by omega]), rfl⟩

theorem specMinutes_any (h f p x : Int) (w : World) : Calls Tryd.prog 30 #[.int .i64 h, .int .i64 f, .int .i64 p, .int .i64 x] w fun e w' => e = .returned (.int .i64 (heatMinutes h f p x)) ∧ w = w' := by
  cases hv : hsOk h f p
  · have hn := heatStep_neg hv
    go_enter Tryd.func30, Tryd.ntmps30
    go_wp2_with (first | (go_at_call 57; refine (in_any _ _ _ _).mono ?_; rintro e w' ⟨rfl, rfl⟩) | (go_at_call 21; refine (specStep_any _ _ _ _).mono ?_; rintro e w' ⟨rfl, rfl⟩))
    go_ret
    exact ⟨ret_int (by simp [heatMinutes, hv]), rfl⟩
  · have hn := heatStep_nonneg hv
    cases hi : inB x 0 f
    · go_enter Tryd.func30, Tryd.ntmps30
      go_wp2_with (first | (go_at_call 57; refine (in_any _ _ _ _).mono ?_; rintro e w' ⟨rfl, rfl⟩) | (go_at_call 21; refine (specStep_any _ _ _ _).mono ?_; rintro e w' ⟨rfl, rfl⟩))
      go_ret
      exact ⟨ret_int (by simp [heatMinutes, hi]), rfl⟩
    · have HV := Lib.hid hv
      have HI := Lib.hid hi
      obtain ⟨i1, i2⟩ := inB_iff.1 hi
      obtain ⟨v1, v2, v3, v4, v5, v6⟩ := hsOk_iff.1 hv
      clear hv
      go_enter Tryd.func30, Tryd.ntmps30
      go_wp2_with (first | (go_at_call 57; refine (in_any _ _ _ _).mono ?_; rintro e w' ⟨rfl, rfl⟩) | (go_at_call 21; refine (specStep_any _ _ _ _).mono ?_; rintro e w' ⟨rfl, rfl⟩))
      clear hn hi
      go_loop [0, 9] (fun t i => ∃ g m : Int, 0 ≤ m ∧ m + mins f p x g = mins f p x h ∧ 0 ≤ g ∧ g ≤ f ∧ t = .int .i64 g ∧ i = .int .i64 m) (fun t _ => (x - intOf t).toNat)
      case atStart => exact ⟨h, 0, by omega, by omega, by omega, by omega, rfl, rfl⟩
      case round =>
        obtain ⟨g, m, m0, hm, g0, g1, rfl, rfl⟩ := hrel
        have HM := Lib.hid hm
        clear hm
        have bm := mins_bounds (f := f) (p := p) (w := x) (h := h) v3 (by omega)
        have bg := mins_bounds (f := f) (p := p) (w := x) (h := g) g0 (by omega)
        have m1 : m ≤ 1500 := by have := HM.out; omega
        clear bm bg
        by_cases hlt : g < x
        · have HS := Lib.hid (heatStep_ok (h := g) (f := f) (p := p) (hsOk_iff.2 ⟨v1, v2, g0, g1, v5, v6⟩))
          go_wp2_with (first | (go_at_call 57; refine (in_any _ _ _ _).mono ?_; rintro e w' ⟨rfl, rfl⟩) | (go_at_call 21; refine (specStep_any _ _ _ _).mono ?_; rintro e w' ⟨rfl, rfl⟩))
          go_round
          case rel => 
            have sb := step_bounds (f := f) (p := p) (h := g) g0 g1 v5
            have ms := mins_step (f := f) (p := p) (w := x) (h := g) v5 i2 hlt
            have hm := HM.out
            exact ⟨step f p g, m + 1, by omega, by omega, by omega, by omega, by rw [HS.out], rfl⟩
          case measure =>
            have sg := step_gt (f := f) (p := p) (h := g) (by omega) v5
            simp only [intOf]
            rw [HS.out]
            omega
        · have md := mins_done (f := f) (p := p) (w := x) (h := g) (by omega)
          have HD := Lib.hid md
          clear md
          go_wp2_with (first | (go_at_call 57; refine (in_any _ _ _ _).mono ?_; rintro e w' ⟨rfl, rfl⟩) | (go_at_call 21; refine (specStep_any _ _ _ _).mono ?_; rintro e w' ⟨rfl, rfl⟩))
          go_ret
          exact ⟨ret_int (by simp only [heatMinutes, HV.out, HI.out, Bool.and_self, if_true]; have := HM.out; have := HD.out; omega), rfl⟩

theorem implMinutes_any (h f p x : Int) (w : World) : Calls Tryd.prog 29 #[.int .i64 h, .int .i64 f, .int .i64 p, .int .i64 x] w fun e w' => e = .returned (.int .i64 (heatMinutes h f p x)) ∧ w = w' := by
  cases hv : hsOk h f p
  · have hn := heatStep_neg hv
    go_enter Tryd.func29, Tryd.ntmps29
    go_wp2_with (first | (go_at_call 56; refine (within_any _ _ _ _).mono ?_; rintro e w' ⟨rfl, rfl⟩) | (go_at_call 20; refine (implStep_any _ _ _ _).mono ?_; rintro e w' ⟨rfl, rfl⟩))
    go_ret
    exact ⟨ret_int (by simp [heatMinutes, hv]), rfl⟩
  · have hn := heatStep_nonneg hv
    cases hi : inB x 0 f
    · go_enter Tryd.func29, Tryd.ntmps29
      go_wp2_with (first | (go_at_call 56; refine (within_any _ _ _ _).mono ?_; rintro e w' ⟨rfl, rfl⟩) | (go_at_call 20; refine (implStep_any _ _ _ _).mono ?_; rintro e w' ⟨rfl, rfl⟩))
      go_ret
      exact ⟨ret_int (by simp [heatMinutes, hi]), rfl⟩
    · have HV := Lib.hid hv
      have HI := Lib.hid hi
      obtain ⟨i1, i2⟩ := inB_iff.1 hi
      obtain ⟨v1, v2, v3, v4, v5, v6⟩ := hsOk_iff.1 hv
      clear hv
      go_enter Tryd.func29, Tryd.ntmps29
      go_wp2_with (first | (go_at_call 56; refine (within_any _ _ _ _).mono ?_; rintro e w' ⟨rfl, rfl⟩) | (go_at_call 20; refine (implStep_any _ _ _ _).mono ?_; rintro e w' ⟨rfl, rfl⟩))
      clear hn hi
      go_loop [0, 9] (fun t i => ∃ g m : Int, 0 ≤ m ∧ m + mins f p x g = mins f p x h ∧ 0 ≤ g ∧ g ≤ f ∧ t = .int .i64 g ∧ i = .int .i64 m) (fun t _ => (x - intOf t).toNat)
      case atStart => exact ⟨h, 0, by omega, by omega, by omega, by omega, rfl, rfl⟩
      case round =>
        obtain ⟨g, m, m0, hm, g0, g1, rfl, rfl⟩ := hrel
        have HM := Lib.hid hm
        clear hm
        have bm := mins_bounds (f := f) (p := p) (w := x) (h := h) v3 (by omega)
        have bg := mins_bounds (f := f) (p := p) (w := x) (h := g) g0 (by omega)
        have m1 : m ≤ 1500 := by have := HM.out; omega
        clear bm bg
        by_cases hlt : g < x
        · have HS := Lib.hid (heatStep_ok (h := g) (f := f) (p := p) (hsOk_iff.2 ⟨v1, v2, g0, g1, v5, v6⟩))
          go_wp2_with (first | (go_at_call 56; refine (within_any _ _ _ _).mono ?_; rintro e w' ⟨rfl, rfl⟩) | (go_at_call 20; refine (implStep_any _ _ _ _).mono ?_; rintro e w' ⟨rfl, rfl⟩))
          go_round
          case rel => 
            have sb := step_bounds (f := f) (p := p) (h := g) g0 g1 v5
            have ms := mins_step (f := f) (p := p) (w := x) (h := g) v5 i2 hlt
            have hm := HM.out
            exact ⟨step f p g, m + 1, by omega, by omega, by omega, by omega, by rw [HS.out], rfl⟩
          case measure =>
            have sg := step_gt (f := f) (p := p) (h := g) (by omega) v5
            simp only [intOf]
            rw [HS.out]
            omega
        · have md := mins_done (f := f) (p := p) (w := x) (h := g) (by omega)
          have HD := Lib.hid md
          clear md
          go_wp2_with (first | (go_at_call 56; refine (within_any _ _ _ _).mono ?_; rintro e w' ⟨rfl, rfl⟩) | (go_at_call 20; refine (implStep_any _ _ _ _).mono ?_; rintro e w' ⟨rfl, rfl⟩))
          go_ret
          exact ⟨ret_int (by simp only [heatMinutes, HV.out, HI.out, Bool.and_self, if_true]; have := HM.out; have := HD.out; omega), rfl⟩

theorem specLeast_any (h p x n : Int) (w : World) : Calls Tryd.prog 33 #[.int .i64 h, .int .i64 p, .int .i64 x, .int .i64 n] w fun e w' => e = .returned (.int .i64 (heatLeast h p x n)) ∧ w = w' := by
  cases h1 : inB x 0 1500
  · go_enter Tryd.func33, Tryd.ntmps33
    go_wp2_with (first | (go_at_call 57; refine (in_any _ _ _ _).mono ?_; rintro e w' ⟨rfl, rfl⟩) | (go_at_call 24; refine (specAfter_any _ _ _ _ _).mono ?_; rintro e w' ⟨rfl, rfl⟩))
    go_ret
    exact ⟨ret_int (by simp [heatLeast, hlOk, h1]), rfl⟩
  · cases h2 : inB h 0 x
    · go_enter Tryd.func33, Tryd.ntmps33
      go_wp2_with (first | (go_at_call 57; refine (in_any _ _ _ _).mono ?_; rintro e w' ⟨rfl, rfl⟩) | (go_at_call 24; refine (specAfter_any _ _ _ _ _).mono ?_; rintro e w' ⟨rfl, rfl⟩))
      go_ret
      exact ⟨ret_int (by simp [heatLeast, hlOk, h2]), rfl⟩
    · cases h3 : inB p 1 99
      · go_enter Tryd.func33, Tryd.ntmps33
        go_wp2_with (first | (go_at_call 57; refine (in_any _ _ _ _).mono ?_; rintro e w' ⟨rfl, rfl⟩) | (go_at_call 24; refine (specAfter_any _ _ _ _ _).mono ?_; rintro e w' ⟨rfl, rfl⟩))
        go_ret
        exact ⟨ret_int (by simp [heatLeast, hlOk, h3]), rfl⟩
      · cases h4 : inB n 0 99
        · go_enter Tryd.func33, Tryd.ntmps33
          go_wp2_with (first | (go_at_call 57; refine (in_any _ _ _ _).mono ?_; rintro e w' ⟨rfl, rfl⟩) | (go_at_call 24; refine (specAfter_any _ _ _ _ _).mono ?_; rintro e w' ⟨rfl, rfl⟩))
          go_ret
          exact ⟨ret_int (by simp [heatLeast, hlOk, h4]), rfl⟩
        · have HV : Hid (hlOk h p x n = true) := Lib.hid (by simp [hlOk, h1, h2, h3, h4])
          obtain ⟨v1, v2, v3, v4, v5, v6, v7, v8⟩ := hlOk_iff.1 HV.out
          go_enter Tryd.func33, Tryd.ntmps33
          go_wp2_with (first | (go_at_call 57; refine (in_any _ _ _ _).mono ?_; rintro e w' ⟨rfl, rfl⟩) | (go_at_call 24; refine (specAfter_any _ _ _ _ _).mono ?_; rintro e w' ⟨rfl, rfl⟩))
          clear h1 h2 h3 h4
          go_loop [9, 10] (fun s t => ∃ lo hi : Int, x ≤ lo ∧ lo ≤ hi ∧ hi ≤ 1501 ∧ LoB h p x n lo ∧ HiB h p x n hi ∧ s = .int .i64 lo ∧ t = .int .i64 hi) (fun s t => (intOf t - intOf s).toNat)
          case atStart => exact ⟨x, 1501, by omega, by omega, by omega, LoB.start _ _ _ _, HiB.start _ _ _ _, rfl, rfl⟩
          case round =>
            obtain ⟨lo, hi, l0, l1, l2, hlo, hhi, rfl, rfl⟩ := hrel
            by_cases hlt : lo < hi
            · by_cases hge : x ≤ heatAfter h ((lo + hi) / 2) p n
              · go_wp2_with (first | (go_at_call 57; refine (in_any _ _ _ _).mono ?_; rintro e w' ⟨rfl, rfl⟩) | (go_at_call 24; refine (specAfter_any _ _ _ _ _).mono ?_; rintro e w' ⟨rfl, rfl⟩))
                go_round
                case rel => exact ⟨lo, (lo + hi) / 2, by omega, by omega, by omega, hlo, HiB.down HV.out (by omega) hge, rfl, rfl⟩
                case measure => simp [intOf]; omega
              · go_wp2_with (first | (go_at_call 57; refine (in_any _ _ _ _).mono ?_; rintro e w' ⟨rfl, rfl⟩) | (go_at_call 24; refine (specAfter_any _ _ _ _ _).mono ?_; rintro e w' ⟨rfl, rfl⟩))
                go_round
                case rel => exact ⟨(lo + hi) / 2 + 1, hi, by omega, by omega, by omega, LoB.up HV.out (by omega) (by omega), hhi, rfl, rfl⟩
                case measure => simp [intOf]; omega
            · have he : hi = lo := by omega
              have HE := Lib.hid he
              clear he
              by_cases hg : 1500 < lo
              · go_wp2_with (first | (go_at_call 57; refine (in_any _ _ _ _).mono ?_; rintro e w' ⟨rfl, rfl⟩) | (go_at_call 24; refine (specAfter_any _ _ _ _ _).mono ?_; rintro e w' ⟨rfl, rfl⟩))
                go_ret
                exact ⟨ret_int (by rw [heatLeast_none HV.out hg hlo]), rfl⟩
              · go_wp2_with (first | (go_at_call 57; refine (in_any _ _ _ _).mono ?_; rintro e w' ⟨rfl, rfl⟩) | (go_at_call 24; refine (specAfter_any _ _ _ _ _).mono ?_; rintro e w' ⟨rfl, rfl⟩))
                go_ret
                exact ⟨ret_int (by rw [heatLeast_yes HV.out l0 (by omega) hlo (by rw [← HE.out]; exact hhi)]), rfl⟩

theorem implLeast_any (h p x n : Int) (w : World) : Calls Tryd.prog 32 #[.int .i64 h, .int .i64 p, .int .i64 x, .int .i64 n] w fun e w' => e = .returned (.int .i64 (heatLeast h p x n)) ∧ w = w' := by
  cases h1 : inB x 0 1500
  · go_enter Tryd.func32, Tryd.ntmps32
    go_wp2_with (first | (go_at_call 56; refine (within_any _ _ _ _).mono ?_; rintro e w' ⟨rfl, rfl⟩) | (go_at_call 23; refine (implAfter_any _ _ _ _ _).mono ?_; rintro e w' ⟨rfl, rfl⟩))
    go_ret
    exact ⟨ret_int (by simp [heatLeast, hlOk, h1]), rfl⟩
  · cases h2 : inB h 0 x
    · go_enter Tryd.func32, Tryd.ntmps32
      go_wp2_with (first | (go_at_call 56; refine (within_any _ _ _ _).mono ?_; rintro e w' ⟨rfl, rfl⟩) | (go_at_call 23; refine (implAfter_any _ _ _ _ _).mono ?_; rintro e w' ⟨rfl, rfl⟩))
      go_ret
      exact ⟨ret_int (by simp [heatLeast, hlOk, h2]), rfl⟩
    · cases h3 : inB p 1 99
      · go_enter Tryd.func32, Tryd.ntmps32
        go_wp2_with (first | (go_at_call 56; refine (within_any _ _ _ _).mono ?_; rintro e w' ⟨rfl, rfl⟩) | (go_at_call 23; refine (implAfter_any _ _ _ _ _).mono ?_; rintro e w' ⟨rfl, rfl⟩))
        go_ret
        exact ⟨ret_int (by simp [heatLeast, hlOk, h3]), rfl⟩
      · cases h4 : inB n 0 99
        · go_enter Tryd.func32, Tryd.ntmps32
          go_wp2_with (first | (go_at_call 56; refine (within_any _ _ _ _).mono ?_; rintro e w' ⟨rfl, rfl⟩) | (go_at_call 23; refine (implAfter_any _ _ _ _ _).mono ?_; rintro e w' ⟨rfl, rfl⟩))
          go_ret
          exact ⟨ret_int (by simp [heatLeast, hlOk, h4]), rfl⟩
        · have HV : Hid (hlOk h p x n = true) := Lib.hid (by simp [hlOk, h1, h2, h3, h4])
          obtain ⟨v1, v2, v3, v4, v5, v6, v7, v8⟩ := hlOk_iff.1 HV.out
          go_enter Tryd.func32, Tryd.ntmps32
          go_wp2_with (first | (go_at_call 56; refine (within_any _ _ _ _).mono ?_; rintro e w' ⟨rfl, rfl⟩) | (go_at_call 23; refine (implAfter_any _ _ _ _ _).mono ?_; rintro e w' ⟨rfl, rfl⟩))
          clear h1 h2 h3 h4
          go_loop [9] (fun t => ∃ y : Int, x ≤ y ∧ y ≤ 1501 ∧ search h p x n (1501 - y).toNat y = heatLeast h p x n ∧ t = .int .i64 y) (fun t => (1501 - intOf t).toNat)
          case atStart => exact ⟨x, by omega, by omega, by rw [heatLeast, if_pos HV.out], rfl⟩
          case round =>
            obtain ⟨y, y0, y1, hs, rfl⟩ := hrel
            have HS := Lib.hid hs
            clear hs
            by_cases hle : y ≤ 1500
            · by_cases hge : x ≤ heatAfter h y p n
              · go_wp2_with (first | (go_at_call 56; refine (within_any _ _ _ _).mono ?_; rintro e w' ⟨rfl, rfl⟩) | (go_at_call 23; refine (implAfter_any _ _ _ _ _).mono ?_; rintro e w' ⟨rfl, rfl⟩))
                go_ret
                exact ⟨ret_int (by rw [← HS.out, search_hit hle hge]), rfl⟩
              · go_wp2_with (first | (go_at_call 56; refine (within_any _ _ _ _).mono ?_; rintro e w' ⟨rfl, rfl⟩) | (go_at_call 23; refine (implAfter_any _ _ _ _ _).mono ?_; rintro e w' ⟨rfl, rfl⟩))
                go_round
                case rel => exact ⟨y + 1, by omega, by omega, by rw [← HS.out, search_miss hle (by omega)], rfl⟩
                case measure => simp [intOf]; omega
            · go_wp2_with (first | (go_at_call 56; refine (within_any _ _ _ _).mono ?_; rintro e w' ⟨rfl, rfl⟩) | (go_at_call 23; refine (implAfter_any _ _ _ _ _).mono ?_; rintro e w' ⟨rfl, rfl⟩))
              go_ret
              exact ⟨ret_int (by rw [← HS.out, search_end (by omega)]), rfl⟩
end Go.Proofs.YtiddlpgpbafdmaaDoor
