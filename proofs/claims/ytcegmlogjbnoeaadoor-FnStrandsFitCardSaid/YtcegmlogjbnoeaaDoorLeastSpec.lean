/- 'StrandsLeast' of the reference, walked. Printed by a program of ours (its leaves are alike). -/
import Derived.Test.YtcegmlogjbnoeaaDoorLeastPlain
import Derived.Test.YtcegmlogjbnoeaaDoorCutWalk
import Derived.Test.YtcegmlogjbnoeaaDoorSz
import Derived.Test.YtcegmlogjbnoeaaDoorOwnApart
import Derived.Deep.DeepMust
namespace Go.Proofs.YtcegmlogjbnoeaaDoor
open Go.RowKit
set_option linter.unusedVariables false
theorem own_single (base : Nat) (e : TypeId) (x : Int) (w : World) (hb : base ≤ w.heap.size) : (w.alloc (.cells #[.int .i64 x] e)).ownsRow base e 1 (.slice (some ⟨w.heap.size, 0, none⟩) 1 1) 1 (intsV .i64 [x]) :=
  ⟨by simp [intsV], .inr ⟨w.heap.size, 1, #[.int .i64 x], rfl, hb, heap_alloc_new w _, Nat.le_refl _, by decide, rfl, by simp [intsV]⟩⟩
theorem lex_rest {ws ms us : List Int} {long : Int} {s k : Nat} (h : LexTo ws long ms us s) (hn : ws.length ≤ 8) (hs : s < 256) (hk : k < 8) (hb : bitsOf s k = true) :
    2 ^ k ≤ s ∧ ∃ (m : Nat) (u : Int), ms[s - 2 ^ k]? = some (m : Int) ∧ us[s - 2 ^ k]? = some u ∧ LexOpt ws.length (wF ws) long (fun i => bitsOf s i && decide (i ≠ k)) m u := by
  obtain ⟨a, b⟩ := sub_bit s hs k hk hb
  have hp : 0 < 2 ^ k := Nat.two_pow_pos k
  obtain ⟨m, u, c, d, e⟩ := h (s - 2 ^ k) (by omega)
  exact ⟨a, m, u, c, d, e.congr fun i hi => b i (by omega)⟩
theorem lex_fin {ws ms us : List Int} {long : Int} {s m : Nat} {u : Int} (hw : wantsOk ws long = true) (h : LexTo ws long ms us s) (hs : s < 2 ^ ws.length) (h0 : 0 < s) (ho : LexSo ws.length (wF ws) long (bitsOf s) ws.length m u) : LexOpt ws.length (wF ws) long (bitsOf s) m u := by
  have hn := (wantsOk_len hw).1
  have h256 : s < 256 := Nat.lt_of_lt_of_le hs (Nat.pow_le_pow_right (n := 2) (by decide) hn)
  obtain ⟨_, b, _, _⟩ := low_bit s h256 h0
  refine LexSo.fin (wants_fits hw) ⟨_, bit_lt hs b, b⟩ (fun j hj hb => ?_) ho
  obtain ⟨_, m', u', _, _, e⟩ := lex_rest h hn h256 (by omega) hb
  exact ⟨m', u', e⟩
theorem lex_ext {ws : List Int} {long u u' x : Int} {s k m m' : Nat} (hw : wantsOk ws long = true) (hk : k < ws.length) (hx : ws[k]? = some x) (hb : bitsOf s k = true) (hso : LexSo ws.length (wF ws) long (bitsOf s) k m u) (ho : LexOpt ws.length (wF ws) long (fun i => bitsOf s i && decide (i ≠ k)) m' u') :
    ((m' = 0 ∨ long < u' + x) → ((m' + 1 < m ∨ (m' + 1 = m ∧ x < u)) → LexSo ws.length (wF ws) long (bitsOf s) (k + 1) (m' + 1) x) ∧ (¬ (m' + 1 < m ∨ (m' + 1 = m ∧ x < u)) → LexSo ws.length (wF ws) long (bitsOf s) (k + 1) m u)) ∧
    (¬ (m' = 0 ∨ long < u' + x) → ((m' < m ∨ (m' = m ∧ u' + x < u)) → LexSo ws.length (wF ws) long (bitsOf s) (k + 1) m' (u' + x)) ∧ (¬ (m' < m ∨ (m' = m ∧ u' + x < u)) → LexSo ws.length (wF ws) long (bitsOf s) (k + 1) m u)) := by
  have hwx := wF_get hx
  have t := LexSo.take (wants_fits hw) hso hk hb (fun i _ => rfl) ho
  have kp := LexSo.keep hso hb (fun i _ => rfl) ho
  rw [hwx] at t kp
  constructor
  · intro c
    rw [extM, extU, if_pos c, if_pos c] at t kp
    exact ⟨t, kp⟩
  · intro c
    rw [extM, extU, if_neg c, if_neg c] at t kp
    exact ⟨t, kp⟩
set_option maxRecDepth 100000 in
set_option maxHeartbeats 16000000 in
theorem specLeast_any {v : Int} (A : Option Addr) (n c : Nat) (ws : List Int) (long : Int) (w : World) (hl : ws.length = n) (hr : RdI .i64 w w.heap.size A ws) (hn : n ≤ 1048576) (hv : SLeast ws long v) :
    Calls Tryd.prog 46 #[.slice A n c, .int .i64 long] w fun e w' => e = .returned (.int .i64 v) ∧ Below w.heap.size w w' := by
  obtain ⟨i0, hi, hz0, hz1, hz2⟩ := info_parts info_int
  have HL := Lib.hid hl
  clear hl
  cases h1 : wantsOk ws long
  · have hv' := hv.no h1
    subst hv'
    go_enter Tryd.func46, Tryd.ntmps46
    go_wp2_with (go_at_call 34; refine (specWants_any _ _ _ ws long _ HL.out hr (by omega)).mono ?_; rintro e w' ⟨rfl, rfl⟩)
    go_ret
    exact ⟨rfl, Below.refl _ _⟩
  have H1 := Lib.hid h1
  obtain ⟨n8, L0, L1⟩ := wantsOk_len h1
  have hn8 : n ≤ 8 := by rw [← HL.out]; exact n8
  obtain ⟨N, hN⟩ : ∃ N, 2 ^ n = N := ⟨_, rfl⟩
  have hp : ((2 : Int) ^ n) = (N : Int) := by rw [pow2_nat, hN]
  have hN1 : 1 ≤ N ∧ N ≤ 256 := by
    obtain ⟨a, b⟩ := pow2_bounds hn8
    rw [hp] at a b; omega
  obtain ⟨hN1, hN2⟩ := hN1
  have HN := Lib.hid hN
  have hm1 := own_single w.heap.size 3 0 w (Nat.le_refl _)
  have hm2 := own_single w.heap.size 3 0 (w.alloc (.cells #[.int .i64 0] 3)) (by simp)
  simp only [World.size_alloc] at hm2
  have HM1 := Lib.hid (hm1.alloc (.cells #[.int .i64 0] 3))
  have HM2 := Lib.hid hm2
  clear hN n8 hm1 hm2
  go_enter Tryd.func46, Tryd.ntmps46
  go_wp2_with (go_at_call 34; refine (specWants_any _ _ _ ws long _ HL.out hr (by omega)).mono ?_; rintro e w' ⟨rfl, rfl⟩)
  clear h1
  go_loopw [5, 6, 7] (fun a b i wr => ∃ (s : Nat) (us ms : List Int) (A1 : Option Addr) (c1 : Nat) (A2 : Option Addr) (c2 : Nat), i = .int .i64 s ∧ 1 ≤ s ∧ s ≤ N ∧ a = .slice A1 s c1 ∧ b = .slice A2 s c2 ∧ LexTo ws long ms us s ∧ wr.ownsRow w.heap.size 3 1 (.slice A1 s c1) s (intsV .i64 ms) ∧ wr.ownsRow w.heap.size 3 1 (.slice A2 s c2) s (intsV .i64 us) ∧ ApartV (.slice A1 s c1) (.slice A2 s c2) ∧ Below w.heap.size w wr) (fun _ _ i _ => N - (intOf i).toNat)
  case atStart => exact ⟨1, [0], [0], _, _, _, _, rfl, Nat.le_refl _, hN1, rfl, rfl, LexTo.zero ws long, HM1.out, HM2.out, (fun k h h2 => by simp [Value.ownBlock] at h h2; omega), (by repeat' (first | exact Below.refl _ _ | assumption | refine Below.alloc ?_ (by first | omega | (simp; done) | (simp; omega)) _ | refine Below.setCell ?_ (by first | omega | (simp; done) | (simp; omega)) _ | refine Below.drew ?_ | refine below_drawn ?_ _))⟩
  case round =>
    obtain ⟨s, us, ms, A1, c1, A2, c2, rfl, hs1, hs, rfl, rfl, hlex, hown1, hown2, hap, hbel⟩ := hrel
    clear HM1 HM2
    have hsz := hbel.size
    by_cases hlt : s < N
    · have HS2 : Hid (s < 2 ^ ws.length) := Lib.hid (by rw [HL.out, HN.out]; exact hlt)
      have HLEX := Lib.hid hlex
      have HAP := Lib.hid hap
      have HA1 := Lib.hid hown1
      have HA2 := Lib.hid hown2
      have hst : LexSo ws.length (wF ws) long (bitsOf s) 0 (n + 1) 0 := by
        have := LexSo.start (n := ws.length) (w := wF ws) (L := long) (bitsOf s)
        rw [HL.out] at this ⊢; exact this
      clear hlex hap
      obtain ⟨wo, rfl⟩ : ∃ wo : World, wo = wr := ⟨_, rfl⟩
      go_wp2
      go_loopw [8, 9, 10] (fun a b i ww => ∃ (k m : Nat) (u : Int), k ≤ n ∧ i = .int .i64 k ∧ a = .int .i64 m ∧ b = .int .i64 u ∧ 0 ≤ u ∧ u ≤ 60 ∧ m ≤ 9 ∧ LexSo ws.length (wF ws) long (bitsOf s) k m u ∧ ww.ownsRow w.heap.size 3 1 (.slice A1 s c1) s (intsV .i64 ms) ∧ ww.ownsRow w.heap.size 3 1 (.slice A2 s c2) s (intsV .i64 us) ∧ Below w.heap.size w ww) (fun _ _ i _ => n - (intOf i).toNat)
      case atStart => exact ⟨0, n + 1, 0, Nat.zero_le _, rfl, by go_num, rfl, by omega, by omega, by omega, hst, hown1, hown2, hbel⟩
      case round =>
        obtain ⟨k, m, u, hk, rfl, rfl, rfl, hu0, hu1, hm9, hso, hown1, hown2, hbel2⟩ := hrel
        clear hst hbel
        have hsz2 := hbel2.size
        by_cases hltk : k < n
        · obtain ⟨x, hx⟩ : ∃ x, ws[k]? = some x := ⟨_, List.getElem?_eq_getElem (by rw [HL.out]; omega)⟩
          obtain ⟨b, off, rfl, hbB, hcx⟩ := hr k x hx
          rw [← hbel2.cell (by exact hbB)] at hcx
          obtain ⟨x0, x1⟩ := wantsOk_get H1.out hx
          have HO1 := Lib.hid hown1
          have HO2 := Lib.hid hown2
          cases hb : bitsOf s k
          · have hd : (((s : Int) / 2 ^ k).tmod 2 == 1) = false := by
              rw [tmod_bit k (by omega)]
              have : ¬ bitI (s : Int) k = 1 := fun h => by rw [bitI_one.1 h] at hb; cases hb
              simpa using this
            have HN := Lib.hid (hso.skip hb)
            clear hso hx hr hown1 hown2
            go_wp2
            go_roundw
            case rel => exact ⟨k + 1, m, u, by omega, by go_num, rfl, rfl, hu0, hu1, hm9, HN.out, HO1.out, HO2.out, hbel2⟩
            case measure => simp [intOf] <;> omega
          · have hd : (((s : Int) / 2 ^ k).tmod 2 == 1) = true := by rw [tmod_bit k (by omega), bitI_one.2 hb]; rfl
            obtain ⟨hKs, m', u', hm', hu', hopt⟩ := lex_rest HLEX.out (by rw [HL.out]; exact hn8) (by omega) (by omega) hb
            obtain ⟨w0, w1⟩ := hopt.1.bounds (wants_fits H1.out) (by omega)
            have hmn : m' ≤ n := by have := hopt.isOpt.le (wants_fits H1.out); rw [HL.out] at this; exact this
            have hext := lex_ext H1.out (by rw [HL.out]; exact hltk) hx hb hso hopt
            have hK0 : 0 < 2 ^ k := Nat.two_pow_pos k
            have hK2 : ((2 : Int) ^ k) = ((2 ^ k : Nat) : Int) := pow2_nat k
            obtain ⟨b1, off1, rfl, hbB1, hc1⟩ := RdI.of_own hown1 _ _ hm'
            obtain ⟨b2, off2, rfl, hbB2, hc2⟩ := RdI.of_own hown2 _ _ hu'
            have HEX := Lib.hid hext
            clear hext hso hx hr hown1 hown2 hm' hu' hopt hb
            rw [hK2] at hd
            generalize 2 ^ k = K2 at *
            have hidx : (0 : Int) ≤ (s : Int) - (K2 : Int) := by omega
            have HEXA : Hid ((m' = 0 ∨ long < u' + x) → ((m' + 1 < m ∨ (m' + 1 = m ∧ x < u)) → LexSo ws.length (wF ws) long (bitsOf s) (k + 1) (m' + 1) x) ∧ (¬ (m' + 1 < m ∨ (m' + 1 = m ∧ x < u)) → LexSo ws.length (wF ws) long (bitsOf s) (k + 1) m u)) := Lib.hid HEX.out.1
            have HEXB : Hid (¬ (m' = 0 ∨ long < u' + x) → ((m' < m ∨ (m' = m ∧ u' + x < u)) → LexSo ws.length (wF ws) long (bitsOf s) (k + 1) m' (u' + x)) ∧ (¬ (m' < m ∨ (m' = m ∧ u' + x < u)) → LexSo ws.length (wF ws) long (bitsOf s) (k + 1) m u)) := Lib.hid HEX.out.2
            clear HEX
            by_cases z : m' = 0
            · have HC : m' = 0 ∨ long < u' + x := .inl z
              have hz : ((m' : Int) == 0) = true := by simp; omega
              by_cases c1 : m' + 1 < m
              · have HN := Lib.hid ((HEXA.out HC).1 (.inl (by omega)))
                clear HEXA HEXB HC
                go_wp2_with (fail)
                go_quiet (fail)
                go_wp2
                go_roundw
                case rel => exact ⟨k + 1, m' + 1, x, by omega, by go_num, by go_num, rfl, by omega, by omega, by omega, HN.out, own_drewN HO1.out _, own_drewN HO2.out _, (by repeat' (first | exact Below.refl _ _ | assumption | refine Below.alloc ?_ (by first | omega | (simp; done) | (simp; omega)) _ | refine Below.setCell ?_ (by first | omega | (simp; done) | (simp; omega)) _ | refine Below.drew ?_ | refine below_drawn ?_ _))⟩
                case measure => simp [intOf] <;> omega
              · by_cases c2 : m < m' + 1
                · have q1 : (((m' : Int) + 1) == (m : Int)) = false := by simp; omega
                  have HN := Lib.hid ((HEXA.out HC).2 (by omega))
                  clear HEXA HEXB HC
                  go_wp2_with (fail)
                  go_quiet (fail)
                  go_wp2
                  go_roundw
                  case rel => exact ⟨k + 1, m, u, by omega, by go_num, rfl, rfl, by omega, by omega, by omega, HN.out, own_drewN HO1.out _, own_drewN HO2.out _, (by repeat' (first | exact Below.refl _ _ | assumption | refine Below.alloc ?_ (by first | omega | (simp; done) | (simp; omega)) _ | refine Below.setCell ?_ (by first | omega | (simp; done) | (simp; omega)) _ | refine Below.drew ?_ | refine below_drawn ?_ _))⟩
                  case measure => simp [intOf] <;> omega
                · obtain rfl : m = m' + 1 := by omega
                  by_cases c3 : x < u
                  · have HN := Lib.hid ((HEXA.out HC).1 (.inr ⟨rfl, by omega⟩))
                    clear HEXA HEXB HC
                    go_wp2_with (fail)
                    go_quiet (fail)
                    go_wp2
                    go_roundw
                    case rel => exact ⟨k + 1, m' + 1, x, by omega, by go_num, by go_num, rfl, by omega, by omega, by omega, HN.out, own_drewN HO1.out _, own_drewN HO2.out _, (by repeat' (first | exact Below.refl _ _ | assumption | refine Below.alloc ?_ (by first | omega | (simp; done) | (simp; omega)) _ | refine Below.setCell ?_ (by first | omega | (simp; done) | (simp; omega)) _ | refine Below.drew ?_ | refine below_drawn ?_ _))⟩
                    case measure => simp [intOf] <;> omega
                  · have q2 : decide (x < u) = false := by simp; omega
                    have HN := Lib.hid ((HEXA.out HC).2 (by omega))
                    clear HEXA HEXB HC
                    go_wp2_with (fail)
                    go_quiet (fail)
                    go_wp2
                    go_roundw
                    case rel => exact ⟨k + 1, m' + 1, u, by omega, by go_num, by go_num, rfl, by omega, by omega, by omega, HN.out, own_drewN HO1.out _, own_drewN HO2.out _, (by repeat' (first | exact Below.refl _ _ | assumption | refine Below.alloc ?_ (by first | omega | (simp; done) | (simp; omega)) _ | refine Below.setCell ?_ (by first | omega | (simp; done) | (simp; omega)) _ | refine Below.drew ?_ | refine below_drawn ?_ _))⟩
                    case measure => simp [intOf] <;> omega
            · have hz : ((m' : Int) == 0) = false := by simp; omega
              by_cases z2 : long < u' + x
              · have HC : m' = 0 ∨ long < u' + x := .inr z2
                by_cases c1 : m' + 1 < m
                · have HN := Lib.hid ((HEXA.out HC).1 (.inl (by omega)))
                  clear HEXA HEXB HC
                  go_wp2_with (fail)
                  go_quiet (fail)
                  go_wp2
                  go_roundw
                  case rel => exact ⟨k + 1, m' + 1, x, by omega, by go_num, by go_num, rfl, by omega, by omega, by omega, HN.out, own_drewN HO1.out _, own_drewN HO2.out _, (by repeat' (first | exact Below.refl _ _ | assumption | refine Below.alloc ?_ (by first | omega | (simp; done) | (simp; omega)) _ | refine Below.setCell ?_ (by first | omega | (simp; done) | (simp; omega)) _ | refine Below.drew ?_ | refine below_drawn ?_ _))⟩
                  case measure => simp [intOf] <;> omega
                · by_cases c2 : m < m' + 1
                  · have q1 : (((m' : Int) + 1) == (m : Int)) = false := by simp; omega
                    have HN := Lib.hid ((HEXA.out HC).2 (by omega))
                    clear HEXA HEXB HC
                    go_wp2_with (fail)
                    go_quiet (fail)
                    go_wp2
                    go_roundw
                    case rel => exact ⟨k + 1, m, u, by omega, by go_num, rfl, rfl, by omega, by omega, by omega, HN.out, own_drewN HO1.out _, own_drewN HO2.out _, (by repeat' (first | exact Below.refl _ _ | assumption | refine Below.alloc ?_ (by first | omega | (simp; done) | (simp; omega)) _ | refine Below.setCell ?_ (by first | omega | (simp; done) | (simp; omega)) _ | refine Below.drew ?_ | refine below_drawn ?_ _))⟩
                    case measure => simp [intOf] <;> omega
                  · obtain rfl : m = m' + 1 := by omega
                    by_cases c3 : x < u
                    · have HN := Lib.hid ((HEXA.out HC).1 (.inr ⟨rfl, by omega⟩))
                      clear HEXA HEXB HC
                      go_wp2_with (fail)
                      go_quiet (fail)
                      go_wp2
                      go_roundw
                      case rel => exact ⟨k + 1, m' + 1, x, by omega, by go_num, by go_num, rfl, by omega, by omega, by omega, HN.out, own_drewN HO1.out _, own_drewN HO2.out _, (by repeat' (first | exact Below.refl _ _ | assumption | refine Below.alloc ?_ (by first | omega | (simp; done) | (simp; omega)) _ | refine Below.setCell ?_ (by first | omega | (simp; done) | (simp; omega)) _ | refine Below.drew ?_ | refine below_drawn ?_ _))⟩
                      case measure => simp [intOf] <;> omega
                    · have q2 : decide (x < u) = false := by simp; omega
                      have HN := Lib.hid ((HEXA.out HC).2 (by omega))
                      clear HEXA HEXB HC
                      go_wp2_with (fail)
                      go_quiet (fail)
                      go_wp2
                      go_roundw
                      case rel => exact ⟨k + 1, m' + 1, u, by omega, by go_num, by go_num, rfl, by omega, by omega, by omega, HN.out, own_drewN HO1.out _, own_drewN HO2.out _, (by repeat' (first | exact Below.refl _ _ | assumption | refine Below.alloc ?_ (by first | omega | (simp; done) | (simp; omega)) _ | refine Below.setCell ?_ (by first | omega | (simp; done) | (simp; omega)) _ | refine Below.drew ?_ | refine below_drawn ?_ _))⟩
                      case measure => simp [intOf] <;> omega
              · have HC : ¬ (m' = 0 ∨ long < u' + x) := by omega
                have hz2' : decide (long < u' + x) = false := by simp; omega
                by_cases c1 : m' < m
                · have HN := Lib.hid ((HEXB.out HC).1 (.inl (by omega)))
                  clear HEXA HEXB HC
                  go_wp2_with (fail)
                  go_quiet (fail)
                  go_wp2
                  go_roundw
                  case rel => exact ⟨k + 1, m', u' + x, by omega, by go_num, rfl, rfl, by omega, by omega, by omega, HN.out, own_drewN HO1.out _, own_drewN HO2.out _, (by repeat' (first | exact Below.refl _ _ | assumption | refine Below.alloc ?_ (by first | omega | (simp; done) | (simp; omega)) _ | refine Below.setCell ?_ (by first | omega | (simp; done) | (simp; omega)) _ | refine Below.drew ?_ | refine below_drawn ?_ _))⟩
                  case measure => simp [intOf] <;> omega
                · by_cases c2 : m < m'
                  · have q1 : (((m' : Int)) == (m : Int)) = false := by simp; omega
                    have HN := Lib.hid ((HEXB.out HC).2 (by omega))
                    clear HEXA HEXB HC
                    go_wp2_with (fail)
                    go_quiet (fail)
                    go_wp2
                    go_roundw
                    case rel => exact ⟨k + 1, m, u, by omega, by go_num, rfl, rfl, by omega, by omega, by omega, HN.out, own_drewN HO1.out _, own_drewN HO2.out _, (by repeat' (first | exact Below.refl _ _ | assumption | refine Below.alloc ?_ (by first | omega | (simp; done) | (simp; omega)) _ | refine Below.setCell ?_ (by first | omega | (simp; done) | (simp; omega)) _ | refine Below.drew ?_ | refine below_drawn ?_ _))⟩
                    case measure => simp [intOf] <;> omega
                  · obtain rfl : m' = m := by omega
                    by_cases c3 : u' + x < u
                    · have HN := Lib.hid ((HEXB.out HC).1 (.inr ⟨rfl, by omega⟩))
                      clear HEXA HEXB HC
                      go_wp2_with (fail)
                      go_quiet (fail)
                      go_wp2
                      go_roundw
                      case rel => exact ⟨k + 1, m', u' + x, by omega, by go_num, rfl, rfl, by omega, by omega, by omega, HN.out, own_drewN HO1.out _, own_drewN HO2.out _, (by repeat' (first | exact Below.refl _ _ | assumption | refine Below.alloc ?_ (by first | omega | (simp; done) | (simp; omega)) _ | refine Below.setCell ?_ (by first | omega | (simp; done) | (simp; omega)) _ | refine Below.drew ?_ | refine below_drawn ?_ _))⟩
                      case measure => simp [intOf] <;> omega
                    · have q2 : decide (u' + x < u) = false := by simp; omega
                      have HN := Lib.hid ((HEXB.out HC).2 (by omega))
                      clear HEXA HEXB HC
                      go_wp2_with (fail)
                      go_quiet (fail)
                      go_wp2
                      go_roundw
                      case rel => exact ⟨k + 1, m', u, by omega, by go_num, rfl, rfl, by omega, by omega, by omega, HN.out, own_drewN HO1.out _, own_drewN HO2.out _, (by repeat' (first | exact Below.refl _ _ | assumption | refine Below.alloc ?_ (by first | omega | (simp; done) | (simp; omega)) _ | refine Below.setCell ?_ (by first | omega | (simp; done) | (simp; omega)) _ | refine Below.drew ?_ | refine below_drawn ?_ _))⟩
                      case measure => simp [intOf] <;> omega
        · obtain rfl : k = n := by omega
          have HO1 := Lib.hid hown1
          have HO2 := Lib.hid hown2
          have hopt : LexOpt ws.length (wF ws) long (bitsOf s) m u := lex_fin H1.out HLEX.out HS2.out (by omega) (by rw [HL.out] at hso ⊢; exact hso)
          have hms : ms.length = s := by have := hown1.1; simpa [intsV] using this
          have hus : us.length = s := by have := hown2.1; simpa [intsV] using this
          have HNX := Lib.hid (HLEX.out.snoc hms hus hopt)
          clear hso hopt hms hus hown1 hown2
          go_wp2_with (first | (at_builtin; refine wpList_append_int_at _ rfl (.tmp 87) (.tmp 89) 24 rfl w.heap.size 3 i0 Tryd.underlying24 hi hz0 hz1 hz2 (.slice A1 s c1) s ms rfl (HO1.out.alloc _) wr.heap.size (Newest.alloc_ rfl) rfl (by omega) (by simp; omega) ?_; intro A8 cc8 w8 hown8 hgr8 hat8) | (at_builtin; refine wpList_append_int_at _ rfl (.tmp 91) (.tmp 93) 24 rfl w.heap.size 3 i0 Tryd.underlying24 hi hz0 hz1 hz2 (.slice A2 s c2) s us rfl ((own_apartV (HO2.out.alloc _) HAP.out hgr8).alloc _) w8.heap.size (Newest.alloc_ rfl) rfl (by omega) (by have := hgr8.size; simp at this ⊢; omega) ?_; intro A9 cc9 w9 hown9 hgr9 hat9))
          have hap8 := HAP.out.grown (HO2.out.alloc _) hat8
          have hown8' := own_apartV (hown8.alloc _) hap8.symm hgr9
          have hap9 := (hap8.symm.grown (hown8.alloc _) hat9).symm
          have t8 : Below w.heap.size w w8 := below_append (by repeat' (first | exact Below.refl _ _ | assumption | refine Below.alloc ?_ (by first | omega | (simp; done) | (simp; omega)) _ | refine Below.setCell ?_ (by first | omega | (simp; done) | (simp; omega)) _ | refine Below.drew ?_ | refine below_drawn ?_ _)) hgr8 (HO1.out.alloc _) (by simp; omega) (Nat.le_refl _)
          have t9 : Below w.heap.size w w9 := below_append (t8.alloc t8.size _) hgr9 ((own_apartV (HO2.out.alloc _) HAP.out hgr8).alloc _) (by have := t8.size; simp; omega) (Nat.le_refl _)
          have HP := Lib.hid hap9
          have HT := Lib.hid t9
          clear hgr8 hat8 hgr9 hat9 t8 t9 hap8 hap9
          go_roundw
          case rel => exact ⟨s + 1, us ++ [u], ms ++ [(m : Int)], A8, cc8, A9, cc9, by go_num, by omega, by omega, rfl, rfl, HNX.out, hown8', hown9, HP.out, HT.out⟩
          case measure => simp [intOf] <;> omega
    · obtain ⟨m, u, hm, hu, ho⟩ := hlex (N - 1) (by omega)
      obtain ⟨b1, off1, rfl, hbB1, hc1⟩ := RdI.of_own hown1 _ _ hm
      have HV := Lib.hid (hv.yes H1.out (s := N - 1) (by rw [HL.out, HN.out]; omega) ho.isOpt)
      obtain rfl : s = N := by omega
      clear hm hu ho hlex
      have hN0 : (0 : Int) ≤ (s : Int) - 1 := by omega
      have hNN : ((s : Int) - 1).toNat = s - 1 := by omega
      go_wp2
      go_ret
      exact ⟨ret_int HV.out.symm, hbel⟩
end Go.Proofs.YtcegmlogjbnoeaaDoor
