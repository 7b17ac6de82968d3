/- Plain law: sets of small numbers as the bits of a number; and the program's way to the least number of bins, over such sets. -/
import Derived.Test.YtblbfgoifaddiaaDoorPackLex
import Derived.Test.YtblbfgoifaddiaaDoorBits
import Derived.Lib.TrailingZeros
namespace Go.Proofs.YtblbfgoifaddiaaDoor
set_option linter.unusedVariables false
def bitsOf (s : Nat) (i : Nat) : Bool := s.testBit i
theorem bitI_nat (s k : Nat) : bitI (s : Int) k = ((s / 2 ^ k % 2 : Nat) : Int) := by
  unfold bitI
  rw [show ((2 : Int) ^ k) = ((2 ^ k : Nat) : Int) by simp, ← Int.natCast_ediv]
  omega
theorem bitI_one {s k : Nat} : bitI (s : Int) k = 1 ↔ bitsOf s k = true := by
  rw [bitI_nat, bitsOf, Nat.testBit_eq_decide_div_mod_eq, decide_eq_true_eq]; omega
theorem pow2_nat (k : Nat) : ((2 : Int) ^ k) = ((2 ^ k : Nat) : Int) := by simp
theorem sub_bit : ∀ s, s < 256 → ∀ k, k < 8 → s.testBit k = true → 2 ^ k ≤ s ∧ ∀ i, i < 8 → (s - 2 ^ k).testBit i = (s.testBit i && decide (i ≠ k)) := by decide +kernel
theorem low_bit : ∀ s, s < 256 → 0 < s → Lib.ctz 64 s < 8 ∧ s.testBit (Lib.ctz 64 s) = true ∧ s &&& (s - 1) = s - 2 ^ Lib.ctz 64 s ∧ s &&& (s - 1) < s := by decide +kernel
theorem bit_lt {s n k : Nat} (hs : s < 2 ^ n) (h : s.testBit k = true) : k < n := by
  rcases Nat.lt_or_ge k n with hlt | hge
  · exact hlt
  · have : s.testBit k = false := Nat.testBit_lt_two_pow (Nat.lt_of_lt_of_le hs (Nat.pow_le_pow_right (by decide) hge))
    rw [this] at h; cases h
theorem andNot_bit {s p i : Nat} (hp : p < 65536) (hi : i < 64) : (s &&& (18446744073709551615 - p)).testBit i = (s.testBit i && !p.testBit i) := by
  rw [Nat.testBit_and]
  have e : 18446744073709551615 - p = 2 ^ 64 - (p + 1) := by omega
  rw [e, Nat.testBit_two_pow_sub_succ (by omega)]
  simp [hi]
/-- a set's number -/
def numT (T : Nat → Bool) : Nat → Nat
  | 0 => 0
  | k + 1 => if T k = true then numT T k ||| 2 ^ k else numT T k
theorem numT_bit (T : Nat → Bool) (k i : Nat) : (numT T k).testBit i = (decide (i < k) && T i) := by
  induction k with
  | zero => simp [numT]
  | succ k ih =>
    rw [numT]
    by_cases hk : T k = true
    · rw [if_pos hk, Nat.testBit_or, ih, Nat.testBit_two_pow]
      by_cases e : k = i
      · subst e; simp [hk]
      · have : (i < k + 1) ↔ (i < k) := by omega
        simp [e, this]
    · rw [if_neg hk, ih]
      by_cases e : k = i
      · subst e; simp [hk]
      · have : (i < k + 1) ↔ (i < k) := by omega
        simp [this]
theorem and_half (a b : Nat) : (a &&& b) / 2 = (a / 2) &&& (b / 2) := by
  have := Nat.and_div_two_pow (a := a) (b := b) (n := 1)
  simpa using this
theorem and_odd (a b : Nat) : (a &&& b) % 2 = (a % 2) * (b % 2) := by
  have := Nat.and_mod_two_pow (a := a) (b := b) (n := 1)
  simp only [Nat.pow_one] at this
  rw [this]
  rcases (by omega : a % 2 = 0 ∨ a % 2 = 1) with h | h <;> rcases (by omega : b % 2 = 0 ∨ b % 2 = 1) with h' | h' <;> rw [h, h'] <;> rfl
/-- the next smaller subset -/
theorem sub_pred : ∀ (n S P T : Nat), S < 2 ^ n → P &&& S = P → T &&& S = T → T < P → T ≤ (P - 1) &&& S := by
  intro n
  induction n with
  | zero =>
    intro S P T hS hP hT hlt
    have : S = 0 := by simpa using hS
    subst this
    rw [Nat.and_zero] at hP; omega
  | succ n ih =>
    intro S P T hS hP hT hlt
    have p1 : (P / 2) &&& (S / 2) = P / 2 := by rw [← and_half, hP]
    have t1 : (T / 2) &&& (S / 2) = T / 2 := by rw [← and_half, hT]
    have p2 : (P % 2) * (S % 2) = P % 2 := by rw [← and_odd, hP]
    have t2 : (T % 2) * (S % 2) = T % 2 := by rw [← and_odd, hT]
    have h1 := and_half (P - 1) S
    have h2 := and_odd (P - 1) S
    rcases (by omega : P % 2 = 1 ∨ P % 2 = 0) with hp | hp
    · have e : (P - 1) / 2 = P / 2 := by omega
      have e2 : (P - 1) % 2 = 0 := by omega
      rw [e, p1] at h1
      rw [e2, Nat.zero_mul] at h2
      omega
    · have e : (P - 1) / 2 = P / 2 - 1 := by omega
      have e2 : (P - 1) % 2 = 1 := by omega
      have := ih (S / 2) (P / 2) (T / 2) (by rw [Nat.pow_succ] at hS; omega) p1 t1 (by omega)
      rw [e] at h1
      rw [e2, Nat.one_mul] at h2
      have ts : T % 2 ≤ S % 2 := by
        rcases (by omega : S % 2 = 0 ∨ S % 2 = 1) with h | h
        · rw [h] at t2; omega
        · omega
      omega
theorem sub_le {S T : Nat} (h : T &&& S = T) : T ≤ S := by rw [← h]; exact Nat.and_le_right
theorem sub_and (P S : Nat) : (P &&& S) &&& S = P &&& S := by rw [Nat.and_assoc, Nat.and_self]
theorem sub_bits {S T i : Nat} (h : T &&& S = T) (hi : T.testBit i = true) : S.testBit i = true := by
  rw [← h, Nat.testBit_and, Bool.and_eq_true] at hi; exact hi.2
section
variable {n : Nat} {w : Nat → Int} {L : Int}
theorem tot_without {S T : Nat → Bool} {k : Nat} (hk : k < n) (hS : S k = true) (hT : ∀ i, i < n → T i = (S i && decide (i ≠ k))) : tot n w S = tot n w T + w k := by
  have e : sm n (fun i => if i = k then w k else 0) = w k := sm_one hk
  unfold tot
  rw [← e, ← sm_add]
  refine sm_congr fun i hi => ?_
  rw [hT i hi]
  by_cases ik : i = k
  · subst ik; simp [hS]
  · simp [ik]
theorem tot_congr {S T : Nat → Bool} (h : ∀ i, i < n → S i = T i) : tot n w S = tot n w T := sm_congr fun i hi => by rw [h i hi]
theorem tot_zero : tot n w (bitsOf 0) = 0 := by
  unfold tot
  rw [sm_congr (h := fun _ => 0) (fun i hi => by simp [bitsOf]), sm_zero]
theorem tot_bounds (hw : Fits n w L) (S : Nat → Bool) : 0 ≤ tot n w S ∧ tot n w S ≤ n * L := by
  constructor
  · exact sm_nonneg fun i hi => by have := hw i hi; split <;> omega
  · rw [← sm_const]; exact sm_le fun i hi => by have := hw i hi; split <;> omega
/-- what the loop over the first bins keeps -/
def PartInv (n : Nat) (w : Nat → Int) (L : Int) (s lo P v : Nat) : Prop :=
  Packs n w L (bitsOf s) v ∧ ∀ t, t &&& s = t → P < t → t.testBit lo = true → tot n w (bitsOf t) ≤ L → ∀ m, IsOpt n w L (fun i => bitsOf s i && !bitsOf t i) m → v ≤ m + 1
theorem PartInv.start (hw : Fits n w L) {s lo : Nat} : PartInv n w L s lo s n :=
  ⟨Packs.each hw, fun t ht hlt => by have := sub_le ht; omega⟩
theorem PartInv.skip {s lo P v : Nat} (hs : s < 2 ^ n) (h : PartInv n w L s lo P v) (hP : P &&& s = P) (hno : ¬ (P.testBit lo = true ∧ tot n w (bitsOf P) ≤ L)) : PartInv n w L s lo ((P - 1) &&& s) v :=
  ⟨h.1, fun t ht hlt hl hL m hm => by
    rcases Nat.lt_trichotomy P t with a | a | a
    · exact h.2 t ht a hl hL m hm
    · subst a; exact absurd ⟨hl, hL⟩ hno
    · have := sub_pred n s P t hs hP ht a; omega⟩
theorem PartInv.take {s lo P v m v' : Nat} (hs : s < 2 ^ n) (h : PartInv n w L s lo P v) (hP : P &&& s = P) (hL : tot n w (bitsOf P) ≤ L) (hm : IsOpt n w L (fun i => bitsOf s i && !bitsOf P i) m) (hv : (v' = v ∧ v ≤ m + 1) ∨ (v' = m + 1 ∧ m + 1 ≤ v)) : PartInv n w L s lo ((P - 1) &&& s) v' := by
  refine ⟨?_, fun t ht hlt hl hL' m' hm' => ?_⟩
  · rcases hv with ⟨rfl, _⟩ | ⟨rfl, _⟩
    · exact h.1
    · exact Packs.bin (T := bitsOf P) (fun i hi hb => sub_bits hP hb) hL hm.1
  · rcases Nat.lt_trichotomy P t with a | a | a
    · have := h.2 t ht a hl hL' m' hm'; omega
    · subst a; have := hm.unique hm'; omega
    · have := sub_pred n s P t hs hP ht a; omega
theorem PartInv.fin {s lo v : Nat} (hw : Fits n w L) (hs : s < 2 ^ n) (hlo : s.testBit lo = true) (h : PartInv n w L s lo 0 v) : IsOpt n w L (bitsOf s) v := by
  have hln := bit_lt hs hlo
  refine ⟨h.1, fun m' hp => ?_⟩
  have h1 := hp.pos hln hlo
  obtain ⟨m, rfl⟩ : ∃ m, m' = m + 1 := ⟨m' - 1, by omega⟩
  obtain ⟨T, hT, hTl, hTL, hTp⟩ := Packs.first hln hlo hp
  have hb : ∀ i, i < n → bitsOf (numT T n) i = T i := fun i hi => by rw [bitsOf, numT_bit]; simp [hi]
  have hsub : numT T n &&& s = numT T n := Nat.eq_of_testBit_eq fun i => by
    rw [Nat.testBit_and, numT_bit]
    by_cases hi : i < n
    · cases hc : T i with
      | false => simp
      | true =>
        have hsi : s.testBit i = true := hT i hi hc
        rw [hsi]; simp
    · simp [hi]
  obtain ⟨m2, hm2⟩ := opt_exists hw (fun i => bitsOf s i && !bitsOf (numT T n) i)
  have hle : m2 ≤ m := hm2.2 m (hTp.congr fun i hi => by rw [hb i hi]; rfl)
  have hl2 : (numT T n).testBit lo = true := by rw [numT_bit]; simp [hln, hTl]
  have h0 : 0 < numT T n := by
    rcases Nat.eq_zero_or_pos (numT T n) with e | e
    · rw [e] at hl2; simp at hl2
    · exact e
  have := h.2 _ hsub h0 hl2 (by rw [tot_congr hb]; exact hTL) m2 hm2
  omega
end
end Go.Proofs.YtblbfgoifaddiaaDoor
