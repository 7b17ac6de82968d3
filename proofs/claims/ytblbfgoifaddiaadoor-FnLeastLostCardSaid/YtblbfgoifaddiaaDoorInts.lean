/- Plain integer mathematics of the furnace's heat: no program in sight. -/
import Derived.Below
namespace Go.Proofs.YtblbfgoifaddiaaDoor
set_option linter.unusedVariables false

/-- 'n' lies in 'l..h'. A plain definition: the walk must not take it apart. -/
def inB (n l h : Int) : Bool := decide (l ≤ n) && decide (n ≤ h)
theorem inB_true {n l h : Int} (h1 : l ≤ n) (h2 : n ≤ h) : inB n l h = true := by simp [inB, h1, h2]
theorem inB_iff {n l h : Int} : inB n l h = true ↔ l ≤ n ∧ n ≤ h := by simp [inB]
theorem inB_false {n l h : Int} (h1 : ¬ (l ≤ n ∧ n ≤ h)) : inB n l h = false := by
  cases h2 : inB n l h with
  | false => rfl
  | true => exact absurd (inB_iff.1 h2) h1

/-- one minute, for valid arguments -/
def step (f p h : Int) : Int := h + (f - h + p - 1) / p

theorem div_up_bounds (d p : Int) (hd : 0 ≤ d) (hp : 1 ≤ p) : 0 ≤ (d + p - 1) / p ∧ (d + p - 1) / p ≤ d := by
  constructor
  · exact Int.ediv_nonneg (by omega) (by omega)
  · rcases Int.lt_or_eq_of_le hd with h | h
    · have h1 : (d + p - 1) / p < d + 1 := by
        apply Int.ediv_lt_of_lt_mul (by omega)
        have : 1 * p ≤ d * p := Int.mul_le_mul_of_nonneg_right (by omega) (by omega)
        have h2 : d * 1 ≤ d * p := Int.mul_le_mul_of_nonneg_left hp (by omega)
        have h3 : (d + 1) * p = d * p + p := by rw [Int.add_mul, Int.one_mul]
        rcases Int.lt_or_eq_of_le hp with h4 | h4
        · omega
        · subst h4; omega
      omega
    · subst h
      have : (0 + p - 1) / p = 0 := Int.ediv_eq_zero_of_lt (by omega) (by omega)
      omega

theorem div_up_pos (d p : Int) (hd : 1 ≤ d) (hp : 1 ≤ p) : 1 ≤ (d + p - 1) / p := by
  rw [Int.le_ediv_iff_mul_le (by omega)]; omega

theorem step_bounds {f p h : Int} (h0 : 0 ≤ h) (h1 : h ≤ f) (hp : 1 ≤ p) : h ≤ step f p h ∧ step f p h ≤ f := by
  have := div_up_bounds (f - h) p (by omega) hp
  unfold step; omega
theorem step_gt {f p h : Int} (h1 : h < f) (hp : 1 ≤ p) : h < step f p h := by
  have := div_up_pos (f - h) p (by omega) hp
  unfold step; omega

/-- the heat behind so many minutes -/
def heatIt (f p : Int) : Nat → Int → Int
  | 0, h => h
  | n + 1, h => heatIt f p n (step f p h)

theorem heatIt_succ (f p : Int) (n : Nat) (h : Int) : heatIt f p (n + 1) h = step f p (heatIt f p n h) := by
  induction n generalizing h with
  | zero => rfl
  | succ n ih => rw [heatIt, ih]; rfl

theorem heatIt_bounds {f p h : Int} (n : Nat) (h0 : 0 ≤ h) (h1 : h ≤ f) (hp : 1 ≤ p) : h ≤ heatIt f p n h ∧ heatIt f p n h ≤ f := by
  induction n with
  | zero => exact ⟨Int.le_refl _, h1⟩
  | succ n ih =>
    rw [heatIt_succ]
    have := step_bounds (f := f) (p := p) (h := heatIt f p n h) (by omega) ih.2 hp
    omega

/-- valid arguments of 'HeatStep' -/
def hsOk (h f p : Int) : Bool := inB f 0 1500 && (inB h 0 f && inB p 1 99)
theorem hsOk_iff {h f p : Int} : hsOk h f p = true ↔ 0 ≤ f ∧ f ≤ 1500 ∧ 0 ≤ h ∧ h ≤ f ∧ 1 ≤ p ∧ p ≤ 99 := by
  simp [hsOk, inB_iff, and_assoc]

def heatStep (h f p : Int) : Int := if hsOk h f p then step f p h else -1
theorem heatStep_ok {h f p : Int} (hv : hsOk h f p = true) : heatStep h f p = step f p h := by simp [heatStep, hv]
theorem heatStep_no {h f p : Int} (hv : hsOk h f p = false) : heatStep h f p = -1 := by simp [heatStep, hv]

theorem heatStep_neg {h f p : Int} (hv : hsOk h f p = false) : heatStep h f p < 0 := by rw [heatStep_no hv]; decide
theorem heatStep_nonneg {h f p : Int} (hv : hsOk h f p = true) : 0 ≤ heatStep h f p := by
  rw [heatStep_ok hv]
  obtain ⟨_, _, h0, h1, hp, _⟩ := hsOk_iff.1 hv
  have := step_bounds (f := f) (p := p) (h := h) h0 h1 hp
  omega
theorem hsOk_it {h f p : Int} (hv : hsOk h f p = true) (n : Nat) : hsOk (heatIt f p n h) f p = true := by
  obtain ⟨a, b, h0, h1, hp, c⟩ := hsOk_iff.1 hv
  have := heatIt_bounds (f := f) (p := p) (h := h) n h0 h1 hp
  exact hsOk_iff.2 ⟨a, b, by omega, this.2, hp, c⟩
theorem heatStep_it {h f p : Int} (hv : hsOk h f p = true) (n : Nat) : heatStep (heatIt f p n h) f p = heatIt f p (n + 1) h := by
  rw [heatStep_ok (hsOk_it hv n), heatIt_succ]
def heatAfter (h f p n : Int) : Int := if hsOk h f p && inB n 0 999 then heatIt f p n.toNat h else -1

/-- so many minutes till it is hot enough, as long as the fuel lasts -/
def cnt (f p w : Int) : Nat → Int → Int
  | 0, _ => 0
  | k + 1, h => if h < w then 1 + cnt f p w k (step f p h) else 0

theorem cnt_done {f p w h : Int} (k : Nat) (hw : w ≤ h) : cnt f p w k h = 0 := by
  cases k with
  | zero => rfl
  | succ k => simp [cnt, show ¬ h < w by omega]

theorem cnt_fuel {f p w : Int} (hp : 1 ≤ p) (hwf : w ≤ f) : ∀ (k k' : Nat) (h : Int), (w - h).toNat ≤ k → (w - h).toNat ≤ k' → cnt f p w k h = cnt f p w k' h := by
  intro k
  induction k with
  | zero => intro k' h hk hk'; rw [cnt_done _ (by omega), cnt_done _ (by omega)]
  | succ k ih =>
    intro k' h hk hk'
    rcases Int.lt_or_le h w with hlt | hge
    · obtain ⟨m, rfl⟩ : ∃ m, k' = m + 1 := ⟨k' - 1, by omega⟩
      have hg := step_gt (f := f) (p := p) (h := h) (by omega) hp
      rw [cnt, cnt, if_pos hlt, if_pos hlt, ih m _ (by omega) (by omega)]
    · rw [cnt_done _ hge, cnt_done _ hge]

/-- after how many minutes it is hot enough -/
def mins (f p w h : Int) : Int := cnt f p w (w - h).toNat h
theorem mins_done {f p w h : Int} (hw : w ≤ h) : mins f p w h = 0 := cnt_done _ hw
theorem mins_step {f p w h : Int} (hp : 1 ≤ p) (hwf : w ≤ f) (hlt : h < w) : mins f p w h = 1 + mins f p w (step f p h) := by
  unfold mins
  have hg := step_gt (f := f) (p := p) (h := h) (by omega) hp
  obtain ⟨m, hm⟩ : ∃ m, (w - h).toNat = m + 1 := ⟨(w - h).toNat - 1, by omega⟩
  rw [hm, cnt, if_pos hlt, cnt_fuel hp hwf m _ _ (by omega) (Nat.le_refl _)]
theorem cnt_bounds {f p w : Int} (k : Nat) (h : Int) : 0 ≤ cnt f p w k h ∧ cnt f p w k h ≤ k := by
  induction k generalizing h with
  | zero => simp [cnt]
  | succ k ih =>
    rw [cnt]
    split
    · have := ih (step f p h); omega
    · omega
theorem mins_bounds {f p w h : Int} (h0 : 0 ≤ h) (hw : w ≤ 1500) : 0 ≤ mins f p w h ∧ mins f p w h ≤ 1500 := by
  have := cnt_bounds (f := f) (p := p) (w := w) (w - h).toNat h
  unfold mins; omega

def heatMinutes (h f p w : Int) : Int := if hsOk h f p && inB w 0 f then mins f p w h else -1

/-- 'HeatLeast': from a heat of the furnace on, upward, so many tries -/
def search (h p w n : Int) : Nat → Int → Int
  | 0, _ => -1
  | k + 1, f => if w ≤ heatAfter h f p n then f else search h p w n k (f + 1)
def hlOk (h p w n : Int) : Bool := inB w 0 1500 && (inB h 0 w && (inB p 1 99 && inB n 0 99))
def heatLeast (h p w n : Int) : Int := if hlOk h p w n then search h p w n (1501 - w).toNat w else -1

theorem step_mono_h {f p h h' : Int} (hh : h ≤ h') (hf : h' ≤ f) (hp : 1 ≤ p) : step f p h ≤ step f p h' := by
  unfold step
  -- (f - h + p - 1) = (f - h' + p - 1) + (h' - h), and (a + b) / p ≤ a / p + b for b ≥ 0
  have hb : (f - h + p - 1) / p < (f - h' + p - 1) / p + (h' - h) + 1 := by
    apply Int.ediv_lt_of_lt_mul (by omega)
    have h1 : f - h' + p - 1 < ((f - h' + p - 1) / p + 1) * p := Int.lt_ediv_add_one_mul_self _ (by omega)
    have h2 : (h' - h) * 1 ≤ (h' - h) * p := Int.mul_le_mul_of_nonneg_left hp (by omega)
    have h3 : ((f - h' + p - 1) / p + (h' - h) + 1) * p = ((f - h' + p - 1) / p + 1) * p + (h' - h) * p := by
      rw [← Int.add_mul]; congr 1; omega
    omega
  omega
theorem step_mono_f {f f' p h : Int} (hf : f ≤ f') (hp : 1 ≤ p) : step f p h ≤ step f' p h := by
  unfold step
  have := Int.ediv_le_ediv (a := f - h + p - 1) (b := f' - h + p - 1) (c := p) (by omega) (by omega)
  omega
theorem heatIt_mono {f f' p : Int} (hf : f ≤ f') (hp : 1 ≤ p) : ∀ (n : Nat) (h h' : Int), 0 ≤ h → h ≤ f → h ≤ h' → h' ≤ f' → heatIt f p n h ≤ heatIt f' p n h' := by
  intro n
  induction n with
  | zero => intro h h' _ _ hh _; exact hh
  | succ n ih =>
    intro h h' h0 h1 hh h2
    have b1 := step_bounds (f := f) (p := p) (h := h) h0 h1 hp
    have b2 := step_bounds (f := f') (p := p) (h := h') (by omega) h2 hp
    refine ih _ _ (by omega) b1.2 ?_ b2.2
    exact Int.le_trans (step_mono_f hf hp) (step_mono_h hh h2 hp)
theorem heatAfter_mono {h f f' p n : Int} (h0 : 0 ≤ h) (hf0 : h ≤ f) (hf : f ≤ f') (hf' : f' ≤ 1500) (hp : 1 ≤ p) (hp' : p ≤ 99) (hn : 0 ≤ n) (hn' : n ≤ 999) : heatAfter h f p n ≤ heatAfter h f' p n := by
  unfold heatAfter
  rw [if_pos (by simp only [Bool.and_eq_true, hsOk_iff, inB_iff]; omega), if_pos (by simp only [Bool.and_eq_true, hsOk_iff, inB_iff]; omega)]
  exact heatIt_mono hf hp _ _ _ h0 hf0 (Int.le_refl _) (by omega)

/-- what the two ways to search give alike: the least heat at which it is enough -/
theorem search_is {h p w n : Int} : ∀ (k : Nat) (f g : Int), f ≤ g → g < f + k → (∀ x, f ≤ x → x < g → heatAfter h x p n < w) → w ≤ heatAfter h g p n → search h p w n k f = g := by
  intro k
  induction k with
  | zero => intro f g h1 h2; omega
  | succ k ih =>
    intro f g h1 h2 h3 h4
    rw [search]
    rcases Int.lt_or_eq_of_le h1 with hlt | rfl
    · have := h3 f (Int.le_refl _) hlt
      rw [if_neg (by omega)]
      exact ih (f + 1) g (by omega) (by omega) (fun x a b => h3 x (by omega) b) h4
    · rw [if_pos h4]
theorem search_no {h p w n : Int} : ∀ (k : Nat) (f : Int), (∀ x, f ≤ x → x < f + k → heatAfter h x p n < w) → search h p w n k f = -1 := by
  intro k
  induction k with
  | zero => intro f _; rfl
  | succ k ih =>
    intro f h3
    have := h3 f (Int.le_refl _) (by omega)
    rw [search, if_neg (by omega)]
    exact ih (f + 1) (fun x a b => h3 x (by omega) (by omega))

/-- what the two bounds of the search by halves say -/
def LoB (h p w n lo : Int) : Prop := ∀ x, w ≤ x → x < lo → heatAfter h x p n < w
def HiB (h p w n hi : Int) : Prop := ∀ x, hi ≤ x → x ≤ 1500 → w ≤ heatAfter h x p n
theorem LoB.start (h p w n : Int) : LoB h p w n w := fun x a b => by omega
theorem HiB.start (h p w n : Int) : HiB h p w n 1501 := fun x a b => by omega
theorem hlOk_iff {h p w n : Int} : hlOk h p w n = true ↔ 0 ≤ w ∧ w ≤ 1500 ∧ 0 ≤ h ∧ h ≤ w ∧ 1 ≤ p ∧ p ≤ 99 ∧ 0 ≤ n ∧ n ≤ 99 := by
  simp [hlOk, inB_iff, and_assoc]
theorem LoB.up {h p w n m : Int} (hv : hlOk h p w n = true) (hm : m ≤ 1500) (hlt : heatAfter h m p n < w) : LoB h p w n (m + 1) := fun x a b => by
  obtain ⟨v1, v2, v3, v4, v5, v6, v7, v8⟩ := hlOk_iff.1 hv
  have := heatAfter_mono (h := h) (f := x) (f' := m) (p := p) (n := n) v3 (by omega) (by omega) hm v5 v6 v7 (by omega)
  omega
theorem HiB.down {h p w n m : Int} (hv : hlOk h p w n = true) (hm : w ≤ m) (hge : w ≤ heatAfter h m p n) : HiB h p w n m := fun x a b => by
  obtain ⟨v1, v2, v3, v4, v5, v6, v7, v8⟩ := hlOk_iff.1 hv
  have := heatAfter_mono (h := h) (f := m) (f' := x) (p := p) (n := n) v3 (by omega) (by omega) b v5 v6 v7 (by omega)
  omega
theorem heatLeast_yes {h p w n x : Int} (hv : hlOk h p w n = true) (h1 : w ≤ x) (h2 : x ≤ 1500) (hl : LoB h p w n x) (hh : HiB h p w n x) : heatLeast h p w n = x := by
  rw [heatLeast, if_pos hv]
  exact search_is _ _ _ h1 (by omega) hl (hh x (Int.le_refl _) h2)
theorem heatLeast_none {h p w n x : Int} (hv : hlOk h p w n = true) (h2 : 1500 < x) (hl : LoB h p w n x) : heatLeast h p w n = -1 := by
  rw [heatLeast, if_pos hv]
  exact search_no _ _ fun y a b => hl y a (by obtain ⟨v1, v2, _⟩ := hlOk_iff.1 hv; omega)
theorem search_hit {h p w n x : Int} (hx : x ≤ 1500) (hge : w ≤ heatAfter h x p n) : search h p w n (1501 - x).toNat x = x := by
  obtain ⟨m, hm⟩ : ∃ m, (1501 - x).toNat = m + 1 := ⟨(1501 - x).toNat - 1, by omega⟩
  rw [hm, search, if_pos hge]
theorem search_miss {h p w n x : Int} (hx : x ≤ 1500) (hlt : heatAfter h x p n < w) : search h p w n (1501 - x).toNat x = search h p w n (1501 - (x + 1)).toNat (x + 1) := by
  obtain ⟨m, hm⟩ : ∃ m, (1501 - x).toNat = m + 1 := ⟨(1501 - x).toNat - 1, by omega⟩
  rw [hm, search, if_neg (by omega), show (1501 - (x + 1)).toNat = m by omega]
theorem search_end {h p w n x : Int} (hx : 1500 < x) : search h p w n (1501 - x).toNat x = -1 := by
  rw [show (1501 - x).toNat = 0 by omega]; rfl
end Go.Proofs.YtblbfgoifaddiaaDoor
