/- Plain law: the best cuts, slab by slab from the greatest length on. -/
import Derived.Test.YtcegmlogjbnoeaaDoorTable
namespace Go.Proofs.YtcegmlogjbnoeaaDoor
set_option linter.unusedVariables false
/-- another slab of length l can be cut off and the table says v all the same -/
def cbTest (T : List Int) (v l left : Int) : Bool := decide (l ≤ left) && (T[(left - l).toNat]? == some v)
theorem cbTest_iff {T : List Int} {v l left : Int} : cbTest T v l left = true ↔ l ≤ left ∧ T[(left - l).toNat]? = some v := by simp [cbTest]
def cbCnt (T : List Int) (v l : Int) : Nat → Int → Int
  | 0, _ => 0
  | f + 1, left => if cbTest T v l left then 1 + cbCnt T v l f (left - l) else 0
def cbRst (T : List Int) (v l : Int) : Nat → Int → Int
  | 0, left => left
  | f + 1, left => if cbTest T v l left then cbRst T v l f (left - l) else left
theorem cb_fuel {T : List Int} {v l : Int} (h1 : 1 ≤ l) : ∀ (f f' : Nat) (left : Int), left.toNat ≤ f → left.toNat ≤ f' → cbCnt T v l f left = cbCnt T v l f' left ∧ cbRst T v l f left = cbRst T v l f' left := by
  intro f
  induction f with
  | zero =>
    intro f' left h h'
    cases f' with
    | zero => exact ⟨rfl, rfl⟩
    | succ f' =>
      have : cbTest T v l left = false := by
        cases hc : cbTest T v l left with
        | false => rfl
        | true => have := (cbTest_iff.1 hc).1; omega
      simp [cbCnt, cbRst, this]
  | succ f ih =>
    intro f' left h h'
    cases hc : cbTest T v l left with
    | false =>
      cases f' with
      | zero => simp [cbCnt, cbRst, hc]
      | succ f' => simp [cbCnt, cbRst, hc]
    | true =>
      have hl := (cbTest_iff.1 hc).1
      obtain ⟨g, rfl⟩ : ∃ g, f' = g + 1 := ⟨f' - 1, by omega⟩
      have := ih g (left - l) (by omega) (by omega)
      simp [cbCnt, cbRst, hc, this.1, this.2]
def cbN (T : List Int) (v l left : Int) : Int := cbCnt T v l left.toNat left
def cbR (T : List Int) (v l left : Int) : Int := cbRst T v l left.toNat left
theorem cb_yes {T : List Int} {v l left : Int} (h1 : 1 ≤ l) (h : cbTest T v l left = true) : cbN T v l left = 1 + cbN T v l (left - l) ∧ cbR T v l left = cbR T v l (left - l) := by
  have hl := (cbTest_iff.1 h).1
  obtain ⟨g, hg⟩ : ∃ g, left.toNat = g + 1 := ⟨left.toNat - 1, by omega⟩
  have := cb_fuel (T := T) (v := v) h1 g (left - l).toNat (left - l) (by omega) (Nat.le_refl _)
  unfold cbN cbR
  rw [hg]
  simp [cbCnt, cbRst, h, this.1, this.2]
theorem cb_no {T : List Int} {v l left : Int} (h : cbTest T v l left = false) : cbN T v l left = 0 ∧ cbR T v l left = left := by
  unfold cbN cbR
  cases left.toNat <;> simp [cbCnt, cbRst, h]
theorem cb_facts {T : List Int} {v l : Int} (h1 : 1 ≤ l) : ∀ (f : Nat) (left : Int), 0 ≤ left → left.toNat ≤ f →
    0 ≤ cbN T v l left ∧ 0 ≤ cbR T v l left ∧ cbR T v l left ≤ left ∧ cbN T v l left ≤ left - cbR T v l left ∧ left - cbN T v l left * l = cbR T v l left ∧ cbTest T v l (cbR T v l left) = false := by
  intro f
  induction f with
  | zero =>
    intro left h0 h
    cases hc : cbTest T v l left with
    | true => have := (cbTest_iff.1 hc).1; omega
    | false =>
      obtain ⟨e1, e2⟩ := cb_no hc
      rw [e1, e2]
      exact ⟨by omega, by omega, by omega, by omega, by omega, hc⟩
  | succ f ih =>
    intro left h0 h
    cases hc : cbTest T v l left with
    | true =>
      have hl := (cbTest_iff.1 hc).1
      obtain ⟨e1, e2⟩ := cb_yes h1 hc
      obtain ⟨a, b, c, d, e, g⟩ := ih (left - l) (by omega) (by omega)
      rw [e1, e2]
      refine ⟨by omega, b, by omega, by omega, ?_, g⟩
      rw [Int.add_mul, Int.one_mul]; omega
    | false =>
      obtain ⟨e1, e2⟩ := cb_no hc
      rw [e1, e2]
      exact ⟨by omega, by omega, by omega, by omega, by omega, hc⟩
/-- all lengths, from the last one of the list on: how many of each, and what is left -/
def cbAll (T : List Int) (v : Int) : List Int → Int → List Int × Int
  | [], left => ([], left)
  | l :: r, left => (cbN T v l (cbAll T v r left).2 :: (cbAll T v r left).1, cbR T v l (cbAll T v r left).2)
theorem cbAll_length (T : List Int) (v left : Int) (ls : List Int) : (cbAll T v ls left).1.length = ls.length := by
  induction ls with
  | nil => rfl
  | cons l r ih => simp [cbAll, ih]
theorem cbAll_left {T : List Int} {v left : Int} {ls : List Int} (h1 : ∀ l ∈ ls, 1 ≤ l) (h0 : 0 ≤ left) : 0 ≤ (cbAll T v ls left).2 ∧ (cbAll T v ls left).2 ≤ left := by
  induction ls with
  | nil => exact ⟨h0, Int.le_refl _⟩
  | cons l r ih =>
    obtain ⟨a, b⟩ := ih (fun x hx => h1 x (List.mem_cons_of_mem _ hx))
    obtain ⟨_, c, d, _⟩ := cb_facts (T := T) (v := v) (h1 l List.mem_cons_self) _ _ a (Nat.le_refl _)
    exact ⟨c, by show cbR T v l (cbAll T v r left).2 ≤ left; omega⟩
theorem cbAll_drop {T : List Int} {v left : Int} {ls : List Int} {k : Nat} {l : Int} (h : ls[k]? = some l) :
    cbAll T v (ls.drop k) left = (cbN T v l (cbAll T v (ls.drop (k + 1)) left).2 :: (cbAll T v (ls.drop (k + 1)) left).1, cbR T v l (cbAll T v (ls.drop (k + 1)) left).2) := by
  rw [drop_get h]; rfl
def cutBest (long : Int) (ls : List Int) : List Int := if inB long 0 60 && lengthsOk ls then (cbAll (table ls (long.toNat + 1)) (cutLeast long ls) ls long).1 else []
theorem cutBest_1 {long : Int} {ls : List Int} (h : inB long 0 60 = false) : cutBest long ls = [] := by simp [cutBest, h]
theorem cutBest_2 {long : Int} {ls : List Int} (h : lengthsOk ls = false) : cutBest long ls = [] := by simp [cutBest, h]
theorem cutBest_3 {N : Nat} {ls : List Int} (h : inB (N : Int) 0 60 = true) (h2 : lengthsOk ls = true) : cutBest N ls = (cbAll (table ls (N + 1)) (cutLeast N ls) ls N).1 := by simp [cutBest, h, h2]
theorem cutBest_len (long : Int) (ls : List Int) : (cutBest long ls).length ≤ 1000 := by
  unfold cutBest
  split
  · rename_i h
    simp only [Bool.and_eq_true] at h
    rw [cbAll_length]; have := (lengthsOk_len h.2).2; omega
  · simp
/-- what the slice of numbers holds while those from place k on are done -/
def CbRow (ls : List Int) (T : List Int) (v long : Int) (k : Nat) (ms : List Int) : Prop := ms = List.replicate k 0 ++ (cbAll T v (ls.drop k) long).1
theorem CbRow.start (ls : List Int) (T : List Int) (v long : Int) {n : Nat} (h : ls.length = n) : CbRow ls T v long n (List.replicate n 0) := by
  unfold CbRow
  rw [List.drop_of_length_le (by omega)]; simp [cbAll]
theorem CbRow.length {ls T ms : List Int} {v long : Int} {k : Nat} (h : CbRow ls T v long k ms) (hk : k ≤ ls.length) : ms.length = ls.length := by
  rw [h]; simp [cbAll_length]; omega
theorem CbRow.zero {ls T ms : List Int} {v long : Int} {k : Nat} (h : CbRow ls T v long (k + 1) ms) : ms.set k 0 = ms := by
  rw [h, List.replicate_succ', List.append_assoc, List.set_append_right _ _ (by simp)]
  simp
theorem CbRow.next {ls T ms : List Int} {v long l : Int} {k : Nat} (h : CbRow ls T v long (k + 1) ms) (hl : ls[k]? = some l) : CbRow ls T v long k (ms.set k (cbN T v l (cbAll T v (ls.drop (k + 1)) long).2)) := by
  unfold CbRow at h ⊢
  rw [cbAll_drop hl, h, List.replicate_succ', List.append_assoc, List.set_append_right _ _ (by simp)]
  simp
theorem CbRow.fin {ls T ms : List Int} {v long : Int} (h : CbRow ls T v long 0 ms) : ms = (cbAll T v ls long).1 := by simpa [CbRow] using h
end Go.Proofs.YtcegmlogjbnoeaaDoor
