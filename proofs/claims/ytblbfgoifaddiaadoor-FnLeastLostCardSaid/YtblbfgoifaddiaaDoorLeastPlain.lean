/- Plain law: the least number of strands, and what the two functions' tables hold on their way to it. -/
import Derived.Test.YtblbfgoifaddiaaDoorBitSets
import Derived.Test.YtblbfgoifaddiaaDoorStrPlain
namespace Go.Proofs.YtblbfgoifaddiaaDoor
set_option linter.unusedVariables false
def wF (ws : List Int) (i : Nat) : Int := ws.getD i 0
theorem wF_get {ws : List Int} {i : Nat} {x : Int} (h : ws[i]? = some x) : wF ws i = x := by simp [wF, List.getD_eq_getElem?_getD, h]
theorem wants_fits {ws : List Int} {long : Int} (h : wantsOk ws long = true) : Fits ws.length (wF ws) long := fun i hi => by
  have hx : ws[i]? = some ws[i] := List.getElem?_eq_getElem hi
  rw [wF_get hx]; exact wantsOk_get h hx
/-- v is the least number of strands; -1 for wants that are not valid -/
def SLeast (ws : List Int) (long : Int) (v : Int) : Prop := (wantsOk ws long = false ∧ v = -1) ∨ (wantsOk ws long = true ∧ ∃ m : Nat, v = (m : Int) ∧ IsOpt ws.length (wF ws) long (fun _ => true) m)
theorem sleast_exists (ws : List Int) (long : Int) : ∃ v, SLeast ws long v := by
  cases h : wantsOk ws long
  · exact ⟨-1, .inl ⟨h, rfl⟩⟩
  · obtain ⟨m, hm⟩ := opt_exists (wants_fits h) (fun _ => true)
    exact ⟨m, .inr ⟨h, m, rfl, hm⟩⟩
theorem SLeast.no {ws : List Int} {long v : Int} (h : SLeast ws long v) (hw : wantsOk ws long = false) : v = -1 := by
  rcases h with ⟨_, h⟩ | ⟨h, _⟩
  · exact h
  · rw [hw] at h; cases h
theorem SLeast.yes {ws : List Int} {long v : Int} {m s : Nat} (h : SLeast ws long v) (hw : wantsOk ws long = true) (hs : s + 1 = 2 ^ ws.length) (hm : IsOpt ws.length (wF ws) long (bitsOf s) m) : v = m := by
  rcases h with ⟨h, _⟩ | ⟨_, m', rfl, h⟩
  · rw [hw] at h; cases h
  · have : IsOpt ws.length (wF ws) long (fun _ => true) m := hm.congr fun i hi => by
      have e : s = 2 ^ ws.length - (0 + 1) := by omega
      rw [bitsOf, e, Nat.testBit_two_pow_sub_succ (Nat.two_pow_pos _)]
      simp [hi]
    rw [h.unique this]
/-- the tables behind the sets before s -/
def SumsTo (ws us : List Int) (s : Nat) : Prop := ∀ j, j < s → us[j]? = some (tot ws.length (wF ws) (bitsOf j))
def OptsTo (ws : List Int) (long : Int) (ms : List Int) (s : Nat) : Prop := ∀ j, j < s → ∃ m : Nat, ms[j]? = some (m : Int) ∧ IsOpt ws.length (wF ws) long (bitsOf j) m
def LexTo (ws : List Int) (long : Int) (ms us : List Int) (s : Nat) : Prop := ∀ j, j < s → ∃ (m : Nat) (u : Int), ms[j]? = some (m : Int) ∧ us[j]? = some u ∧ LexOpt ws.length (wF ws) long (bitsOf j) m u
section
variable {ws us ms : List Int} {long : Int} {s : Nat}
theorem SumsTo.set {v : Int} (h : SumsTo ws us s) (hs : s < us.length) (hv : v = tot ws.length (wF ws) (bitsOf s)) : SumsTo ws (us.set s v) (s + 1) := fun j hj => by
  by_cases e : j = s
  · subst e; rw [List.getElem?_set_self hs, hv]
  · rw [List.getElem?_set_ne (by omega)]; exact h j (by omega)
theorem OptsTo.set {m : Nat} (h : OptsTo ws long ms s) (hs : s < ms.length) (hm : IsOpt ws.length (wF ws) long (bitsOf s) m) : OptsTo ws long (ms.set s (m : Int)) (s + 1) := fun j hj => by
  by_cases e : j = s
  · subst e; exact ⟨m, List.getElem?_set_self hs, hm⟩
  · rw [List.getElem?_set_ne (by omega)]; exact h j (by omega)
theorem OptsTo.keep {v : Int} (h : OptsTo ws long ms s) : OptsTo ws long (ms.set s v) s := fun j hj => by
  rw [List.getElem?_set_ne (by omega)]; exact h j hj
theorem sums_step {k : Nat} {x : Int} (hs : s < 2 ^ ws.length) (hn : ws.length ≤ 8) (h0 : 0 < s) (hk : k = Lib.ctz 64 s) (hx : ws[k]? = some x) : tot ws.length (wF ws) (bitsOf s) = tot ws.length (wF ws) (bitsOf (s &&& (s - 1))) + x := by
  have h256 : s < 256 := Nat.lt_of_lt_of_le hs (Nat.pow_le_pow_right (n := 2) (by decide) hn)
  obtain ⟨a, b, c, _⟩ := low_bit s h256 h0
  rw [← hk] at a b c
  obtain ⟨_, d⟩ := sub_bit s h256 k a b
  rw [tot_without (S := bitsOf s) (T := bitsOf (s &&& (s - 1))) (bit_lt hs b) b (fun i hi => by rw [bitsOf, bitsOf, c]; exact d i (by omega)), wF_get hx]
theorem LexTo.zero (ws : List Int) (long : Int) : LexTo ws long [0] [0] 1 := fun j hj => by
  obtain rfl : j = 0 := by omega
  exact ⟨0, 0, rfl, rfl, LexOpt.empty fun i hi => by simp [bitsOf]⟩
theorem LexTo.snoc {m : Nat} {u : Int} (h : LexTo ws long ms us s) (h1 : ms.length = s) (h2 : us.length = s) (ho : LexOpt ws.length (wF ws) long (bitsOf s) m u) : LexTo ws long (ms ++ [(m : Int)]) (us ++ [u]) (s + 1) := fun j hj => by
  by_cases e : j = s
  · subst e
    refine ⟨m, u, ?_, ?_, ho⟩
    · rw [List.getElem?_append_right (by omega), h1, Nat.sub_self]; rfl
    · rw [List.getElem?_append_right (by omega), h2, Nat.sub_self]; rfl
  · obtain ⟨m', u', a, b, c⟩ := h j (by omega)
    exact ⟨m', u', by rw [List.getElem?_append_left (by omega)]; exact a, by rw [List.getElem?_append_left (by omega)]; exact b, c⟩
end
end Go.Proofs.YtblbfgoifaddiaaDoor
