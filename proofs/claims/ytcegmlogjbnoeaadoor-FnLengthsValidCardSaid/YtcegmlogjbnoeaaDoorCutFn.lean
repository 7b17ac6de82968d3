/- Plain law: what the laws on cuts of one strand say beside 'the same as the reference'. -/
import Derived.Test.YtcegmlogjbnoeaaDoorBestPlain
namespace Go.Proofs.YtcegmlogjbnoeaaDoor
set_option linter.unusedVariables false
/-- the least waste of length n -/
def tb (ls : List Int) (n : Nat) : Int := bestOf ls (table ls n) n ls.length
section
variable {ls : List Int}
theorem table_get {m n : Nat} (h : n < m) : (table ls m)[n]? = some (tb ls n) := by
  induction m with
  | zero => omega
  | succ m ih =>
    rw [table]
    by_cases e : n = m
    · subst e
      rw [List.getElem?_append_right (by rw [table_length]; exact Nat.le_refl _), table_length, Nat.sub_self]; rfl
    · rw [List.getElem?_append_left (by rw [table_length]; omega)]; exact ih (by omega)
theorem cutLeast_tb {N : Nat} (h : inB (N : Int) 0 60 = true) (h2 : lengthsOk ls = true) : cutLeast N ls = tb ls N := cutLeast_3 h h2 (table_get (by omega))
theorem cutLeast_valid {long : Int} (h : 0 ≤ cutLeast long ls) : inB long 0 60 = true ∧ lengthsOk ls = true := by
  cases h1 : inB long 0 60
  · rw [cutLeast_1 h1] at h; omega
  cases h2 : lengthsOk ls
  · rw [cutLeast_2 h2] at h; omega
  · exact ⟨rfl, rfl⟩
theorem best_facts (h1 : ∀ (k : Nat) (l : Int), ls[k]? = some l → 1 ≤ l) (n : Nat) : ∀ k, k ≤ ls.length →
    bestOf ls (table ls n) n k ≤ n ∧ (∀ (j : Nat) (l : Int), j < k → ls[j]? = some l → l ≤ n → bestOf ls (table ls n) n k ≤ tb ls (n - l.toNat)) ∧
    (bestOf ls (table ls n) n k = n ∨ ∃ (j : Nat) (l : Int), ls[j]? = some l ∧ l ≤ n ∧ bestOf ls (table ls n) n k = tb ls (n - l.toNat)) := by
  intro k
  induction k with
  | zero => intro _; exact ⟨by simp [bestOf], fun j l hj => by omega, .inl (by simp [bestOf])⟩
  | succ k ih =>
    intro hk
    obtain ⟨a, b, c⟩ := ih (by omega)
    obtain ⟨l, hl⟩ : ∃ l, ls[k]? = some l := ⟨_, List.getElem?_eq_getElem (by omega)⟩
    have l1 := h1 k l hl
    by_cases hle : l ≤ n
    · have e := bestOf_take (T := table ls n) (n := n) hl hle (table_get (by omega))
      refine ⟨by rw [e]; omega, fun j l' hj hl' hle' => ?_, ?_⟩
      · by_cases ej : j = k
        · subst ej
          rw [hl] at hl'; injection hl' with hl'; subst hl'
          rw [e]; omega
        · have := b j l' (by omega) hl' hle'
          rw [e]; omega
      · rw [e]
        by_cases hm : bestOf ls (table ls n) n k ≤ tb ls (n - l.toNat)
        · rw [show min (bestOf ls (table ls n) n k) (tb ls (n - l.toNat)) = bestOf ls (table ls n) n k by omega]
          exact c
        · exact .inr ⟨k, l, hl, hle, by omega⟩
    · have e := bestOf_skip (T := table ls n) (n := n) hl hle
      refine ⟨by rw [e]; exact a, fun j l' hj hl' hle' => ?_, by rw [e]; exact c⟩
      by_cases ej : j = k
      · subst ej
        rw [hl] at hl'; injection hl' with hl'; subst hl'
        exact absurd hle' hle
      · rw [e]; exact b j l' (by omega) hl' hle'
theorem ls_pos (h : lengthsOk ls = true) : ∀ (k : Nat) (l : Int), ls[k]? = some l → 1 ≤ l := fun k l hl => (lengthsOk_get h hl).1
theorem tb_le (h : lengthsOk ls = true) (n : Nat) : tb ls n ≤ n := (best_facts (ls_pos h) n _ (Nat.le_refl _)).1
theorem tb_nonneg (h : lengthsOk ls = true) (n : Nat) : 0 ≤ tb ls n := (bestOf_bounds (ls_pos h) n ls.length).1
theorem tb_step (h : lengthsOk ls = true) {n j : Nat} {L : Nat} (hl : ls[j]? = some (L : Int)) (hle : L ≤ n) : tb ls n ≤ tb ls (n - L) := by
  have := (best_facts (ls_pos h) n _ (Nat.le_refl _)).2.1 j L (List.getElem?_eq_some_iff.1 hl).1 hl (by omega)
  rwa [Int.toNat_natCast] at this
theorem tb_cases (h : lengthsOk ls = true) (n : Nat) : tb ls n = n ∨ ∃ (j L : Nat), ls[j]? = some (L : Int) ∧ 1 ≤ L ∧ L ≤ n ∧ tb ls n = tb ls (n - L) := by
  rcases (best_facts (ls_pos h) n _ (Nat.le_refl _)).2.2 with a | ⟨j, l, hl, hle, e⟩
  · exact .inl a
  · have := ls_pos h j l hl
    obtain ⟨L, rfl⟩ : ∃ L : Nat, l = (L : Int) := ⟨l.toNat, by omega⟩
    exact .inr ⟨j, L, hl, by omega, by omega, by rwa [Int.toNat_natCast] at e⟩
theorem tb_more (h : lengthsOk ls = true) {n j L : Nat} (hl : ls[j]? = some (L : Int)) : tb ls (n + L) ≤ tb ls n := by
  have := tb_step h (n := n + L) hl (by omega)
  rwa [Nat.add_sub_cancel] at this
theorem tb_succ (h : lengthsOk ls = true) (n : Nat) : tb ls (n + 1) ≤ tb ls n + 1 := by
  induction n using Nat.strongRecOn with
  | ind n ih =>
    rcases tb_cases h n with e | ⟨j, L, hl, h1, hle, e⟩
    · have := tb_le h (n + 1); omega
    · have a := tb_step h (n := n + 1) hl (by omega)
      have b := ih (n - L) (by omega)
      rw [show n + 1 - L = n - L + 1 by omega] at a
      omega
/-- the first length is the least one -/
theorem ls_first (h : lengthsOk ls = true) {k : Nat} {l l0 : Int} (h0 : ls[0]? = some l0) (hl : ls[k]? = some l) : l0 + k ≤ l := by
  have ha : ∀ j, j < ls.length → ascAt ls j = true := by
    simp only [lengthsOk, Bool.and_eq_true] at h
    exact fun j hj => allR_at h.2 hj
  induction k generalizing l with
  | zero => rw [h0] at hl; injection hl with hl; omega
  | succ k ih =>
    have hlt := (List.getElem?_eq_some_iff.1 hl).1
    obtain ⟨a, hk⟩ : ∃ a, ls[k]? = some a := ⟨_, List.getElem?_eq_getElem (by omega)⟩
    have := ih hk
    have h2 := ha (k + 1) hlt
    rw [ascAt_succ hk hl] at h2
    have := inB_iff.1 h2; omega
theorem tb_short (h : lengthsOk ls = true) {n : Nat} {l0 : Int} (h0 : ls[0]? = some l0) (hn : (n : Int) < l0) : tb ls n = n := by
  rcases tb_cases h n with e | ⟨j, L, hl, h1, hle, e⟩
  · exact e
  · have := ls_first h h0 hl; omega
theorem tb_lt (h : lengthsOk ls = true) {l0 : Int} (h0 : ls[0]? = some l0) (n : Nat) : tb ls n < l0 := by
  have l1 := lengthsOk_get h h0
  obtain ⟨L, rfl⟩ : ∃ L : Nat, l0 = (L : Int) := ⟨l0.toNat, by omega⟩
  induction n using Nat.strongRecOn with
  | ind n ih =>
    by_cases hn : n < L
    · have := tb_le h n; omega
    · have := tb_step h (n := n) h0 (by omega)
      have := ih (n - L) (by omega)
      omega
/-! ### cuts -/
/-- the sum of all slabs -/
def cutSum : List Int → List Int → Int
  | l :: ls, m :: ms => m * l + cutSum ls ms
  | _, _ => 0
theorem cwGo_sum : ∀ (ls ms : List Int) (left : Int), ms.length = ls.length → (∀ l ∈ ls, 1 ≤ l) → 0 ≤ left →
    (0 ≤ cwGo left ls ms ↔ (∀ m ∈ ms, 0 ≤ m) ∧ cutSum ls ms ≤ left) ∧ (0 ≤ cwGo left ls ms → cwGo left ls ms = left - cutSum ls ms) ∧ (cwGo left ls ms < 0 → cwGo left ls ms = -1) := by
  intro ls
  induction ls with
  | nil =>
    intro ms left hm _ h0
    have : ms = [] := List.eq_nil_of_length_eq_zero hm
    subst this
    simp only [cwGo, cutSum]
    exact ⟨⟨fun _ => ⟨fun m hm => by simp at hm, h0⟩, fun _ => h0⟩, fun _ => by omega, fun h => by omega⟩
  | cons l ls ih =>
    intro ms left hm h1 h0
    cases ms with
    | nil => simp at hm
    | cons m ms =>
      have hl := h1 l List.mem_cons_self
      have h1' : ∀ l ∈ ls, 1 ≤ l := fun x hx => h1 x (List.mem_cons_of_mem _ hx)
      have hlen : ms.length = ls.length := by simpa using hm
      have nn : ∀ (ls ms : List Int), (∀ l ∈ ls, 1 ≤ l) → (∀ m ∈ ms, 0 ≤ m) → 0 ≤ cutSum ls ms := by
        intro ls
        induction ls with
        | nil => intro ms _ _; simp [cutSum]
        | cons l ls ih2 =>
          intro ms a b
          cases ms with
          | nil => simp [cutSum]
          | cons m ms =>
            have := ih2 ms (fun x hx => a x (List.mem_cons_of_mem _ hx)) (fun x hx => b x (List.mem_cons_of_mem _ hx))
            have := Int.mul_nonneg (b m List.mem_cons_self) (show (0 : Int) ≤ l by have := a l List.mem_cons_self; omega)
            simp only [cutSum]; omega
      by_cases hc : 0 ≤ m ∧ m * l ≤ left
      · rw [cwGo, if_pos hc]
        obtain ⟨a, b, c⟩ := ih ms (left - m * l) hlen h1' (by omega)
        simp only [cutSum]
        refine ⟨⟨fun h => ?_, fun ⟨x, y⟩ => ?_⟩, fun h => by rw [b h]; omega, c⟩
        · obtain ⟨x, y⟩ := a.1 h
          exact ⟨fun q hq => by rcases List.mem_cons.1 hq with rfl | hq; exact hc.1; exact x q hq, by omega⟩
        · exact a.2 ⟨fun q hq => x q (List.mem_cons_of_mem _ hq), by omega⟩
      · rw [cwGo, if_neg hc]
        refine ⟨⟨fun h => by omega, fun ⟨x, y⟩ => ?_⟩, fun h => by omega, fun _ => rfl⟩
        simp only [cutSum] at y
        have := nn ls ms h1' (fun q hq => x q (List.mem_cons_of_mem _ hq))
        exact absurd ⟨x m List.mem_cons_self, by omega⟩ hc
theorem lengths_pos (h : lengthsOk ls = true) : ∀ l ∈ ls, 1 ≤ l := fun l hl => by
  obtain ⟨k, hk⟩ := List.getElem?_of_mem hl
  exact (lengthsOk_get h hk).1
theorem cutWaste_valid {long : Int} {ms : List Int} (h : 0 ≤ cutWaste long ls ms) : inB long 0 60 = true ∧ lengthsOk ls = true ∧ ms.length = ls.length ∧ (∀ m ∈ ms, 0 ≤ m) ∧ cutSum ls ms ≤ long ∧ cutWaste long ls ms = long - cutSum ls ms := by
  cases h1 : inB long 0 60
  · rw [cutWaste_1 h1] at h; omega
  cases h2 : lengthsOk ls
  · rw [cutWaste_2 h2] at h; omega
  by_cases h3 : ms.length = ls.length
  · rw [cutWaste_4 h1 h2 h3] at h ⊢
    obtain ⟨a, b, c⟩ := cwGo_sum ls ms long h3 (lengths_pos h2) (inB_iff.1 h1).1
    exact ⟨rfl, rfl, h3, (a.1 h).1, (a.1 h).2, b h⟩
  · rw [cutWaste_3 h3] at h; omega
theorem cutWaste_mk {long : Int} {ms : List Int} (h1 : inB long 0 60 = true) (h2 : lengthsOk ls = true) (h3 : ms.length = ls.length) (h4 : ∀ m ∈ ms, 0 ≤ m) (h5 : cutSum ls ms ≤ long) : cutWaste long ls ms = long - cutSum ls ms := by
  rw [cutWaste_4 h1 h2 h3]
  obtain ⟨a, b, c⟩ := cwGo_sum ls ms long h3 (lengths_pos h2) (inB_iff.1 h1).1
  exact b (a.2 ⟨h4, h5⟩)
theorem cutWaste_neg {long : Int} {ms : List Int} (h : cutWaste long ls ms < 0) : cutWaste long ls ms = -1 := by
  cases h1 : inB long 0 60
  · exact cutWaste_1 h1
  cases h2 : lengthsOk ls
  · exact cutWaste_2 h2
  by_cases h3 : ms.length = ls.length
  · rw [cutWaste_4 h1 h2 h3] at h ⊢
    exact (cwGo_sum ls ms long h3 (lengths_pos h2) (inB_iff.1 h1).1).2.2 h
  · exact cutWaste_3 h3
theorem cutSum_set : ∀ (ls ms : List Int) (k : Nat) (l m : Int), ls[k]? = some l → ms[k]? = some m → cutSum ls (ms.set k (m - 1)) = cutSum ls ms - l := by
  intro ls
  induction ls with
  | nil => intro ms k l m h; simp at h
  | cons a ls ih =>
    intro ms k l m hl hm
    cases ms with
    | nil => simp at hm
    | cons b ms =>
      cases k with
      | zero =>
        simp only [List.getElem?_cons_zero, Option.some.injEq] at hl hm
        subst hl hm
        simp only [List.set_cons_zero, cutSum]
        rw [Int.sub_mul, Int.one_mul]; omega
      | succ k =>
        simp only [List.getElem?_cons_succ] at hl hm
        simp only [List.set_cons_succ, cutSum, ih ms k l m hl hm]; omega
/-- with one slab less more is wasted by its length -/
theorem cutWaste_less {long l m : Int} {ms : List Int} {k : Nat} (h : 0 ≤ cutWaste long ls ms) (hl : ls[k]? = some l) (hm : ms[k]? = some m) (hm0 : 0 < m) : cutWaste long ls (ms.set k (m - 1)) = cutWaste long ls ms + l := by
  obtain ⟨a, b, c, d, e, f⟩ := cutWaste_valid h
  have hl1 := lengthsOk_get b hl
  have es := cutSum_set ls ms k l m hl hm
  rw [f, cutWaste_mk a b (by simp [c]) (fun q hq => ?_) (by omega), es]
  · omega
  · rcases List.mem_or_eq_of_mem_set hq with hq | rfl
    · exact d q hq
    · omega
/-- no cuts waste less -/
theorem tb_cutSum (h : lengthsOk ls = true) : ∀ (r ms : List Int) (S : Nat), (∀ l ∈ r, ∃ j : Nat, ls[j]? = some l) → (∀ m ∈ ms, 0 ≤ m) → cutSum r ms ≤ S → tb ls S ≤ tb ls (S - (cutSum r ms).toNat) ∧ 0 ≤ cutSum r ms := by
  intro r
  induction r with
  | nil => intro ms S _ _ _; simp [cutSum]
  | cons l r ih =>
    intro ms S hr hm hS
    cases ms with
    | nil => simp [cutSum]
    | cons m ms =>
      obtain ⟨j, hj⟩ := hr l List.mem_cons_self
      have l1 := (lengthsOk_get h hj).1
      have m0 := hm m List.mem_cons_self
      obtain ⟨L, rfl⟩ : ∃ L : Nat, l = (L : Int) := ⟨l.toNat, by omega⟩
      obtain ⟨M, rfl⟩ : ∃ M : Nat, m = (M : Int) := ⟨m.toNat, by omega⟩
      have nn : ∀ S' : Nat, cutSum r ms ≤ S' → tb ls S' ≤ tb ls (S' - (cutSum r ms).toNat) ∧ 0 ≤ cutSum r ms := fun S' h' => ih ms S' (fun x hx => hr x (List.mem_cons_of_mem _ hx)) (fun x hx => hm x (List.mem_cons_of_mem _ hx)) h'
      simp only [cutSum] at hS ⊢
      have e : ((M : Int) * (L : Int)) = ((M * L : Nat) : Int) := by simp
      rw [e] at hS ⊢
      by_cases hc : cutSum r ms ≤ S
      · have h0 := (nn S hc).2
        have many : ∀ M : Nat, M * L ≤ S → tb ls S ≤ tb ls (S - M * L) := by
          intro M
          induction M with
          | zero => intro _; simp
          | succ M ihm =>
            intro hM
            rw [Nat.add_mul, Nat.one_mul] at hM
            have a := ihm (by omega)
            have b := tb_step h (n := S - M * L) hj (by omega)
            rw [show S - (M + 1) * L = S - M * L - L by rw [Nat.add_mul, Nat.one_mul]; omega]
            omega
        have a := many M (by omega)
        have b := (nn (S - M * L) (by omega)).1
        refine ⟨?_, by omega⟩
        rw [show S - (((M * L : Nat) : Int) + cutSum r ms).toNat = S - M * L - (cutSum r ms).toNat by omega]
        omega
      · have big := (nn (cutSum r ms).toNat (by omega)).2
        omega
theorem cutLeast_le {long : Int} {ms : List Int} (h : 0 ≤ cutWaste long ls ms) : cutLeast long ls ≤ cutWaste long ls ms := by
  obtain ⟨a, b, c, d, e, f⟩ := cutWaste_valid h
  obtain ⟨l0, l1⟩ := inB_iff.1 a
  obtain ⟨N, rfl⟩ : ∃ N : Nat, long = (N : Int) := ⟨long.toNat, by omega⟩
  obtain ⟨x, y⟩ := tb_cutSum b ls ms N (fun l hl => List.getElem?_of_mem hl) d e
  have z := tb_le b (N - (cutSum ls ms).toNat)
  rw [cutLeast_tb a b, f]; omega
/-! ### the best cuts waste the least -/
theorem cbAll_sum {T : List Int} {v left : Int} (h0 : 0 ≤ left) : ∀ ls : List Int, (∀ l ∈ ls, 1 ≤ l) → cutSum ls (cbAll T v ls left).1 = left - (cbAll T v ls left).2 ∧ ∀ m ∈ (cbAll T v ls left).1, 0 ≤ m := by
  intro ls
  induction ls with
  | nil => intro _; simp [cbAll, cutSum]
  | cons l r ih =>
    intro h1
    obtain ⟨a, b⟩ := ih (fun x hx => h1 x (List.mem_cons_of_mem _ hx))
    have hl := h1 l List.mem_cons_self
    have c := cbAll_left (T := T) (v := v) (ls := r) (fun x hx => h1 x (List.mem_cons_of_mem _ hx)) h0
    obtain ⟨d0, d1, d2, d3, d4, _⟩ := cb_facts (T := T) (v := v) hl _ _ c.1 (Nat.le_refl _)
    simp only [cbAll, cutSum]
    refine ⟨by rw [a]; omega, fun m hm => ?_⟩
    rcases List.mem_cons.1 hm with rfl | hm
    · exact d0
    · exact b m hm
/-- what is left in the end can't be cut any more -/
theorem cbAll_done (h : lengthsOk ls = true) {N : Nat} {v : Int} (hv : v = tb ls N) : ∀ k, k ≤ ls.length → ∃ F : Nat, (cbAll (table ls (N + 1)) v (ls.drop k) (N : Int)).2 = (F : Int) ∧ F ≤ N ∧ tb ls F = v ∧ ∀ (j L : Nat), k ≤ j → ls[j]? = some (L : Int) → L ≤ F → tb ls (F - L) ≠ v := by
  have main : ∀ d k, k + d = ls.length → ∃ F : Nat, (cbAll (table ls (N + 1)) v (ls.drop k) (N : Int)).2 = (F : Int) ∧ F ≤ N ∧ tb ls F = v ∧ ∀ (j L : Nat), k ≤ j → ls[j]? = some (L : Int) → L ≤ F → tb ls (F - L) ≠ v := by
    intro d
    induction d with
    | zero =>
      intro k hk
      rw [List.drop_of_length_le (by omega)]
      exact ⟨N, rfl, Nat.le_refl _, hv.symm, fun j L hj hl => by have := (List.getElem?_eq_some_iff.1 hl).1; omega⟩
    | succ d ih =>
      intro k hk
      obtain ⟨F, hF, hFN, hFv, hdone⟩ := ih (k + 1) (by omega)
      obtain ⟨l, hl⟩ : ∃ l, ls[k]? = some l := ⟨_, List.getElem?_eq_getElem (by omega)⟩
      have l1 := (lengthsOk_get h hl).1
      obtain ⟨L, rfl⟩ : ∃ L : Nat, l = (L : Int) := ⟨l.toNat, by omega⟩
      rw [cbAll_drop hl, hF]
      -- one length, step by step
      have go : ∀ f F : Nat, F ≤ f → F ≤ N → tb ls F = v → (∀ (j M : Nat), k + 1 ≤ j → ls[j]? = some (M : Int) → M ≤ F → tb ls (F - M) ≠ v) →
          ∃ G : Nat, cbR (table ls (N + 1)) v (L : Int) (F : Int) = (G : Int) ∧ G ≤ N ∧ tb ls G = v ∧ ∀ (j M : Nat), k ≤ j → ls[j]? = some (M : Int) → M ≤ G → tb ls (G - M) ≠ v := by
        intro f
        induction f with
        | zero =>
          intro F hf hFN hFv hd
          obtain rfl : F = 0 := by omega
          have hno : cbTest (table ls (N + 1)) v (L : Int) ((0 : Nat) : Int) = false := by
            cases hc : cbTest (table ls (N + 1)) v (L : Int) ((0 : Nat) : Int) with
            | false => rfl
            | true => have := (cbTest_iff.1 hc).1; omega
          rw [(cb_no hno).2]
          refine ⟨0, rfl, hFN, hFv, fun j M hj hM hle => ?_⟩
          have := (lengthsOk_get h hM).1; omega
        | succ f ihf =>
          intro F hf hFN hFv hd
          cases hc : cbTest (table ls (N + 1)) v (L : Int) (F : Int) with
          | false =>
            rw [(cb_no hc).2]
            refine ⟨F, rfl, hFN, hFv, fun j M hj hM hle => ?_⟩
            by_cases e : j = k
            · subst e
              rw [hl] at hM; injection hM with hM
              obtain rfl : M = L := by omega
              intro ht
              have : cbTest (table ls (N + 1)) v (M : Int) (F : Int) = true := cbTest_iff.2 ⟨by omega, by rw [show ((F : Int) - (M : Int)).toNat = F - M by omega, table_get (by omega), ht]⟩
              rw [hc] at this; cases this
            · exact hd j M (by omega) hM hle
          | true =>
            obtain ⟨hle, ht⟩ := cbTest_iff.1 hc
            have hLF : L ≤ F := by omega
            rw [show ((F : Int) - (L : Int)).toNat = F - L by omega, table_get (by omega)] at ht
            injection ht with ht
            rw [(cb_yes l1 hc).2, show (F : Int) - (L : Int) = ((F - L : Nat) : Int) by omega]
            refine ihf (F - L) (by omega) (by omega) ht fun j M hj hM hle2 hbad => ?_
            -- then it was possible before
            have a := tb_more h (n := F - L - M) hl
            rw [show F - L - M + L = F - M by omega, hbad] at a
            have b := tb_step h (n := F) hM (by omega)
            rw [hFv] at b
            exact hd j M hj hM (by omega) (by omega)
      exact go F F (Nat.le_refl _) hFN hFv hdone
  intro k hk
  exact main (ls.length - k) k (by omega)
theorem cutBest_waste {long : Int} (h1 : inB long 0 60 = true) (h2 : lengthsOk ls = true) : cutWaste long ls (cutBest long ls) = cutLeast long ls := by
  obtain ⟨l0, l1⟩ := inB_iff.1 h1
  obtain ⟨N, rfl⟩ : ∃ N : Nat, long = (N : Int) := ⟨long.toNat, by omega⟩
  have hv := cutLeast_tb h1 h2
  obtain ⟨F, hF, hFN, hFv, hd⟩ := cbAll_done h2 hv 0 (Nat.zero_le _)
  rw [List.drop_zero] at hF
  obtain ⟨a, b⟩ := cbAll_sum (T := table ls (N + 1)) (v := cutLeast N ls) (left := (N : Int)) (by omega) ls (lengths_pos h2)
  rw [cutBest_3 h1 h2, cutWaste_mk h1 h2 (cbAll_length _ _ _ _) b (by rw [a, hF]; omega), a, hF]
  -- what is left is all waste
  rcases tb_cases h2 F with e | ⟨j, L, hl, h1L, hle, e⟩
  · omega
  · exact absurd (e.symm.trans hFv) (hd j L (Nat.zero_le _) hl hle)
end
end Go.Proofs.YtcegmlogjbnoeaaDoor
