/- What is drawn for the laws FnSlabsOk and FnSlabsWaste. -/
import Derived.Test.YtcegmlogjbnoeaaDoorDrawCW
import Derived.Test.YtcegmlogjbnoeaaDoorDrawB
import Derived.Test.YtcegmlogjbnoeaaDoorAppX
import Derived.Test.YtcegmlogjbnoeaaDoorSlabBest
namespace Go.Proofs.YtcegmlogjbnoeaaDoor
open Go.RowKit
set_option linter.unusedVariables false
theorem pairsV_set1 {xs : List (Int × Int)} {j : Nat} {x y : Int} (z : Int) (h : xs[j]? = some (x, y)) : pairsV (xs.set j (z, y)) = (pairsV xs).set (j * 2) (.int .i64 z) := by
  induction xs generalizing j with
  | nil => simp at h
  | cons p r ih =>
    cases j with
    | zero => simp at h; subst h; simp [pairsV]
    | succ j =>
      rw [show (j + 1) * 2 = j * 2 + 1 + 1 by omega]
      simp [pairsV, ih (j := j) (by simpa using h)]
theorem OS.set2 {W w : World} {R K B g n c : Nat} {e : TypeId} {L : List (Int × Int)} (h : OS W w R K B e 2 (.slice (some ⟨g, 0, none⟩) n c) n (pairsV L)) {k : Nat} {x y : Int} (hk : L[k]? = some (x, y)) (z : Int) :
    OS W (w.setCell ⟨g, k * 2, none⟩ (.int .i64 z)) R K B e 2 (.slice (some ⟨g, 0, none⟩) n c) n (pairsV (L.set k (z, y))) :=
  h.append (row := some g) (w9 := w.setCell ⟨g, k * 2, none⟩ (.int .i64 z)) ⟨rfl, rfl, rfl, by simp, fun j _ hj => Below.heap_setCell w ⟨g, k * 2, none⟩ (.int .i64 z) j (fun e => hj (by rw [e]))⟩ (fun k hk => by injection hk with hk; subst hk; exact own_ge h.own rfl) (by rw [pairsV_set1 z hk]; exact (h.own.stored (k * 2) _).1)
theorem own_pair {w : World} {base g n c : Nat} {e : TypeId} {L : List (Int × Int)} (h : w.ownsRow base e 2 (.slice (some ⟨g, 0, none⟩) n c) n (pairsV L)) {k : Nat} {x y : Int} (hk : L[k]? = some (x, y)) : w.cell? ⟨g, k * 2, none⟩ = some (.int .i64 x) ∧ w.cell? ⟨g, k * 2 + 1, none⟩ = some (.int .i64 y) := by
  obtain ⟨b, off, e1, _, c1, c2⟩ := RdP.of_own h k x y hk
  injection e1 with e1
  injection e1 with e2 e3
  subst e2 e3
  rw [Nat.zero_add] at c1 c2
  exact ⟨c1, c2⟩
def lenV : Value → Nat
  | .slice _ n _ => n
  | _ => 0
def DrawnS (w : World) (e : Ending) (w' : World) : Prop := ∃ (v : Int) (A : Option Addr) (n c : Nat) (L : List (Int × Int)) (A2 : Option Addr) (n2 c2 : Nat) (ls : List Int) (A3 : Option Addr) (n3 c3 : Nat) (Z : List (Int × Int)),
  e = .returned (.tuple #[.int .i64 v, .slice A n c, .slice A2 n2 c2, .slice A3 n3 c3]) ∧ -70 ≤ v ∧ v ≤ 121 ∧ L.length = n ∧ n ≤ 9 ∧ ls.length = n2 ∧ n2 ≤ 9 ∧ Z.length = n3 ∧ n3 ≤ 1000 ∧
  w'.ownsRow w.heap.size 31 2 (.slice A n c) n (pairsV L) ∧ w'.ownsRow w.heap.size 3 1 (.slice A2 n2 c2) n2 (intsV .i64 ls) ∧ w'.ownsRow w.heap.size 62 2 (.slice A3 n3 c3) n3 (pairsV Z)
set_option maxRecDepth 100000 in
set_option maxHeartbeats 2000000 in
theorem slabs_st {W w : World} {R K : Nat} (st : St W w R K) (hK : K ≤ 1000) :
    Calls Tryd.prog 68 #[.pointer (some ⟨R, 0, none⟩)] w fun e w' => DrawnS w e w' ∧ ∃ K', St W w' R K' := by
  obtain ⟨i0, hi, hz0, hz1, hz2⟩ := info_parts info_Slab
  have lt := st.lt
  have sW := st.gr.size
  go_enter Tryd.func68, Tryd.ntmps68
  go_wp2_with (fail)
  refine (long_st st (by omega)).mono ?_
  rintro e w2 ⟨v, rfl, v0, v1, st2, hzz⟩
  go_wp2_with (fail)
  refine (bad_st st2 (by omega) (by omega) (by omega) v0 v1).mono ?_
  rintro e w3 ⟨A4, n4, c4, L, rfl, hL, hn4, osb⟩
  go_wp2_with (fail)
  refine (lengths_st (osb.st.self (Below.refl _ _)) (by omega) (by omega) (by omega)).mono ?_
  rintro e w4 ⟨A5, n5, c5, ls, rfl, hls, hn5, osl⟩
  have osb4 := osb.draw osl.st
  have hs3 := osb.hs
  have hs4 := osl.st.gr.size
  have sf := osb4.st.self (Below.refl _ _)
  go_wp2_with (fail)
  refine (specSBest_any v A4 n4 c4 L A5 n5 c5 ls _ hL (RdP.of_own osb4.own) (by omega) hls (RdI.of_own osl.own) (by omega)).mono ?_
  intro e w5 hrow
  have hSl := slabsBest_len v L ls
  generalize slabsBest v L ls = M0 at hrow hSl
  obtain ⟨m0, hm0⟩ : ∃ k, M0.length = k := ⟨_, rfl⟩
  obtain ⟨A6, c6, rfl, own6, hb5⟩ := pairs_at' hrow hm0
  rw [hm0] at hSl
  have os5 : OS w4 w5 R (K + 3 + 40 + 40) w4.heap.size 62 2 (.slice A6 m0 c6) m0 (pairsV M0) := ⟨sf.step hb5 (Nat.le_refl _), own6, osb4.st.lt, Nat.le_refl _, hb5.size⟩
  have OSB := Lib.hid osb4
  have OSL := Lib.hid osl
  have OS5 := Lib.hid os5
  clear osb osb4 osl st st2 sf os5 own6 hb5 hrow
  go_wp2_with (fail)
  go_loopw [9, 10] (fun v i wr => ∃ (k m : Nat) (A' : Option Addr) (c' : Nat) (M : List (Int × Int)) (K' : Nat), i = .int .i64 k ∧ k ≤ 2000 ∧ v = .slice A' m c' ∧ m + k ≤ 2000 ∧ m ≤ m0 ∧ M.length = m ∧ OS w4 wr R K' w4.heap.size 62 2 (.slice A' m c') m (pairsV M) ∧ K' ≤ K + 83 + 2 * k) (fun v i _ => lenV v - (intOf i).toNat)
  case atStart => exact ⟨0, m0, _, _, M0, K + 3 + 40 + 40, rfl, by omega, rfl, by omega, Nat.le_refl _, hm0, OS5.out, by omega⟩
  case round =>
    obtain ⟨k, m, A', c', M, K', rfl, hk2, rfl, hmk2, hmm0, hM, os, hK'⟩ := hrel
    have HM := Lib.hid hM
    clear hM OS5
    by_cases hlt : k < m
    · obtain ⟨g, cc, hform, -, -⟩ := own_form os.own (by omega)
      injection hform with hA _ hC
      subst hA
      clear hC
      have hcap := own_cap os.own
      go_wp2_with (fail)
      refine (pick_os os (by omega)).mono ?_
      rintro e w6 ⟨u, rfl, u0, u1, os6, -⟩
      have hs6 := os6.hs
      have OS6 := Lib.hid os6
      clear os u1
      by_cases hu : u = 0
      · subst hu
        have HK : Hid ((M.take k).length = k) := Lib.hid (by rw [List.length_take, HM.out]; omega)
        have HD : Hid ((M.drop (k + 1)).length = m - (k + 1)) := Lib.hid (by rw [List.length_drop, HM.out])
        have B1 : (k : Int) ≤ c' := by omega
        have B2 : (k : Int) + 1 ≤ m := by omega
        have B3 : (k : Int) + 1 ≤ c' := by omega
        have B4 : (m : Int) ≤ c' := by omega
        have B6 : (k : Int) ≤ (k : Int) + 1 := by omega
        have B7 : 0 ≤ (k : Int) + 1 := by omega
        have W1 : IntKind.i64.wrap ((k : Int) + 1) = k + 1 := IntWalk.i64_in _ (by omega)
        have T1 : ((k : Int) + 1).toNat = k + 1 := by omega
        clear os6
        by_cases hc4 : k + 1 = c'
        · have hmk : m = k + 1 := by omega
          subst hmk
          subst hc4
          go_wp2_with (fail)
          go_region_law (first
            | (refine step_append_own rfl (.tmp 31) (.tmp 34) 25 rfl w4.heap.size 62 i0 _ 2 16 Tryd.underlying25 hi hz0 hz1 hz2 rfl (by decide) (.slice (some ⟨w6.heap.size, 0, none⟩) 0 0) 0 [] rfl (own_made0 (w := w6.drew) hs6 _ _) ⟨g, 0, none⟩ k (k + 1) (pairsV (M.take k)) rfl (by rw [pairsV_length, HK.out]) (take_cells2 (OS6.out.own.alloc _) k) pairsV_one (by unfold maxLen; omega) (by omega) (by simp; omega) ?_; intro v7 w7 hown7 hgr7; simp only [Nat.zero_add, List.nil_append] at hown7; have osn := ((OS6.out.drew).alloc (.cells #[] 62)).append hgr7 (fun k hk => own_ge (own_made0 (w := w6.drew) hs6 62 2) hk) hown7; have oso := ((OS6.out.drew).alloc (.cells #[] 62)).apart hgr7 (fun k hk => ⟨own_ge (own_made0 (w := w6.drew) hs6 62 2) hk, fun h => by (have h1 := own_lt OS6.out.own h; have h2 : w6.heap.size = k := (by simpa [Value.ownBlock] using hk); omega)⟩); obtain ⟨A9, c9, rfl⟩ := own_form0 hown7)
            | (refine step_append_own rfl (.tmp 35) (.tmp 39) 25 rfl w4.heap.size 62 i0 _ 2 16 Tryd.underlying25 hi hz0 hz1 hz2 rfl (by decide) (.slice A9 k c9) k (pairsV (M.take k)) rfl hown7 ⟨g, 0, none⟩ 0 0 (pairsV []) rfl rfl (by intro j u hu; simp [pairsV] at hu) pairsV_one (by unfold maxLen; omega) (by omega) osn.hs ?_; intro v8 w8 hown8 hgr8; rw [← pairsV_append, List.append_nil, Nat.add_zero] at hown8; have os8 := osn.append hgr8 (fun k hk => own_ge hown7 hk) hown8; obtain ⟨A8, c8, rfl⟩ := own_form0 hown8))
          all_goals
            clear W1 T1 B6 B7
            go_wp2
            go_roundw
            case rel => exact ⟨k + 1, k, _, _, M.take k, K' + 1, by go_num, by omega, rfl, by omega, by omega, HK.out, os8, by omega⟩
            case measure => simp [intOf, lenV] <;> omega
        · have B5 : (k : Int) + 1 < c' := by omega
          have hc5 : ¬ c' = k + 1 := by omega
          go_wp2_with (fail)
          go_region_law (first
            | (refine step_append_own rfl (.tmp 31) (.tmp 34) 25 rfl w4.heap.size 62 i0 _ 2 16 Tryd.underlying25 hi hz0 hz1 hz2 rfl (by decide) (.slice (some ⟨w6.heap.size, 0, none⟩) 0 0) 0 [] rfl (own_made0 (w := w6.drew) hs6 _ _) ⟨g, 0, none⟩ k c' (pairsV (M.take k)) rfl (by rw [pairsV_length, HK.out]) (take_cells2 (OS6.out.own.alloc _) k) pairsV_one (by unfold maxLen; omega) (by omega) (by simp; omega) ?_; intro v7 w7 hown7 hgr7; simp only [Nat.zero_add, List.nil_append] at hown7; have osn := ((OS6.out.drew).alloc (.cells #[] 62)).append hgr7 (fun k hk => own_ge (own_made0 (w := w6.drew) hs6 62 2) hk) hown7; have oso := ((OS6.out.drew).alloc (.cells #[] 62)).apart hgr7 (fun k hk => ⟨own_ge (own_made0 (w := w6.drew) hs6 62 2) hk, fun h => by (have h1 := own_lt OS6.out.own h; have h2 : w6.heap.size = k := (by simpa [Value.ownBlock] using hk); omega)⟩); obtain ⟨A9, c9, rfl⟩ := own_form0 hown7)
            | (refine step_append_own rfl (.tmp 35) (.tmp 39) 25 rfl w4.heap.size 62 i0 _ 2 16 Tryd.underlying25 hi hz0 hz1 hz2 rfl (by decide) (.slice A9 k c9) k (pairsV (M.take k)) rfl hown7 ⟨g, (k + 1) * 2, none⟩ (m - (k + 1)) (c' - (k + 1)) (pairsV (M.drop (k + 1))) rfl (by rw [pairsV_length, HD.out]) (drop_cells2 oso.own (k + 1)) pairsV_one (by unfold maxLen; omega) (by omega) osn.hs ?_; intro v8 w8 hown8 hgr8; rw [← pairsV_append] at hown8; have hkm : k + (m - (k + 1)) = m - 1 := (by omega); rw [hkm] at hown8; have os8 := osn.append hgr8 (fun k hk => own_ge hown7 hk) hown8; obtain ⟨A8, c8, rfl⟩ := own_form0 hown8))
          all_goals
            clear W1 T1 B6 B7
            go_wp2
            go_roundw
            case rel => exact ⟨k + 1, m - 1, _, _, M.take k ++ M.drop (k + 1), K' + 1, by go_num, by omega, rfl, by omega, by omega, by rw [List.length_append, HK.out, HD.out]; omega, os8, by omega⟩
            case measure => simp [intOf, lenV] <;> omega
      · have hub : (u == 0) = false := by simp [hu]
        go_wp2_with (fail)
        refine (pick_os os6 (by omega)).mono ?_
        rintro e w7 ⟨s, rfl, s0, s1, os7, -⟩
        clear os6 OS6 hub hu s1
        have OS7 := Lib.hid os7
        by_cases hs : s = 0
        · subst hs
          obtain ⟨⟨x, y⟩, hxy⟩ : ∃ q, M[k]? = some q := ⟨_, List.getElem?_eq_getElem (by rw [HM.out]; omega)⟩
          obtain ⟨c1, c2⟩ := own_pair os7.own hxy
          have f1 := os7.own.frozenAt (k * 2)
          obtain ⟨z, hz⟩ : ∃ z, IntKind.i64.wrap (x + 1) = z := ⟨_, rfl⟩
          have HX := Lib.hid hxy
          clear os7 hxy
          go_wp2
          go_roundw
          case rel => exact ⟨k + 1, m, _, _, M.set k (z, y), K' + 1 + 1, by go_num, by omega, rfl, by omega, by omega, by rw [List.length_set]; exact HM.out, OS7.out.set2 HX.out _, by omega⟩
          case measure => simp [intOf, lenV] <;> omega
        · have hsb : (s == 0) = false := by simp [hs]
          clear os7
          go_wp2
          go_roundw
          case rel => exact ⟨k + 1, m, _, _, M, K' + 1 + 1, by go_num, by omega, rfl, by omega, by omega, HM.out, OS7.out, by omega⟩
          case measure => simp [intOf, lenV] <;> omega
    · have OSX := Lib.hid os
      clear os
      go_wp2
      refine bodyPost_ret (results_tmp4 rfl _ _ _) rfl ?_
      have ob := OSB.out.draw OSX.out.st
      have ol := OSL.out.draw OSX.out.st
      exact ⟨⟨v, A4, n4, c4, L, A5, n5, c5, ls, A', m, c', M, rfl, v0, v1, hL, hn4, hls, hn5, HM.out, by omega, own_lower ob.own (by omega), own_lower ol.own (by omega), own_lower OSX.out.own (by omega)⟩, _, ob.st⟩
end Go.Proofs.YtcegmlogjbnoeaaDoor
