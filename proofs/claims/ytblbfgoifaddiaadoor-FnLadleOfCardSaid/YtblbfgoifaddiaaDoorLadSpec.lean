/- 'LadleOf' of the reference: the walk. -/
import Derived.Test.YtblbfgoifaddiaaDoorLadRow
import Derived.Test.YtblbfgoifaddiaaDoorOwnApart
import Derived.BigQuiet
import Derived.Outline
namespace Go.Proofs.YtblbfgoifaddiaaDoor
open Go.RowKit
set_option linter.unusedVariables false
set_option linter.unusedSimpArgs false
theorem own_cellL {w : World} {base g n c : Nat} {e : TypeId} {xs : List Int} (h : w.ownsRow base e 1 (.slice (some ⟨g, 0, none⟩) n c) n (intsV .i64 xs)) {j : Nat} {x : Int} (hj : xs[j]? = some x) : w.cell? ⟨g, j, none⟩ = some (.int .i64 x) := by
  have hc := h.cells (g := g) rfl j (.int .i64 x) (by simp [intsV, hj])
  rw [add_none] at hc
  simpa using hc
theorem BX.made2 {w : World} (o : Array Value) (e : TypeId) : BX (w.alloc (.cells o e)) w.heap.size o.toList :=
  ⟨by simp, fun j v hv => by
    rw [cell_of_row _ w.heap.size j o e (0, 0) (heap_alloc_new w _)]
    simpa using hv, fun j => by go_simp⟩
set_option maxRecDepth 100000 in
set_option maxHeartbeats 2000000 in
theorem specLadle_any (A : Option Addr) (n c : Nat) (xs : List (Int × Int × Int)) (f s : Int) (A2 : Option Addr) (n2 c2 : Nat) (ts : List Int) (w : World)
    (hl : xs.length = n) (hr : RdT w w.heap.size A xs) (hn : n ≤ 1048576) (hl2 : ts.length = n2) (hr2 : RdI .i64 w w.heap.size A2 ts) (hn2 : n2 ≤ 1048576) (ls : List Int) (hls : LadIs xs f s ts ls) :
    Calls Tryd.prog 10 #[.slice A n c, .agg #[.int .i64 f, .int .i64 s], .slice A2 n2 c2] w (IntsRow 3 ls w) := by
  obtain ⟨i0, hi, hz0, hz1, hz2⟩ := info_parts info_int
  have HL := Lib.hid hl
  have HL2 := Lib.hid hl2
  have R1 := Lib.hid hr
  have R2 := Lib.hid hr2
  clear hl hl2
  have tA : Below w.heap.size w ((w.alloc (.cells #[.int .i64 f, .int .i64 s] 25)).alloc (.cells #[] 3)) := ((Below.refl _ _).alloc (Nat.le_refl _) _).alloc (by simp) _
  have xA : BX ((w.alloc (.cells #[.int .i64 f, .int .i64 s] 25)).alloc (.cells #[] 3)) w.heap.size [.int .i64 f, .int .i64 s] := (BX.made2 _ _).alloc _
  have hoA := own_made0 (w := w.alloc (.cells #[.int .i64 f, .int .i64 s] 25)) (base := w.heap.size + 1) (by simp) 3 1
  have hsA : ((w.alloc (.cells #[.int .i64 f, .int .i64 s] 25)).alloc (.cells #[] 3)).heap.size = w.heap.size + 2 := by simp
  have hs0 : (w.alloc (.cells #[.int .i64 f, .int .i64 s] 25)).heap.size = w.heap.size + 1 := by simp
  rw [hs0] at hoA
  go_enter Tryd.func10, Tryd.ntmps10
  go_wp2_with (fail)
  generalize ((w.alloc (.cells #[.int .i64 f, .int .i64 s] 25)).alloc (.cells #[] 3)) = w1 at *
  refine (specCast_any _ _ _ xs f s _ _ _ ts _ HL.out (hr.up tA tA.size) (by omega) HL2.out (hr2.up tA tA.size) (by omega)).mono ?_
  rintro e w0 ⟨rfl, hb0⟩
  have t0 := below_next tA hb0
  have ho0 := own_below hoA hb0
  have hsz0 : w.heap.size + 2 ≤ w0.heap.size := by have := hb0.size; omega
  clear tA xA hoA hb0 hsA hs0 hr hr2
  cases hok : castOk xs f s ts
  · obtain rfl := hls.no hok
    go_wp2
    go_ret
    exact IntsRow.mk rfl (by omega) ho0 t0
  have HOK := Lib.hid hok
  obtain ⟨g1, g2, g3, -, -⟩ := castOk_facts hok
  rw [HL.out, HL2.out] at g3
  have n6 := (heatsOk_facts g1).1
  rw [HL.out] at n6
  subst g3
  have H1 := Lib.hid g1
  clear g1 g2
  have OA := Lib.hid ho0
  clear ho0
  go_wp2_with (fail)
  clear hok
  go_loopw [7, 8] (fun u i wr => ∃ (k : Nat) (A1 : Option Addr) (c1 : Nat), k ≤ n ∧ i = .int .i64 k ∧ u = .slice A1 k c1 ∧ wr.ownsRow (w.heap.size + 1) 3 1 (.slice A1 k c1) k (intsV .i64 (List.replicate k (-1))) ∧ Below w.heap.size w wr ∧ w.heap.size + 1 ≤ wr.heap.size) (fun _ i _ => n - (intOf i).toNat)
  case atStart => exact ⟨0, _, _, Nat.zero_le _, rfl, rfl, OA.out, t0, by omega⟩
  case round =>
    clear OA t0
    obtain ⟨k, A1, c1, hk, rfl, rfl, own, hbel, hsz⟩ := hrel
    by_cases hlt : k < n
    · have OWN := Lib.hid own
      have HB := Lib.hid hbel
      clear own hbel
      go_wp2_with (at_builtin; go_must (refine wpList_append_own_w _ (by rfl) (.tmp 27) (.tmp 28) 26 rfl (w.heap.size + 1) 3 i0 _ 1 8 Tryd.underlying26 hi hz0 hz1 hz2 rfl (by decide) (.slice A1 k c1) k (intsV .i64 (List.replicate k (-1))) rfl (OWN.out.alloc _) ⟨wr.heap.size, 0, none⟩ 1 1 (intsV .i64 [-1]) rfl rfl (cells_one1 (Newest.alloc_ rfl)) (by intro u hu; simp [intsV] at hu; subst hu; rfl) (by unfold maxLen; omega) (by omega) (by simp; omega) ?_); intro v9 w9 hown9 hgr9 hv9; have hbel9 := (HB.out.alloc (by omega) (.cells #[.int .i64 (-1)] 3)).grown hgr9 (by simp; omega) (fun q hq => by (have := (OWN.out.lt q hq).1; omega)); have hs9 := hgr9.size; rw [World.size_alloc] at hs9; obtain ⟨g9, c9, rfl, -, -⟩ := own_form hown9 (by omega); have e9 : intsV .i64 (List.replicate k (-1)) ++ intsV .i64 [-1] = intsV .i64 (List.replicate (k + 1) (-1)) := (by rw [List.replicate_succ']; simp [intsV]); rw [e9] at hown9; clear hgr9 hv9 e9)
      go_roundw
      case rel => exact ⟨k + 1, _, _, by omega, by go_num, rfl, hown9, hbel9, by omega⟩
      case measure => simp [intOf] <;> omega
    · obtain rfl : k = n := by omega
      obtain ⟨o, ho⟩ := ord_exists (keysT xs) xs.length
      have HOW := Lib.hid ho
      have hol := ho.length
      rw [HL.out] at hol
      have HOL := Lib.hid hol
      have tx := hls.yes HOK.out ho
      have HXS := Lib.hid tx
      rw [← HL.out, ← outRow_nil (-1) xs.length (llRun (tapF xs) (endF ts) []).2, HL.out] at own
      have OWN := Lib.hid own
      have HB := Lib.hid hbel
      clear own hbel ho hol tx hls hsz
      go_wp2_with (fail)
      go_loopw [9] (fun v wr => ∃ q : Nat, q ≤ k ∧ v = .int .i64 q ∧ wr.ownsRow (w.heap.size + 1) 3 1 (.slice A1 k c1) k (intsV .i64 (outRow (-1) k (o.take q) (llRun (tapF xs) (endF ts) (o.take q)).2)) ∧ Below w.heap.size w wr) (fun v _ => k - (intOf v).toNat)
      case atStart => exact ⟨0, Nat.zero_le _, rfl, OWN.out, HB.out⟩
      case round =>
        clear OWN HB
        obtain ⟨q, hq, rfl, own, hbel⟩ := hrel
        by_cases hltq : q < k
        · obtain ⟨i, hoi⟩ : ∃ i, o[q]? = some i := ⟨_, List.getElem?_eq_getElem (by rw [HOL.out]; exact hltq)⟩
          obtain ⟨hiw, hni, htake⟩ := ordT_next HOW.out hoi
          have hik : i < k := by rw [← HL.out]; exact hiw
          obtain ⟨g, cc, hform, hg1, hg2⟩ := own_form own (by omega)
          injection hform with hA _ hC
          subst hA
          clear hC cc
          have HOI := Lib.hid hoi
          have HNI := Lib.hid hni
          have HTK := Lib.hid htake
          have OWN := Lib.hid own
          have HB := Lib.hid hbel
          clear hoi hni htake own hbel hiw
          go_wp2_with (fail)
          go_loopw [10, 11] (fun u v wr => ∃ (j : Nat) (b : Int), j ≤ k ∧ v = .int .i64 j ∧ u = .int .i64 b ∧ BestTo xs o q j b ∧ wr.ownsRow (w.heap.size + 1) 3 1 (.slice (some ⟨g, 0, none⟩) k c1) k (intsV .i64 (outRow (-1) k (o.take q) (llRun (tapF xs) (endF ts) (o.take q)).2)) ∧ Below w.heap.size w wr) (fun _ v _ => k - (intOf v).toNat)
          case atStart => exact ⟨0, -1, Nat.zero_le _, rfl, rfl, BestTo.zero q, OWN.out, HB.out⟩
          case round =>
            clear OWN HB
            obtain ⟨j, b, hj, rfl, rfl, hbest, own, hbel⟩ := hrel
            have HBT := Lib.hid hbest
            by_cases hltj : j < k
            · obtain ⟨⟨kk, t, r⟩, hx⟩ : ∃ q, xs[j]? = some q := ⟨_, List.getElem?_eq_getElem (by rw [HL.out]; exact hltj)⟩
              have HX := Lib.hid hx
              have c0 := own_cellL own (outRow_get (d := -1) (o := o.take q) (f := (llRun (tapF xs) (endF ts) (o.take q)).2) hltj)
              by_cases hjm : j ∈ o.take q
              · rw [if_pos hjm] at c0
                have D0 : decide ((((llRun (tapF xs) (endF ts) (o.take q)).2 j : Nat) : Int) < 0) = false := by simp
                have HN := Lib.hid (HBT.out.taken hjm)
                have OWN := Lib.hid own
                have HB := Lib.hid hbel
                generalize (llRun (tapF xs) (endF ts) (o.take q)).2 j = y at c0 D0
                clear own hbel hbest hx hjm
                go_wp2_with (fail)
                go_quiet (fail)
                go_wp2
                go_roundw
                case rel => exact ⟨j + 1, b, by omega, by go_num, rfl, HN.out, own_drewN OWN.out _, below_drawn HB.out _⟩
                case measure => simp [intOf] <;> omega
              · rw [if_neg hjm] at c0
                have OWN := Lib.hid own
                have HB := Lib.hid hbel
                obtain ⟨b1, off1, rfl, hbB1, hc1, hc2, hc3⟩ := R1.out j kk t r hx
                rw [← hbel.cell (by exact hbB1)] at hc1 hc2 hc3
                have hb' := hbest
                rcases hb' with ⟨rfl, -⟩ | ⟨p, rfl, hpj, -, -⟩
                · have HN := Lib.hid (HBT.out.first (by omega) hjm)
                  clear own hbel hbest hx hjm
                  go_wp2_with (fail)
                  go_quiet (fail)
                  go_wp2
                  go_roundw
                  case rel => exact ⟨j + 1, _, by omega, by go_num, rfl, HN.out, own_drewN OWN.out _, below_drawn HB.out _⟩
                  case measure => simp [intOf] <;> omega
                · obtain ⟨⟨kp, tp, rp⟩, hp⟩ : ∃ q, xs[p]? = some q := ⟨_, List.getElem?_eq_getElem (by rw [HL.out]; omega)⟩
                  obtain ⟨b1', off1', e', hbB1', hp1, hp2, hp3⟩ := R1.out p kp tp rp hp
                  injection e' with e'
                  injection e' with e1 e2
                  subst e1 e2
                  rw [← hbel.cell (by exact hbB1)] at hp1 hp2 hp3
                  have D1 : decide (((p : Nat) : Int) < 0) = false := by simp
                  have hpk : p < k := by omega
                  by_cases htt : t < tp
                  · have D2 : decide (t < tp) = true := by simpa using htt
                    have HN := Lib.hid (HBT.out.better (by rw [tapF_get hx, tapF_get hp]; exact htt) hjm)
                    clear own hbel hbest hx hjm hp
                    go_wp2_with (fail)
                    go_quiet (fail)
                    go_wp2
                    go_roundw
                    case rel => exact ⟨j + 1, _, by omega, by go_num, rfl, HN.out, own_drewN OWN.out _, below_drawn HB.out _⟩
                    case measure => simp [intOf] <;> omega
                  · have D2 : decide (t < tp) = false := by simpa using htt
                    have HN := Lib.hid (HBT.out.worse (by rw [tapF_get hx, tapF_get hp]; omega) hjm)
                    clear own hbel hbest hx hjm hp
                    go_wp2_with (fail)
                    go_quiet (fail)
                    go_wp2
                    go_roundw
                    case rel => exact ⟨j + 1, _, by omega, by go_num, rfl, HN.out, own_drewN OWN.out _, below_drawn HB.out _⟩
                    case measure => simp [intOf] <;> omega
            · obtain rfl : j = k := by omega
              have hbi := hbest
              rw [← HL.out] at hbi
              obtain rfl := hbi.done HOW.out HOI.out
              have OWN := Lib.hid own
              have HB := Lib.hid hbel
              clear hbest HBT hbi own hbel
              have LIQ := Lib.hid (ord_li HOK.out HOW.out q)
              have hlenq : (o.take q).length = q := by rw [List.length_take, HOL.out]; omega
              have HLQ := Lib.hid hlenq
              clear hlenq
              obtain ⟨⟨ki, ti, ri⟩, hxi⟩ : ∃ q, xs[i]? = some q := ⟨_, List.getElem?_eq_getElem (by rw [HL.out]; exact hik)⟩
              have HXI := Lib.hid hxi
              have HTI := Lib.hid (tapF_get hxi)
              obtain ⟨b1, off1, rfl, hbB1, -, -, -⟩ := R1.out i ki ti ri hxi
              clear hxi
              go_wp2_with (fail)
              go_loopw [12, 13] (fun u v wr => ∃ (l p : Nat), l ≤ q ∧ p ≤ j ∧ u = .int .i64 l ∧ v = .int .i64 p ∧ (∀ a, a < l → Blocked (endF ts) (o.take q) (llRun (tapF xs) (endF ts) (o.take q)).2 ti a) ∧ (∀ a, a < p → a ∈ o.take q → (llRun (tapF xs) (endF ts) (o.take q)).2 a = l → endF ts a ≤ ti) ∧ wr.ownsRow (w.heap.size + 1) 3 1 (.slice (some ⟨g, 0, none⟩) j c1) j (intsV .i64 (outRow (-1) j (o.take q) (llRun (tapF xs) (endF ts) (o.take q)).2)) ∧ Below w.heap.size w wr) (fun u v _ => (j - (intOf u).toNat) * 8 + (7 - (intOf v).toNat))
              case atStart => exact ⟨0, 0, Nat.zero_le _, Nat.zero_le _, rfl, rfl, fun a h => absurd h (Nat.not_lt_zero _), fun a h => absurd h (Nat.not_lt_zero _), OWN.out, HB.out⟩
              case round =>
                clear OWN HB
                obtain ⟨l, p, hl, hp, rfl, rfl, hblk, hfr, own, hbel⟩ := hrel
                have HBK := Lib.hid hblk
                have HFR := Lib.hid hfr
                clear hblk hfr
                obtain ⟨b1', off1', e', hbB1', hc1, hc2, hc3⟩ := R1.out i ki ti ri HXI.out
                injection e' with e'
                injection e' with e1 e2
                subst e1 e2
                rw [← hbel.cell (by exact hbB1)] at hc1 hc2 hc3
                by_cases hltp : p < j
                · have c0 := own_cellL own (outRow_get (d := -1) (o := o.take q) (f := (llRun (tapF xs) (endF ts) (o.take q)).2) hltp)
                  by_cases hpm : p ∈ o.take q
                  · rw [if_pos hpm] at c0
                    obtain ⟨d, hd⟩ : ∃ q, ts[p + 1]? = some q := ⟨_, List.getElem?_eq_getElem (by rw [HL2.out]; omega)⟩
                    obtain ⟨b2, off2, rfl, hbB2, hd1⟩ := R2.out (p + 1) d hd
                    rw [← hbel.cell (by exact hbB2)] at hd1
                    have HE := Lib.hid (endF_get hd)
                    have OWN := Lib.hid own
                    have HB := Lib.hid hbel
                    clear own hbel hd
                    by_cases hpl : (llRun (tapF xs) (endF ts) (o.take q)).2 p = l
                    · have HPL := Lib.hid hpl
                      rw [hpl] at c0
                      have D0 : (((l : Nat) : Int) == (l : Int)) = true := by simp
                      by_cases hdt : ti < d
                      · have D2 : decide (ti < d) = true := by simpa using hdt
                        have hbl : Blocked (endF ts) (o.take q) (llRun (tapF xs) (endF ts) (o.take q)).2 ti l := ⟨p, hpm, hpl, by rw [HE.out]; exact hdt⟩
                        have hlq := LIQ.out.bound hbl
                        rw [HLQ.out] at hlq
                        have HN : Hid (∀ a, a < l + 1 → Blocked (endF ts) (o.take q) (llRun (tapF xs) (endF ts) (o.take q)).2 ti a) := Lib.hid (fun a ha => by
                          by_cases e : a = l
                          · subst e; exact hbl
                          · exact HBK.out a (by omega))
                        clear hpm hpl hbl
                        go_wp2_with (fail)
                        go_quiet (fail)
                        go_wp2
                        go_roundw
                        case rel => exact ⟨l + 1, 0, by omega, Nat.zero_le _, by go_num, rfl, HN.out, fun a h => absurd h (Nat.not_lt_zero _), own_drewN OWN.out _, below_drawn HB.out _⟩
                        case measure => simp [intOf] <;> omega
                      · have D2 : decide (ti < d) = false := by simpa using hdt
                        have HN : Hid (∀ a, a < p + 1 → a ∈ o.take q → (llRun (tapF xs) (endF ts) (o.take q)).2 a = l → endF ts a ≤ ti) := Lib.hid (fun a ha hm hf => by
                          by_cases e : a = p
                          · subst e; rw [HE.out]; omega
                          · exact HFR.out a (by omega) hm hf)
                        clear hpm hpl
                        go_wp2_with (fail)
                        go_quiet (fail)
                        go_wp2
                        go_roundw
                        case rel => exact ⟨l, p + 1, by omega, by omega, rfl, by go_num, HBK.out, HN.out, own_drewN OWN.out _, below_drawn HB.out _⟩
                        case measure => simp [intOf] <;> omega
                    · have D0 : (((((llRun (tapF xs) (endF ts) (o.take q)).2 p : Nat)) : Int) == (l : Int)) = false := by
                        rw [beq_eq_false_iff_ne]; intro e; exact hpl (by omega)
                      have HN : Hid (∀ a, a < p + 1 → a ∈ o.take q → (llRun (tapF xs) (endF ts) (o.take q)).2 a = l → endF ts a ≤ ti) := Lib.hid (fun a ha hm hf => by
                        by_cases e : a = p
                        · subst e; exact absurd hf hpl
                        · exact HFR.out a (by omega) hm hf)
                      clear hpm hpl
                      generalize (llRun (tapF xs) (endF ts) (o.take q)).2 p = y at c0 D0
                      go_wp2_with (fail)
                      go_quiet (fail)
                      go_wp2
                      go_roundw
                      case rel => exact ⟨l, p + 1, by omega, by omega, rfl, by go_num, HBK.out, HN.out, own_drewN OWN.out _, below_drawn HB.out _⟩
                      case measure => simp [intOf] <;> omega
                  · rw [if_neg hpm] at c0
                    have D0 : ((-1 : Int) == (l : Int)) = false := by rw [beq_eq_false_iff_ne]; omega
                    have HN : Hid (∀ a, a < p + 1 → a ∈ o.take q → (llRun (tapF xs) (endF ts) (o.take q)).2 a = l → endF ts a ≤ ti) := Lib.hid (fun a ha hm hf => by
                      by_cases e : a = p
                      · subst e; exact absurd hm hpm
                      · exact HFR.out a (by omega) hm hf)
                    have OWN := Lib.hid own
                    have HB := Lib.hid hbel
                    clear own hbel hpm
                    go_wp2_with (fail)
                    go_quiet (fail)
                    go_wp2
                    go_roundw
                    case rel => exact ⟨l, p + 1, by omega, by omega, rfl, by go_num, HBK.out, HN.out, own_drewN OWN.out _, below_drawn HB.out _⟩
                    case measure => simp [intOf] <;> omega
                · have hpj : p = j := by omega
                  have hfree : ¬ Blocked (endF ts) (o.take q) (llRun (tapF xs) (endF ts) (o.take q)).2 ti l := by
                    rintro ⟨a, ha, haf, hat⟩
                    have h1 := (HOW.out.2 a).1 (List.mem_of_mem_take ha)
                    rw [HL.out] at h1
                    have := HFR.out a (by omega) ha haf
                    omega
                  have hll := LIQ.out.is HBK.out hfree
                  have hst : (outRow (-1) j (o.take q) (llRun (tapF xs) (endF ts) (o.take q)).2).set i (l : Int) = outRow (-1) j (o.take (q + 1)) (llRun (tapF xs) (endF ts) (o.take (q + 1))).2 := by
                    rw [HTK.out, llRun_snoc, ← outRow_set HNI.out, HTI.out, hll]
                  have HST := Lib.hid hst
                  obtain ⟨y2, hy2⟩ : ∃ y, (outRow (-1) j (o.take q) (llRun (tapF xs) (endF ts) (o.take q)).2)[i]? = some y := ⟨_, List.getElem?_eq_getElem (by rw [outRow_len]; exact hik)⟩
                  have c2 := own_cellL own hy2
                  have f2 := own.frozenAt i
                  have OWN := Lib.hid own
                  have HB := Lib.hid hbel
                  clear hst hll hfree hy2 own hbel
                  go_wp2
                  go_roundw
                  case rel => exact ⟨q + 1, by omega, by go_num, (by rw [← HST.out]; exact own_set1 OWN.out), HB.out.setCell (by show w.heap.size ≤ g; omega) _⟩
                  case measure => simp [intOf] <;> omega
        · obtain rfl : q = k := by omega
          have e1 : o.take q = o := List.take_of_length_le (by rw [HOL.out]; exact Nat.le_refl _)
          rw [e1] at own
          have e2 : outRow (-1) q o (llRun (tapF xs) (endF ts) o).2 = ls := by
            rw [HXS.out, ladRow, HL.out]
            exact outRow_full (fun i => by rw [HOW.out.2 i, HL.out])
          rw [e2] at own
          have hlen : ls.length = q := by rw [← e2, outRow_len]
          clear e1 e2
          go_wp2
          go_ret
          exact IntsRow.mk hlen (by omega) own hbel
end Go.Proofs.YtblbfgoifaddiaaDoor
