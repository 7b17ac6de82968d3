/- The walk of the law FnLadleOf. -/
import Derived.Test.YtblbfgoifaddiaaDoorDrawLd
import Derived.Test.YtblbfgoifaddiaaDoorLadImpl
import Derived.Test.YtblbfgoifaddiaaDoorLadSpec
import Derived.Test.YtblbfgoifaddiaaDoorLadMost
import Derived.Test.YtblbfgoifaddiaaDoorSame
import Derived.Test.YtblbfgoifaddiaaDoorAlive
namespace Go.Proofs.YtblbfgoifaddiaaDoor
open Go.RowKit
set_option linter.unusedVariables false
set_option linter.unusedSimpArgs false
/-- one more than the greatest ladle of the first k heats -/
def topTo (f : Nat → Nat) : Nat → Nat
  | 0 => 0
  | k + 1 => max (topTo f k) (f k + 1)
theorem topTo_ge (f : Nat → Nat) : ∀ k i, i < k → f i + 1 ≤ topTo f k := by
  intro k
  induction k with
  | zero => intro i h; omega
  | succ k ih =>
    intro i h
    simp only [topTo]
    by_cases e : i = k
    · subst e; omega
    · have := ih i (by omega); omega
theorem topTo_le (f : Nat → Nat) (X : Nat) : ∀ k, (∀ i, i < k → f i < X) → topTo f k ≤ X := by
  intro k
  induction k with
  | zero => intro _; simp [topTo]
  | succ k ih =>
    intro h
    simp only [topTo]
    have := ih fun i hi => h i (by omega)
    have := h k (by omega)
    omega
theorem top_len {t e : Nat → Int} {n : Nat} {o : List Nat} {st : List Int × (Nat → Nat)} (h : LI t e o st) (ho : ∀ i, i ∈ o ↔ i < n) : topTo st.2 n = st.1.length := by
  refine Nat.le_antisymm (topTo_le _ _ _ fun i hi => h.lad i ((ho i).2 hi)) ?_
  by_cases h0 : st.1.length = 0
  · omega
  · obtain ⟨c, hc⟩ : ∃ c, st.1[st.1.length - 1]? = some c := ⟨_, List.getElem?_eq_getElem (by omega)⟩
    obtain ⟨j, hj, hj2, -⟩ := h.last _ c hc
    have := topTo_ge st.2 n j ((ho j).1 hj)
    omega
/-- what the law has at hand: heats, times, a box that holds the caster -/
structure LW (w wk : World) (b : Nat) (f s : Int) (vh : Value) (nh : Nat) (Lh : List (Int × Int × Int)) (vt : Value) (nt : Nat) (M : List Int) : Prop where
  be : Below w.heap.size w wk
  oh : wk.ownsRow w.heap.size 34 3 vh nh (tripV Lh)
  ot : wk.ownsRow w.heap.size 3 1 vt nt (intsV .i64 M)
  bx : BX wk b [.int .i64 f, .int .i64 s]
theorem LW.next {w wk w' : World} {b : Nat} {f s : Int} {vh : Value} {nh : Nat} {Lh : List (Int × Int × Int)} {vt : Value} {nt : Nat} {M : List Int} (h : LW w wk b f s vh nh Lh vt nt M) (hb : Below wk.heap.size wk w') : LW w w' b f s vh nh Lh vt nt M :=
  ⟨h.be.trans (hb.mono h.be.size), own_below h.oh hb, own_below h.ot hb, h.bx.below hb h.bx.lt⟩
theorem LW.drewN {w wk : World} {b : Nat} {f s : Int} {vh : Value} {nh : Nat} {Lh : List (Int × Int × Int)} {vt : Value} {nt : Nat} {M : List Int} (h : LW w wk b f s vh nh Lh vt nt M) (k : Nat) : LW w (wk.drewN k) b f s vh nh Lh vt nt M :=
  ⟨below_drawn h.be k, own_drewN h.oh k, own_drewN h.ot k, h.bx.drewN k⟩
set_option maxRecDepth 100000 in
set_option maxHeartbeats 1000000 in
theorem walkFnLadleOf (w : World) (A : Option Addr) (n c : Nat) (xs : List Int) (hl : xs.length = n) (rd : RdI .u8 w w.heap.size A xs) (hc : n ≤ c) (hx : ∀ x ∈ xs, 0 ≤ x ∧ x ≤ 255) :
    Calls Tryd.prog 3 #[.slice A n c] w fun e w' => e = .returned (.bool true) ∧ Below w.heap.size w w' := by
  by_cases hs0 : 1048576 < (n : Int)
  · go_enter Tryd.func3, Tryd.ntmps3
    go_wp2
    go_ret
    exact ⟨rfl, Below.refl _ _⟩
  have hn : n ≤ 1048576 := by omega
  go_enter Tryd.func3, Tryd.ntmps3
  go_wp2_with (fail)
  refine (drawLadle_st hl hc rd hn hx).mono ?_
  rintro e w1 ⟨A4, m, c4, L, f, s, A5, m5, c5, M, rfl, hL, hm7, hM, hm9, oh, ot, hb⟩
  clear rd hx hl hc
  have hs1 := hb.size
  have lw : LW w (w1.alloc (.cells #[.int .i64 f, .int .i64 s] 25)) w1.heap.size f s (.slice A4 m c4) m L (.slice A5 m5 c5) m5 M := ⟨hb.alloc hs1 _, oh.alloc _, ot.alloc _, BX.made2 _ _⟩
  have HL := Lib.hid hL
  have HM := Lib.hid hM
  obtain ⟨ls, hls⟩ := lad_exists L f s M
  obtain ⟨p, hp⟩ : ∃ p, ls.length = p := ⟨_, rfl⟩
  have hp6 : p ≤ 6 := by rw [← hp]; exact hls.le
  have HP := Lib.hid hp
  have c0 := lw.bx.at_ 0 _ rfl
  have c1 := lw.bx.at_ 1 _ rfl
  clear oh ot hb hL hM
  go_wp2_with (fail)
  generalize w1.alloc (.cells #[.int .i64 f, .int .i64 s] 25) = w2 at *
  generalize w1.heap.size = bc at *
  refine (implLadle_any _ _ _ L f s _ _ _ M _ HL.out (RdT.of_own lw.oh) (by omega) HM.out (RdI.of_own lw.ot) (by omega) ls hls).mono ?_
  intro e w3 hrow
  obtain ⟨A6, c6, rfl, own3, hb3⟩ := hrow.at_ hp
  have lw3 := lw.next hb3
  have hs2 := lw.be.size
  have ol3 := own_lower (base' := w.heap.size) own3 hs2
  have c0 := lw3.bx.at_ 0 _ rfl
  have c1 := lw3.bx.at_ 1 _ rfl
  clear lw own3 hb3 hrow
  go_wp2_with (fail)
  refine (specLadle_any _ _ _ L f s _ _ _ M _ HL.out (RdT.of_own lw3.oh) (by omega) HM.out (RdI.of_own lw3.ot) (by omega) ls hls).mono ?_
  intro e w4 hrow
  obtain ⟨A7, c7, rfl, own4, hb4⟩ := hrow.at_ hp
  have lw4 := lw3.next hb4
  have ol4 := own_below ol3 hb4
  have rd7 := RdI.of_own own4
  clear lw3 ol3 own4 hb4 hrow c0 c1
  go_wp2_with (fail)
  refine (sameInts_same _ _ _ _ _ ls _ hp (RdI.of_own ol4) rd7 (by omega)).mono ?_
  rintro e w5 ⟨rfl, hb5⟩
  have lw5 := lw4.next hb5
  have ol5 := own_below ol4 hb5
  have c0 := lw5.bx.at_ 0 _ rfl
  have c1 := lw5.bx.at_ 1 _ rfl
  clear lw4 ol4 rd7 hb5
  go_wp2_with (fail)
  refine (specCast_any _ _ _ L f s _ _ _ M _ HL.out (RdT.of_own lw5.oh) (by omega) HM.out (RdI.of_own lw5.ot) (by omega)).mono ?_
  rintro e w6 ⟨rfl, hb6⟩
  have lw6 := lw5.next hb6
  have ol6 := own_below ol5 hb6
  clear lw5 ol5 hb6 c0 c1
  cases hok : castOk L f s M
  · obtain rfl : p = 0 := by rw [← hp, hls.no hok]; rfl
    clear hls hp
    go_wp2_with (first
      | (go_at_call 12; refine (alive_any _).mono ?_; rintro e w7 ⟨rfl, hb7⟩; have lw6 := lw6.next hb7))
    go_ret
    exact ⟨rfl, lw6.be⟩
  · have HOK := Lib.hid hok
    obtain ⟨g1, -, g3, -, -⟩ := castOk_facts hok
    rw [HL.out, HM.out] at g3
    subst g3
    obtain ⟨o, ho⟩ := ord_exists (keysT L) L.length
    have hrow := hls.yes hok ho
    have hpm : p = m := by rw [← hp, hls.len hok, HL.out]
    subst hpm
    have hli := ord_li hok ho o.length
    rw [List.take_length] at hli
    have hmem : ∀ i, i ∈ o ↔ i < p := fun i => by rw [ho.2 i, HL.out]
    have hmost := (top_len hli hmem).trans (lad_most hli hmem)
    have HMOST := Lib.hid hmost
    have holn := ho.length
    rw [HL.out] at holn
    have hfb : ∀ i, i < p → (llRun (tapF L) (endF M) o).2 i < p := fun i hi => by
      have h1 := hli.lad i ((hmem i).2 hi)
      have h2 := hli.le
      omega
    have HFB := Lib.hid hfb
    clear holn hfb
    have HLI := Lib.hid hli
    have HMEM := Lib.hid hmem
    rw [hrow, ladRow, HL.out] at ol6
    clear hok hls hrow hli hmem hmost ho HP hp
    generalize hF : (llRun (tapF L) (endF M) o).2 = F at *
    go_wp2_with (fail)
    have LW6 := Lib.hid lw6
    have OL6 := Lib.hid ol6
    clear lw6 ol6
    go_loopw [7, 8] (fun u v wr => ∃ k : Nat, k ≤ p ∧ v = .int .i64 k ∧ u = .int .i64 (topTo F k : Nat) ∧ LW w wr bc f s (.slice A4 p c4) p L (.slice A5 (p + 1) c5) (p + 1) M ∧ wr.ownsRow w.heap.size 3 1 (.slice A6 p c6) p (intsV .i64 (outRow 0 p o F))) (fun _ v _ => p - (intOf v).toNat)
    case atStart => exact ⟨0, Nat.zero_le _, rfl, rfl, LW6.out, OL6.out⟩
    case round =>
      clear LW6 OL6
      obtain ⟨k, hk, rfl, rfl, lw, ol⟩ := hrel
      have htl : topTo F k ≤ p := topTo_le _ _ _ fun i hi => HFB.out i (by omega)
      by_cases hltk : k < p
      · obtain ⟨g6, cc, hform, -, -⟩ := own_form ol (by omega)
        injection hform with hA _ hC
        subst hA
        clear hC cc
        obtain ⟨⟨kk, t, r⟩, hx⟩ : ∃ q, L[k]? = some q := ⟨_, List.getElem?_eq_getElem (by rw [HL.out]; exact hltk)⟩
        obtain ⟨d, hd⟩ : ∃ q, M[k + 1]? = some q := ⟨_, List.getElem?_eq_getElem (by rw [HM.out]; omega)⟩
        have HX := Lib.hid hx
        have HD := Lib.hid hd
        have HTK := Lib.hid (tapF_get hx)
        have HEK := Lib.hid (endF_get hd)
        have ck := own_cellL ol (outRow_get (d := 0) (o := o) (f := F) hltk)
        rw [if_pos ((HMEM.out k).2 hltk)] at ck
        have hfk := HFB.out k hltk
        have hmx : ((topTo F (k + 1) : Nat) : Int) = if ((topTo F k : Nat) : Int) < (F k : Int) + 1 then (F k : Int) + 1 else ((topTo F k : Nat) : Int) := by
          have e : topTo F (k + 1) = max (topTo F k) (F k + 1) := rfl
          rw [e]
          split <;> omega
        have HMX := Lib.hid hmx
        have hdis : ∀ b, b < k → F k = F b → endF M k ≤ tapF L b ∨ endF M b ≤ tapF L k := fun b hb hf => HLI.out.disj k b ((HMEM.out k).2 hltk) ((HMEM.out b).2 (by omega)) (by omega) (by rw [hF]; exact hf)
        have HDIS := Lib.hid hdis
        obtain ⟨g4, cc4, hform4, -, -⟩ := own_form lw.oh (by omega)
        injection hform4 with hA4 _ hC4
        subst hA4
        clear hC4 cc4
        obtain ⟨g5, cc5, hform5, -, -⟩ := own_form lw.ot (by omega)
        injection hform5 with hA5 _ hC5
        subst hA5
        clear hC5 cc5
        have OLH := Lib.hid ol
        have LWH := Lib.hid lw
        have FKK := Lib.hid (rfl : F k = F k)
        obtain ⟨fk, hfk2⟩ : ∃ q, F k = q := ⟨_, rfl⟩
        have HFK := Lib.hid hfk2
        rw [hfk2] at ck hfk HMX HDIS
        clear hx hd hmx ol lw hdis hfk2 FKK
        generalize topTo F k = y1 at *
        by_cases hq : (y1 : Int) < (fk : Int) + 1
        all_goals
          go_wp2_with (fail)
          go_loopw [9] (fun v wr => ∃ b : Nat, b ≤ k ∧ v = .int .i64 b ∧ LW w wr bc f s (.slice (some ⟨g4, 0, none⟩) p c4) p L (.slice (some ⟨g5, 0, none⟩) (p + 1) c5) (p + 1) M ∧ wr.ownsRow w.heap.size 3 1 (.slice (some ⟨g6, 0, none⟩) p c6) p (intsV .i64 (outRow 0 p o F))) (fun v _ => k - (intOf v).toNat)
          case atStart => exact ⟨0, Nat.zero_le _, rfl, LWH.out, OLH.out⟩
          case round =>
            clear LWH OLH ck
            obtain ⟨b, hb, rfl, lw, ol⟩ := hrel
            have LWH := Lib.hid lw
            have OLH := Lib.hid ol
            by_cases hltb : b < k
            · obtain ⟨⟨kb, tb, rb⟩, hxb⟩ : ∃ q, L[b]? = some q := ⟨_, List.getElem?_eq_getElem (by rw [HL.out]; omega)⟩
              obtain ⟨db, hdb⟩ : ∃ q, M[b + 1]? = some q := ⟨_, List.getElem?_eq_getElem (by rw [HM.out]; omega)⟩
              have ck := own_cellL ol (outRow_get (d := 0) (o := o) (f := F) hltk)
              rw [if_pos ((HMEM.out k).2 hltk), HFK.out] at ck
              have cb := own_cellL ol (outRow_get (d := 0) (o := o) (f := F) (i := b) (by omega))
              rw [if_pos ((HMEM.out b).2 (by omega))] at cb
              obtain ⟨-, tk, -⟩ := own_trip lw.oh HX.out
              obtain ⟨-, tb', -⟩ := own_trip lw.oh hxb
              have ek := own_cellL lw.ot HD.out
              have eb := own_cellL lw.ot hdb
              have hdd := HDIS.out b hltb
              rw [HEK.out, HTK.out, tapF_get hxb, endF_get hdb] at hdd
              have HDD := Lib.hid hdd
              clear lw ol hxb hdb hdd
              generalize F b = fb at cb HDD
              by_cases hff : fk = fb
              · have hdd := HDD.out hff
                subst hff
                have D0 : (((fk : Nat) : Int) == (fk : Int)) = true := by simp
                by_cases htd : t < db
                · have D1 : decide (t < db) = true := by simpa using htd
                  have D2 : decide (tb < d) = false := by simp; omega
                  clear hdd
                  go_wp2_with (fail)
                  go_quiet (fail)
                  go_wp2
                  go_roundw
                  case rel => exact ⟨b + 1, by omega, by go_num, LWH.out.drewN _, own_drewN OLH.out _⟩
                  case measure => simp [intOf] <;> omega
                · have D1 : decide (t < db) = false := by simpa using htd
                  clear hdd
                  go_wp2_with (fail)
                  go_quiet (fail)
                  go_wp2
                  go_roundw
                  case rel => exact ⟨b + 1, by omega, by go_num, LWH.out.drewN _, own_drewN OLH.out _⟩
                  case measure => simp [intOf] <;> omega
              · have D0 : (((fk : Nat) : Int) == (fb : Int)) = false := by rw [beq_eq_false_iff_ne]; omega
                go_wp2_with (fail)
                go_quiet (fail)
                go_wp2
                go_roundw
                case rel => exact ⟨b + 1, by omega, by go_num, LWH.out.drewN _, own_drewN OLH.out _⟩
                case measure => simp [intOf] <;> omega
            · clear lw ol
              go_wp2
              go_roundw
              case rel => exact ⟨k + 1, by omega, by go_num, by first | rw [HMX.out, if_pos hq] | rw [HMX.out, if_neg (by omega)], LWH.out, OLH.out⟩
              case measure => simp [intOf] <;> omega
      · obtain rfl : k = p := by omega
        have K := ladlesMost_any A4 k c4 L f s A5 (k + 1) c5 M wr HL.out (RdT.of_own lw.oh) (by omega) HM.out (RdI.of_own lw.ot) (by omega) HOK.out
        rw [← HMOST.out] at K
        have c0 := lw.bx.at_ 0 _ rfl
        have c1 := lw.bx.at_ 1 _ rfl
        have LWH := Lib.hid lw
        clear lw ol
        generalize topTo F k = y1 at *
        go_wp2_with (fail)
        refine K.mono ?_
        rintro e w9 ⟨rfl, hb9⟩
        have D0 : (((y1 : Nat) : Int) == (y1 : Int)) = true := by simp
        have be9 := (LWH.out.next hb9).be
        go_wp2
        go_ret
        exact ⟨rfl, be9⟩
end Go.Proofs.YtblbfgoifaddiaaDoor
