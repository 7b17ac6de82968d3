/- The walk of the law FnSlabsOk (written by genlaws.py). -/
import Derived.Test.YtcegmlogjbnoeaaDoorDrawS
import Derived.Test.YtcegmlogjbnoeaaDoorSlabFn2
import Derived.Test.YtcegmlogjbnoeaaDoorAlive
import Derived.Test.YtcegmlogjbnoeaaDoorSlabWalk
namespace Go.Proofs.YtcegmlogjbnoeaaDoor
open Go.RowKit
set_option linter.unusedVariables false
theorem drawSlabsOk_st {w : World} {A : Option Addr} {n c : Nat} {xs : List Int} (hl : xs.length = n) (hc : n ≤ c) (rd : RdI .u8 w w.heap.size A xs) (hn : n ≤ 1048576) (hx : ∀ x ∈ xs, 0 ≤ x ∧ x ≤ 255) :
    Calls Tryd.prog 58 #[.slice A n c] w fun e w' => DrawnS w e w' ∧ Below w.heap.size w w' := by
  go_enter Tryd.func58, Tryd.ntmps58
  go_wp2_with (fail)
  refine (open_st hl hc rd hn hx).mono ?_
  rintro e w1 ⟨rfl, st1, hz1⟩
  go_wp2_with (fail)
  refine (slabs_st st1 (by omega)).mono ?_
  rintro e w2 ⟨⟨v, A4, m, c4, L, A5, m5, c5, ls, A6, m6, c6, Z, rfl, v0, v1, hL, hn9, hls, hn5, hZ, hn6, o1, o2, o3⟩, K', st2⟩
  go_wp2
  refine bodyPost_ret (results_tmp4 rfl _ _ _) rfl ?_
  exact ⟨⟨v, A4, m, c4, L, A5, m5, c5, ls, A6, m6, c6, Z, rfl, v0, v1, hL, hn9, hls, hn5, hZ, hn6, own_lower o1 (by omega), own_lower o2 (by omega), own_lower o3 (by omega)⟩, st2.below (Nat.le_refl _) (Nat.le_refl _)⟩
set_option maxRecDepth 100000 in
set_option maxHeartbeats 2000000 in
theorem walkFnSlabsOk (w : World) (A : Option Addr) (n c : Nat) (xs : List Int) (hl : xs.length = n) (rd : RdI .u8 w w.heap.size A xs) (hc : n ≤ c) (hx : ∀ x ∈ xs, 0 ≤ x ∧ x ≤ 255) :
    Calls Tryd.prog 15 #[.slice A n c] w fun e w' => e = .returned (.bool true) ∧ Below w.heap.size w w' := by
  by_cases hs0 : 1048576 < (n : Int)
  · go_enter Tryd.func15, Tryd.ntmps15
    go_wp2
    go_ret
    exact ⟨rfl, Below.refl _ _⟩
  have hn : n ≤ 1048576 := by omega
  go_enter Tryd.func15, Tryd.ntmps15
  go_wp2_with (fail)
  refine (drawSlabsOk_st hl hc rd hn hx).mono ?_
  rintro e w1 ⟨⟨v, A4, m, c4, L, A5, m5, c5, ls, A6, m6, c6, Z, rfl, v0, v1, hL, hn9, hls, hn5, hZ, hn6, o1, o2, o3⟩, hb⟩
  clear rd hx hl hc
  obtain ⟨i0, hi, hz0, hz1, hz2⟩ := info_parts info_Slab
  have gp : GP w w1 A4 L := ⟨hb, RdP.of_own o1⟩
  have gl : GI w w1 A5 ls := ⟨hb, RdI.of_own o2⟩
  have gz : PO w w1 62 (.slice A6 m6 c6) m6 Z := ⟨hb, o3⟩
  have HL := Lib.hid hL
  have HS := Lib.hid hls
  have HZ := Lib.hid hZ
  clear o1 o2 o3 hb hL hls hZ
  cases hok : slabsOk v L ls Z
  · go_wp2_with (first
      | (go_at_call 59; refine (implSlabs_any _ _ _ _ L _ _ _ ls _ _ _ Z _ HL.out gp.rd (by omega) HS.out gl.rd (by omega) HZ.out gz.rd (by omega)).mono ?_; rintro e w2 ⟨rfl, hb2⟩; have gp := gp.next hb2; have gl := gl.next hb2; have gz := gz.next hb2)
      | (go_at_call 60; refine (specSlabs_any _ _ _ _ L _ _ _ ls _ _ _ Z _ HL.out gp.rd (by omega) HS.out gl.rd (by omega) HZ.out gz.rd (by omega)).mono ?_; rintro e w2 ⟨rfl, hb2⟩; have gp := gp.next hb2; have gl := gl.next hb2; have gz := gz.next hb2))
    have GPH := Lib.hid gp
    clear gp gl gz hb2
    go_loopw [8] (fun i wr => i = .int .i64 0 ∧ GP w wr A4 L) (fun _ _ => 0)
    case atStart => exact ⟨rfl, GPH.out⟩
    case round =>
      obtain ⟨rfl, gp⟩ := hrel
      by_cases h6 : 0 < m6
      · have B0 : (0 : Int) < m6 := by omega
        go_wp2_with (first
          | (go_at_call 21; refine (alive_any _).mono ?_; rintro e w2 ⟨rfl, hb2⟩; have gp := gp.next hb2))
        go_ret
        exact ⟨rfl, gp.be⟩
      · have B0 : ¬ (0 : Int) < m6 := by omega
        go_wp2_with (first
          | (go_at_call 21; refine (alive_any _).mono ?_; rintro e w2 ⟨rfl, hb2⟩; have gp := gp.next hb2))
        go_ret
        exact ⟨rfl, gp.be⟩
  · have HOK := Lib.hid hok
    have hbad := (slabsOk_facts hok).1
    have hlong := badOk_long hbad
    have HV := Lib.hid hbad
    have HB : Hid (∀ (k : Nat) (x y : Int), L[k]? = some (x, y) → 0 ≤ x ∧ x < y ∧ y ≤ 60) := Lib.hid (fun k x y hk => by have := badOk_facts HV.out hk; omega)
    have HZB : Hid (∀ (k : Nat) (x y : Int), Z[k]? = some (x, y) → 0 ≤ x ∧ x + y ≤ 60 ∧ 1 ≤ y) := Lib.hid (fun k x y hk => by
      obtain ⟨_, h2, h3, _⟩ := slabsOk_seq.1 HOK.out
      have := SeqIn.mem h2 Z 0 h3 (x, y) (List.mem_of_getElem? hk)
      simp only at this; omega)
    clear hbad
    go_wp2_with (first
      | (go_at_call 59; refine (implSlabs_any _ _ _ _ L _ _ _ ls _ _ _ Z _ HL.out gp.rd (by omega) HS.out gl.rd (by omega) HZ.out gz.rd (by omega)).mono ?_; rintro e w2 ⟨rfl, hb2⟩; have gp := gp.next hb2; have gl := gl.next hb2; have gz := gz.next hb2)
      | (go_at_call 60; refine (specSlabs_any _ _ _ _ L _ _ _ ls _ _ _ Z _ HL.out gp.rd (by omega) HS.out gl.rd (by omega) HZ.out gz.rd (by omega)).mono ?_; rintro e w2 ⟨rfl, hb2⟩; have gp := gp.next hb2; have gl := gl.next hb2; have gz := gz.next hb2))
    have GPH := Lib.hid gp
    have GLH := Lib.hid gl
    have GZH := Lib.hid gz
    clear gp gl gz hb2
    go_loopw [8, 9, 10] (fun i j p wr => ∃ k : Nat, k ≤ m6 ∧ i = .int .i64 k ∧ GP w wr A4 L ∧ GI w wr A5 ls ∧ PO w wr 62 (.slice A6 m6 c6) m6 Z) (fun i _ _ _ => m6 - (intOf i).toNat)
    case atStart => exact ⟨0, Nat.zero_le _, rfl, GPH.out, GLH.out, GZH.out⟩
    case round =>
      obtain ⟨k, hk, rfl, gp, gl, gz⟩ := hrel
      clear GPH GLH GZH
      by_cases hlt : k < m6
      · obtain ⟨g, cc, hform, -, -⟩ := own_form gz.own (by omega)
        injection hform with hA _ hC
        subst hA
        clear hC
        have hcap := own_cap gz.own
        obtain ⟨⟨x, y⟩, hxy⟩ : ∃ q, Z[k]? = some q := ⟨_, List.getElem?_eq_getElem (by rw [HZ.out]; omega)⟩
        have HXY := Lib.hid hxy
        obtain ⟨x0, xy1, y1⟩ := HZB.out k x y hxy
        have herase := slabsOk_erase hok k
        have GP1 := Lib.hid gp
        have GL1 := Lib.hid gl
        have GI1 := Lib.hid gz
        have HK : Hid ((Z.take k).length = k) := Lib.hid (by rw [List.length_take, HZ.out]; omega)
        have HD : Hid ((Z.drop (k + 1)).length = m6 - (k + 1)) := Lib.hid (by rw [List.length_drop, HZ.out])
        have B1 : (k : Int) ≤ c6 := by omega
        have B2 : (k : Int) + 1 ≤ m6 := by omega
        have B3 : (k : Int) + 1 ≤ c6 := by omega
        have B4 : (m6 : Int) ≤ c6 := by omega
        have B6 : (k : Int) ≤ (k : Int) + 1 := by omega
        have B7 : 0 ≤ (k : Int) + 1 := by omega
        have W1 : IntKind.i64.wrap ((k : Int) + 1) = k + 1 := IntWalk.i64_in _ (by omega)
        have T1 : ((k : Int) + 1).toNat = k + 1 := by omega
        clear gp gl gz hxy
        by_cases hc4 : k + 1 = c6
        · have hmk : m6 = k + 1 := by omega
          subst hmk
          subst hc4
          have HEE : Hid (Z.take k ++ Z.drop (k + 1) = Z.take k) := Lib.hid (by rw [List.drop_eq_nil_of_le (by rw [HZ.out]; exact Nat.le_refl _), List.append_nil])
          rw [HEE.out] at herase
          go_wp2_with (fail)
          go_region_law (first
            | (refine step_append_own rfl (.tmp 45) (.tmp 48) 25 rfl wr.heap.size 62 i0 _ 2 16 Tryd.underlying25 hi hz0 hz1 hz2 rfl (by decide) (.slice (some ⟨wr.heap.size, 0, none⟩) 0 0) 0 [] rfl (own_made0 (w := wr.drew) (Nat.le_refl _) _ _) ⟨g, 0, none⟩ k (k + 1) (pairsV (Z.take k)) rfl (by rw [pairsV_length, HK.out]) (take_cells2 (GI1.out.own.alloc _) k) pairsV_one (by unfold maxLen; omega) (by omega) (by simp) ?_; intro v5 w5 hown5 hgr5; simp only [Nat.zero_add, List.nil_append] at hown5; have be5 := Below.grown ((Below.refl wr.heap.size wr).drew.alloc (Nat.le_refl _) (.cells #[] 62)) hgr5 (by simp) (fun k hk => own_ge (own_made0 (w := wr.drew) (Nat.le_refl wr.heap.size) 62 2) hk); obtain ⟨A9, c9, rfl⟩ := own_form0 hown5; have gi5 := GI1.out.next be5)
            | (refine step_append_own rfl (.tmp 49) (.tmp 53) 25 rfl wr.heap.size 62 i0 _ 2 16 Tryd.underlying25 hi hz0 hz1 hz2 rfl (by decide) (.slice A9 k c9) k (pairsV (Z.take k)) rfl hown5 ⟨g, 0, none⟩ 0 0 (pairsV []) rfl rfl (by intro j u hu; simp [pairsV] at hu) pairsV_one (by unfold maxLen; omega) (by omega) be5.size ?_; intro v6 w6 hown6 hgr6; rw [← pairsV_append, List.append_nil, Nat.add_zero] at hown6; have be6 := Below.grown be5 hgr6 be5.size (fun k hk => own_ge hown5 hk); obtain ⟨A8, c8, rfl⟩ := own_form0 hown6; have gi6 := GI1.out.next be6; have gl6 := GL1.out.next be6; have gp6 := GP1.out.next be6)
            | (go_simp; go_at_call 59; refine (implSlabs_any _ _ _ _ L _ _ _ ls A8 k c8 (Z.take k) _ HL.out gp6.rd (by omega) HS.out gl6.rd (by omega) HK.out (RdP.of_own hown6) (by omega)).mono ?_; rintro e w7 ⟨rfl, hb7⟩; have gz7 := gi6.next hb7; have gl7 := gl6.next hb7; have gp7 := gp6.next hb7))
          all_goals
            have GP7 := Lib.hid gp7
            have GL7 := Lib.hid gl7
            have GZ7 := Lib.hid gz7
            clear gp7 gl7 gz7 gp6 gl6 gi6 gi5 be5 be6 hown5 hown6 hgr5 hgr6 hb7 W1 T1 B6 B7 B1 B2 B3 B4 herase
            go_wp2_with (fail)
            go_loopw [9, 10] (fun j p wr => ∃ q : Nat, q ≤ m ∧ j = .int .i64 q ∧ GP w wr A4 L ∧ GI w wr A5 ls ∧ PO w wr 62 (.slice (some ⟨g, 0, none⟩) (k + 1) (k + 1)) (k + 1) Z) (fun j _ _ => m - (intOf j).toNat)
            case atStart => exact ⟨0, Nat.zero_le _, rfl, GP7.out, GL7.out, GZ7.out⟩
            case round =>
              obtain ⟨q, hq, rfl, gp, gl, gz⟩ := hrel
              have GPa := Lib.hid gp
              have GLa := Lib.hid gl
              have GZa := Lib.hid gz
              by_cases hlq : q < m
              · obtain ⟨⟨u, z⟩, huz⟩ : ∃ b, L[q]? = some b := ⟨_, List.getElem?_eq_getElem (by rw [HL.out]; omega)⟩
                obtain ⟨b, off, rfl, hbB, hc1, hc2⟩ := gp.rd q u z huz
                obtain ⟨u0, u1, z1⟩ := HB.out q u z huz
                have HUZ := Lib.hid huz
                clear gp gl gz huz
                go_wp2_with (fail)
                go_loopw [10] (fun p wr => ∃ t : Int, p = .int .i64 t ∧ u ≤ t ∧ t ≤ z ∧ GP w wr (some ⟨b, off, none⟩) L ∧ GI w wr A5 ls ∧ PO w wr 62 (.slice (some ⟨g, 0, none⟩) (k + 1) (k + 1)) (k + 1) Z) (fun p _ => (z - intOf p).toNat)
                case atStart => exact ⟨u, rfl, Int.le_refl _, by omega, GPa.out, GLa.out, GZa.out⟩
                case round =>
                  obtain ⟨t, rfl, ht0, ht1, gp, gl, gz⟩ := hrel
                  obtain ⟨b2, off2, e2, hbB2, d1, d2⟩ := gp.rd q u z HUZ.out
                  injection e2 with e2
                  injection e2 with e3 e4
                  subst e3 e4
                  obtain ⟨f1, f2⟩ := own_pair gz.own HXY.out
                  have GPb := Lib.hid gp
                  have GLb := Lib.hid gl
                  have GZb := Lib.hid gz
                  clear gp gl gz hc1 hc2
                  by_cases htz : t < z
                  · have hgood := slabs_good HOK.out HXY.out HUZ.out ht0 htz
                    have W3 : IntKind.i64.wrap (x + y) = x + y := IntWalk.i64_in _ (by omega)
                    by_cases hxt : x ≤ t
                    · have D1 : decide (x ≤ t) = true := decide_eq_true hxt
                      have D2 : decide (t < x + y) = false := decide_eq_false (fun h => hgood ⟨hxt, h⟩)
                      clear hgood
                      go_wp2_with (fail)
                      go_quiet (fail)
                      clear W3
                      go_wp2
                      go_roundw
                      case rel => exact ⟨t + 1, by go_num, by omega, by omega, GPb.out.next (below_drawn (Below.refl _ _) _), GLb.out.next (below_drawn (Below.refl _ _) _), GZb.out.next (below_drawn (Below.refl _ _) _)⟩
                      case measure => simp [intOf] <;> omega
                    · have D1 : decide (x ≤ t) = false := decide_eq_false hxt
                      clear hgood
                      go_wp2_with (fail)
                      go_quiet (fail)
                      clear W3
                      go_wp2
                      go_roundw
                      case rel => exact ⟨t + 1, by go_num, by omega, by omega, GPb.out.next (below_drawn (Below.refl _ _) _), GLb.out.next (below_drawn (Below.refl _ _) _), GZb.out.next (below_drawn (Below.refl _ _) _)⟩
                      case measure => simp [intOf] <;> omega
                  · go_wp2
                    go_roundw
                    case rel => exact ⟨q + 1, by omega, by go_num, GPb.out, GLb.out, GZb.out⟩
                    case measure => simp [intOf] <;> omega
              · clear gp gl gz
                go_wp2
                go_roundw
                case rel => exact ⟨k + 1, by omega, by go_num, GPa.out, GLa.out, GZa.out⟩
                case measure => simp [intOf] <;> omega
        · have B5 : (k : Int) + 1 < c6 := by omega
          have hc5 : ¬ c6 = k + 1 := by omega
          go_wp2_with (fail)
          go_region_law (first
            | (refine step_append_own rfl (.tmp 45) (.tmp 48) 25 rfl wr.heap.size 62 i0 _ 2 16 Tryd.underlying25 hi hz0 hz1 hz2 rfl (by decide) (.slice (some ⟨wr.heap.size, 0, none⟩) 0 0) 0 [] rfl (own_made0 (w := wr.drew) (Nat.le_refl _) _ _) ⟨g, 0, none⟩ k c6 (pairsV (Z.take k)) rfl (by rw [pairsV_length, HK.out]) (take_cells2 (GI1.out.own.alloc _) k) pairsV_one (by unfold maxLen; omega) (by omega) (by simp) ?_; intro v5 w5 hown5 hgr5; simp only [Nat.zero_add, List.nil_append] at hown5; have be5 := Below.grown ((Below.refl wr.heap.size wr).drew.alloc (Nat.le_refl _) (.cells #[] 62)) hgr5 (by simp) (fun k hk => own_ge (own_made0 (w := wr.drew) (Nat.le_refl wr.heap.size) 62 2) hk); obtain ⟨A9, c9, rfl⟩ := own_form0 hown5; have gi5 := GI1.out.next be5)
            | (refine step_append_own rfl (.tmp 49) (.tmp 53) 25 rfl wr.heap.size 62 i0 _ 2 16 Tryd.underlying25 hi hz0 hz1 hz2 rfl (by decide) (.slice A9 k c9) k (pairsV (Z.take k)) rfl hown5 ⟨g, (k + 1) * 2, none⟩ (m6 - (k + 1)) (c6 - (k + 1)) (pairsV (Z.drop (k + 1))) rfl (by rw [pairsV_length, HD.out]) (drop_cells2 gi5.own (k + 1)) pairsV_one (by unfold maxLen; omega) (by omega) be5.size ?_; intro v6 w6 hown6 hgr6; rw [← pairsV_append] at hown6; have hkm : k + (m6 - (k + 1)) = m6 - 1 := (by omega); rw [hkm] at hown6; have be6 := Below.grown be5 hgr6 be5.size (fun k hk => own_ge hown5 hk); obtain ⟨A8, c8, rfl⟩ := own_form0 hown6; have gi6 := GI1.out.next be6; have gl6 := GL1.out.next be6; have gp6 := GP1.out.next be6)
            | (go_simp; go_at_call 59; refine (implSlabs_any _ _ _ _ L _ _ _ ls A8 (m6 - 1) c8 (Z.take k ++ Z.drop (k + 1)) _ HL.out gp6.rd (by omega) HS.out gl6.rd (by omega) (by rw [List.length_append, HK.out, HD.out]; omega) (RdP.of_own hown6) (by omega)).mono ?_; rintro e w7 ⟨rfl, hb7⟩; have gz7 := gi6.next hb7; have gl7 := gl6.next hb7; have gp7 := gp6.next hb7))
          all_goals
            have GP7 := Lib.hid gp7
            have GL7 := Lib.hid gl7
            have GZ7 := Lib.hid gz7
            clear gp7 gl7 gz7 gp6 gl6 gi6 gi5 be5 be6 hown5 hown6 hgr5 hgr6 hb7 W1 T1 B6 B7 B1 B2 B3 B4 herase
            go_wp2_with (fail)
            go_loopw [9, 10] (fun j p wr => ∃ q : Nat, q ≤ m ∧ j = .int .i64 q ∧ GP w wr A4 L ∧ GI w wr A5 ls ∧ PO w wr 62 (.slice (some ⟨g, 0, none⟩) m6 c6) m6 Z) (fun j _ _ => m - (intOf j).toNat)
            case atStart => exact ⟨0, Nat.zero_le _, rfl, GP7.out, GL7.out, GZ7.out⟩
            case round =>
              obtain ⟨q, hq, rfl, gp, gl, gz⟩ := hrel
              have GPa := Lib.hid gp
              have GLa := Lib.hid gl
              have GZa := Lib.hid gz
              by_cases hlq : q < m
              · obtain ⟨⟨u, z⟩, huz⟩ : ∃ b, L[q]? = some b := ⟨_, List.getElem?_eq_getElem (by rw [HL.out]; omega)⟩
                obtain ⟨b, off, rfl, hbB, hc1, hc2⟩ := gp.rd q u z huz
                obtain ⟨u0, u1, z1⟩ := HB.out q u z huz
                have HUZ := Lib.hid huz
                clear gp gl gz huz
                go_wp2_with (fail)
                go_loopw [10] (fun p wr => ∃ t : Int, p = .int .i64 t ∧ u ≤ t ∧ t ≤ z ∧ GP w wr (some ⟨b, off, none⟩) L ∧ GI w wr A5 ls ∧ PO w wr 62 (.slice (some ⟨g, 0, none⟩) m6 c6) m6 Z) (fun p _ => (z - intOf p).toNat)
                case atStart => exact ⟨u, rfl, Int.le_refl _, by omega, GPa.out, GLa.out, GZa.out⟩
                case round =>
                  obtain ⟨t, rfl, ht0, ht1, gp, gl, gz⟩ := hrel
                  obtain ⟨b2, off2, e2, hbB2, d1, d2⟩ := gp.rd q u z HUZ.out
                  injection e2 with e2
                  injection e2 with e3 e4
                  subst e3 e4
                  obtain ⟨f1, f2⟩ := own_pair gz.own HXY.out
                  have GPb := Lib.hid gp
                  have GLb := Lib.hid gl
                  have GZb := Lib.hid gz
                  clear gp gl gz hc1 hc2
                  by_cases htz : t < z
                  · have hgood := slabs_good HOK.out HXY.out HUZ.out ht0 htz
                    have W3 : IntKind.i64.wrap (x + y) = x + y := IntWalk.i64_in _ (by omega)
                    by_cases hxt : x ≤ t
                    · have D1 : decide (x ≤ t) = true := decide_eq_true hxt
                      have D2 : decide (t < x + y) = false := decide_eq_false (fun h => hgood ⟨hxt, h⟩)
                      clear hgood
                      go_wp2_with (fail)
                      go_quiet (fail)
                      clear W3
                      go_wp2
                      go_roundw
                      case rel => exact ⟨t + 1, by go_num, by omega, by omega, GPb.out.next (below_drawn (Below.refl _ _) _), GLb.out.next (below_drawn (Below.refl _ _) _), GZb.out.next (below_drawn (Below.refl _ _) _)⟩
                      case measure => simp [intOf] <;> omega
                    · have D1 : decide (x ≤ t) = false := decide_eq_false hxt
                      clear hgood
                      go_wp2_with (fail)
                      go_quiet (fail)
                      clear W3
                      go_wp2
                      go_roundw
                      case rel => exact ⟨t + 1, by go_num, by omega, by omega, GPb.out.next (below_drawn (Below.refl _ _) _), GLb.out.next (below_drawn (Below.refl _ _) _), GZb.out.next (below_drawn (Below.refl _ _) _)⟩
                      case measure => simp [intOf] <;> omega
                  · go_wp2
                    go_roundw
                    case rel => exact ⟨q + 1, by omega, by go_num, GPb.out, GLb.out, GZb.out⟩
                    case measure => simp [intOf] <;> omega
              · clear gp gl gz
                go_wp2
                go_roundw
                case rel => exact ⟨k + 1, by omega, by go_num, GPa.out, GLa.out, GZa.out⟩
                case measure => simp [intOf] <;> omega
      · go_wp2_with (first
          | (go_at_call 21; refine (alive_any _).mono ?_; rintro e w2 ⟨rfl, hb2⟩; have gp := gp.next hb2))
        go_ret
        exact ⟨rfl, gp.be⟩
end Go.Proofs.YtcegmlogjbnoeaaDoor
