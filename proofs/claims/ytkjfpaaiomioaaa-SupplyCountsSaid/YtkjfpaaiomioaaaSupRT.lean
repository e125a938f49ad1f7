/- The reference's supply: Ternary. -/
import Derived.Test.YtkjfpaaiomioaaaSupRU
import Derived.Test.YtkjfpaaiomioaaaSupTM
namespace Go.Proofs.Ytkjfpaaiomioaaa
open Go.RowKit Go.Shelf

set_option maxRecDepth 100000 in
set_option maxHeartbeats 4000000 in
theorem rternary (b : Nat) (s : ByteArray) (c : Nat) (n h : Int) (w : World) (hs : s.size ≤ 1048576) (hc : c ≤ 8 * s.size) (hS : RefAt w b s c) :
    Calls Try.prog 35 #[.pointer (some ⟨b, 0, none⟩), .int .i64 n, .int .i64 h] w (RListPost w b s 40 .i8 (ternaryR s c n h)) := by
  have hb := hS.lt
  have h0 := hS.c1
  obtain ⟨r, hr⟩ : ∃ r, ternaryR s c n h = r := ⟨_, rfl⟩
  rw [hr]
  have HR := Lib.hid hr
  clear hr
  by_cases h1 : n < 1 ∨ 4096 < n ∨ h < 0 ∨ n < h
  · have e : r = ([], 2, c) := by rw [← HR.out, ternaryR, if_pos h1]
    subst e
    by_cases h2 : n < 1
    · go_enter Try.func35, Try.ntmps35
      go_wp2
      go_ret2
      exact rlistPost_nil hS (Turn.refl _ _)
    by_cases h3 : 4096 < n
    · go_enter Try.func35, Try.ntmps35
      go_wp2
      go_ret2
      exact rlistPost_nil hS (Turn.refl _ _)
    by_cases h4 : h < 0
    · clear h1
      go_enter Try.func35, Try.ntmps35
      go_wp2
      go_ret2
      exact rlistPost_nil hS (Turn.refl _ _)
    · have h5 : n < h := by omega
      clear h1
      go_enter Try.func35, Try.ntmps35
      go_wp2
      go_ret2
      exact rlistPost_nil hS (Turn.refl _ _)
  · have e : r = ternaryR s c n h := HR.out.symm
    rw [ternaryR, if_neg h1] at e
    have h2 : ¬ n < 1 := by omega
    have h3 : ¬ 4096 < n := by omega
    have h4 : ¬ h < 0 := by omega
    have h5 : ¬ n < h := by omega
    clear h1
    obtain ⟨k, rfl⟩ := Int.eq_ofNat_of_zero_le (show 0 ≤ n by omega)
    obtain ⟨j, rfl⟩ := Int.eq_ofNat_of_zero_le (show 0 ≤ h by omega)
    rw [Int.toNat_natCast, Int.toNat_natCast] at e
    have HE := Lib.hid e
    clear e
    have hmk := mk_int k (by omega)
    have hmk8 := mk_i8 k (by omega)
    have hjk : j ≤ k := by omega
    have hk4 : k ≤ 4096 := by omega
    have hrow0 : IntRow (w.alloc (.cells (zeroRow .i64 k) 3)) w.heap.size 3 .i64 (List.replicate k 0) := zeroRow_is (heap_alloc_new w _)
    have HR0 := Lib.hid hrow0
    clear hrow0
    go_enter Try.func35, Try.ntmps35
    go_wp2
    go_loopw [10] (fun i wr => ∃ m : Nat, m ≤ k ∧ i = .int .i64 m ∧ IntRow wr w.heap.size 3 .i64 ((List.range m).map (fun t : Nat => (t : Int)) ++ List.replicate (k - m) 0) ∧ Turn w wr []) (fun i _ => k - (intOf i).toNat)
    case atStart => exact ⟨0, Nat.zero_le _, rfl, HR0.out, (Turn.refl _ _).alloc _⟩
    case round =>
      obtain ⟨m, hm, rfl, hrow, hT⟩ := hrel
      by_cases hlt : m < k
      · have cm := hrow.cell m (by simp; omega)
        have fm := hrow.free m
        go_wp2
        go_roundw
        case rel =>
          refine ⟨m + 1, by omega, by go_num, ?_, hT.setCell (.inr (by simp)) _⟩
          have hset := hrow.set m m
          have e1 := fill_set ((List.range m).map (fun t : Nat => (t : Int))) (m : Int) 0 k (by simp; omega)
          rw [List.length_map, List.length_range] at e1
          rw [e1] at hset
          rw [List.range_succ, List.map_append]
          exact hset
        case measure => simp [intOf]; omega
      · obtain rfl : m = k := by omega
        obtain ⟨wo, rfl⟩ : ∃ wo : World, wo = wr := ⟨_, rfl⟩
        rw [Nat.sub_self, List.replicate_zero, List.append_nil] at hrow
        have hSw : RefAt wo b s c := hS.turn hT (by simp)
        have hsz : w.heap.size < wo.heap.size := hrow.lt
        have hu0 : IntRow (wo.alloc (.cells (zeroRow .i8 m) 40)) wo.heap.size 40 .i8 (List.replicate m 0) := zeroRow_is (heap_alloc_new wo _)
        have HU0 := Lib.hid hu0
        have HROW := Lib.hid hrow
        clear hu0 hrow
        have hgu : ¬ w.heap.size = wo.heap.size := by omega
        have hug : ¬ wo.heap.size = w.heap.size := by omega
        have hgb : w.heap.size ≠ b := by omega
        have hub : wo.heap.size ≠ b := by omega
        go_wp2
        go_loopw [12] (fun i wr => ∃ (i' d : Nat) (L O : List Int), i' ≤ j ∧ i = .int .i64 i' ∧ d ≤ 8 * s.size ∧ Hid (ternF s m i' c = some (L, O, d)) ∧ RefAt wr b s d ∧ IntRow wr w.heap.size 3 .i64 L ∧ IntRow wr wo.heap.size 40 .i8 O ∧ Turn w wr [b]) (fun i _ => j - (intOf i).toNat)
        case atStart => exact ⟨0, c, _, _, Nat.zero_le _, rfl, hc, Lib.hid rfl, hSw.alloc _, (heap_past _ _ _ hsz).trans HROW.out, HU0.out, (Turn.of_below (hT.alloc _).below)⟩
        case round =>
          obtain ⟨k, d, L, O, hk, rfl, hd, HT, hSr, hgr, hur, hTv⟩ := hrel
          by_cases hlt : k < j
          · rcases hb' : belowL s (m - k) d with _ | ⟨v, d'⟩
            · have H := rbelow_any b s d (m - k) wr hs hd (by omega) (by omega) hSr
              rw [hb'] at H
              have HB := Lib.hid hb'
              have HH := Lib.hid H
              clear hb' H
              have e1 : ((m : Int) - (k : Int)) = ((m - k : Nat) : Int) := by omega
              go_wp2_with fail
              refine HH.out.mono ?_
              rintro e w1 ⟨rfl, ⟨d2, hd2, hS1⟩, hg1⟩
              have hT2 := hTv.trans (Turn.of_grown hg1 (S := [b]) (by simp))
              have hn := ternF_none (ternF_stop HT.out HB.out) j (by omega)
              have HN := Lib.hid hn
              clear hn e1
              by_cases h5 : d2 < 8 * s.size
              · go_wp2_with fail
                refine (rbit_yes b s d2 _ hs h5 hS1).mono ?_
                rintro e w2 ⟨rfl, hS2, hg2⟩
                have k1 := hS2.c1
                have k2 := hS2.f1
                go_wp2
                go_ret2
                have e : r = ([], 4, c) := by rw [HE.out, HN.out]
                subst e
                exact rlistPost_nil (hS2.set c) ((hT2.trans (Turn.of_grown hg2 (by simp))).setCell (.inl (by simp)) _)
              · go_wp2_with fail
                refine (rbit_no b s d2 _ hs (by omega) hS1).mono ?_
                rintro e w2 ⟨rfl, x, rfl⟩
                have k1 := hS1.c1
                have k2 := hS1.f1
                go_wp2
                go_ret2
                have e : r = ([], 4, c) := by rw [HE.out, HN.out]
                subst e
                exact rlistPost_nil (((hS1.drewN x).set c)) ((hT2.drewN x).setCell (.inl (by simp)) _)
            · have H := rbelow_any b s d (m - k) wr hs hd (by omega) (by omega) hSr
              rw [hb'] at H
              have hbs := belowL_spec hb'
              have hv : v ≤ 4096 := by omega
              have hkv : k + v < m := by omega
              have HB := Lib.hid hb'
              have HH := Lib.hid H
              clear hb' H
              have e1 : ((m : Int) - (k : Int)) = ((m - k : Nat) : Int) := by omega
              go_wp2_with fail
              refine HH.out.mono ?_
              rintro e w1 ⟨rfl, hS1, hg1⟩
              have hT2 := hTv.trans (Turn.of_grown hg1 (S := [b]) (by simp))
              clear e1
              by_cases h5 : d' < 8 * s.size
              · go_wp2_with fail
                refine (rbit_yes b s d' _ hs h5 hS1).mono ?_
                rintro e w2 ⟨rfl, hS2, hg2⟩
                have hT3 := hT2.trans (Turn.of_grown hg2 (S := [b]) (by simp))
                have hT4 := (Turn.of_grown hg1 (S := [b]) (by simp)).trans (Turn.of_grown hg2 (S := [b]) (by simp))
                have hgr3 := hgr.turn hT4 (by simpa using hgb)
                have hur3 := hur.turn hT4 (by simpa using hub)
                obtain ⟨l1, l2, l3, l4⟩ := ternF_spec hc (by omega) HT.out
                have mX := l3 _ (mem_getD (L := L) (i := k + v) (by omega))
                have c1 := hgr3.cell k (by omega)
                have c2 := hgr3.cell (k + v) (by omega)
                have f1 := hgr3.free k
                have f2 := hgr3.free (k + v)
                have HN : Hid (ternF s m (k + 1) c = some (swapL L k (k + v), O.set (L.getD (k + v) 0).toNat (1 - 2 * (bitAt s d' : Int)), d' + 1)) := by
                  have h1 := ternF_more HT.out HB.out h5
                  rw [getD_swapL_lo _ _ _ (by omega) (by omega)] at h1
                  exact h1
                have HW : Hid (swapL L k (k + v) = (L.set k (L.getD (k + v) 0)).set (k + v) (L.getD k 0)) := rfl
                have hbit := bitAt_lt s d'
                obtain ⟨X, hX⟩ : ∃ X, L.getD (k + v) 0 = X := ⟨_, rfl⟩
                obtain ⟨Y, hY⟩ : ∃ Y, L.getD k 0 = Y := ⟨_, rfl⟩
                have hXY : v = 0 → X = Y := by rintro rfl; rw [← hX, ← hY, Nat.add_zero]
                rw [hX] at c2 HN HW mX
                rw [hY] at c1 HW
                obtain ⟨x, rfl⟩ := Int.eq_ofNat_of_zero_le mX.1
                have hx : x < m := by omega
                rw [Int.toNat_natCast] at HN
                have c3 := hur3.cell x (by omega)
                have f3 := hur3.free x
                obtain ⟨Z, hZ⟩ : ∃ Z, O.getD x 0 = Z := ⟨_, rfl⟩
                rw [hZ] at c3
                clear hX hY hZ l1 l2 l3 mX HH
                by_cases hv0 : v = 0
                · have hxy := hXY hv0
                  subst hxy
                  subst hv0
                  clear hXY
                  rw [Nat.add_zero] at c2 f2
                  clear c2 f2
                  go_wp2
                  go_region
                  go_wp2
                  go_roundw
                  case rel =>
                    refine ⟨k + 1, d' + 1, _, _, by omega, by go_num, by omega, HN, ((((hS2.other hgb.symm _).other hgb.symm _).other hub.symm _)), ?_, ?_, ?_⟩
                    · rw [HW.out]
                      exact (((hgr3.set k _).set k _).other hgu _)
                    · exact ((hur3.other hug _).other hug _).set x _
                    · exact (((hT3.setCell (p := ⟨w.heap.size, k, none⟩) (.inr (Nat.le_refl _)) _).setCell (p := ⟨w.heap.size, k, none⟩) (.inr (Nat.le_refl _)) _).setCell (p := ⟨wo.heap.size, x, none⟩) (.inr (Nat.le_of_lt hsz)) _).drew
                  case measure => simp [intOf]; omega
                · have hv1 : 1 ≤ v := by omega
                  clear hXY hv0
                  go_wp2
                  go_region
                  go_wp2
                  go_roundw
                  case rel =>
                    refine ⟨k + 1, d' + 1, _, _, by omega, by go_num, by omega, HN, ((((hS2.other hgb.symm _).other hgb.symm _).other hub.symm _)), ?_, ?_, ?_⟩
                    · rw [HW.out]
                      exact (((hgr3.set k _).set (k + v) _).other hgu _)
                    · exact ((hur3.other hug _).other hug _).set x _
                    · exact (((hT3.setCell (p := ⟨w.heap.size, k, none⟩) (.inr (Nat.le_refl _)) _).setCell (p := ⟨w.heap.size, k + v, none⟩) (.inr (Nat.le_refl _)) _).setCell (p := ⟨wo.heap.size, x, none⟩) (.inr (Nat.le_of_lt hsz)) _).drew
                  case measure => simp [intOf]; omega
              · go_wp2_with fail
                refine (rbit_no b s d' _ hs (by omega) hS1).mono ?_
                rintro e w2 ⟨rfl, x, rfl⟩
                have k1 := hS1.c1
                have k2 := hS1.f1
                have hn := ternF_none (ternF_short HT.out HB.out h5) j (by omega)
                have HN := Lib.hid hn
                clear hn
                go_wp2
                go_ret2
                have e : r = ([], 4, c) := by rw [HE.out, HN.out]
                subst e
                exact rlistPost_nil (((hS1.drewN x).set c)) ((hT2.drewN x).setCell (.inl (by simp)) _)
          · obtain rfl : k = j := by omega
            go_wp2
            go_ret2
            have e : r = (O, 0, d) := by rw [HE.out, HT.out]
            subst e
            exact rlistPost_row hur (ternF_spec hc (by omega) HT.out).2.1 (by omega) (by omega) hSr hTv
end Go.Proofs.Ytkjfpaaiomioaaa
