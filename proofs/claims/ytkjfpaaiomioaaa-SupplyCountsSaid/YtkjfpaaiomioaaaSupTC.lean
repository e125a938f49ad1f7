/- The program's supply: Ternary's closure. -/
import Derived.Test.YtkjfpaaiomioaaaSupTP
import Derived.Test.YtkjfpaaiomioaaaSupL
namespace Go.Proofs.Ytkjfpaaiomioaaa
open Go.RowKit Go.Shelf

theorem enters_ternaryC : ∀ args w, (callFunc 28 args).run Try.prog w = .ok (.enter 28 args) w := enters_of Try.func28 (by kernel_rfl) rfl

/-- What Ternary's closure comes to. -/
def TernPost (w : World) (b g k : Nat) (s : ByteArray) (r : Option (List Int × List Int × Nat)) (en : Ending) (w' : World) : Prop :=
  match r with
  | some (_, O, d) => en = .returned (.bool true) ∧ SupAt w' b s d ∧ IntRow w' k 40 .i8 O ∧ Turn w w' [b, g, k]
  | none => en = .returned (.bool false) ∧ (∃ d, SupAt w' b s d) ∧ Turn w w' [b, g, k]

set_option maxHeartbeats 1000000 in
theorem ternaryC_any (b y o p q z g u : Nat) (s : ByteArray) (c n h : Nat) (w : World) (hs : s.size ≤ 1048576) (hc : c ≤ 8 * s.size) (hn : n ≤ 4096) (hh : h ≤ n) (hS : SupAt w b s c)
    (hy : w.cell? ⟨y, 0, none⟩ = some (.int .i64 h)) (hp : w.cell? ⟨p, 0, none⟩ = some (.pointer (some ⟨b, 0, none⟩))) (hq : w.cell? ⟨q, 0, none⟩ = some (.int .i64 n))
    (ho : w.cell? ⟨o, 0, none⟩ = some (.slice (some ⟨g, 0, none⟩) n n)) (hz : w.cell? ⟨z, 0, none⟩ = some (.slice (some ⟨u, 0, none⟩) n n))
    (hg : IntRow w g 3 .i64 ((List.range n).map (fun k : Nat => (k : Int)))) (hu : IntRow w u 40 .i8 (List.replicate n 0))
    (m1 : y ∉ [b, g, u]) (m2 : p ∉ [b, g, u]) (m3 : q ∉ [b, g, u]) (m4 : o ∉ [b, g, u]) (m5 : z ∉ [b, g, u]) (m6 : g ≠ b) (m7 : u ≠ b) (m8 : g ≠ u) :
    Calls Try.prog 28 #[.pointer (some ⟨y, 0, none⟩), .pointer (some ⟨p, 0, none⟩), .pointer (some ⟨q, 0, none⟩), .pointer (some ⟨o, 0, none⟩), .pointer (some ⟨z, 0, none⟩)] w (TernPost w b g u s (ternF s n h c)) := by
  obtain ⟨r, hr⟩ : ∃ r, ternF s n h c = r := ⟨_, rfl⟩
  rw [hr]
  have HR := Lib.hid hr
  clear hr
  go_enter Try.func28, Try.ntmps28
  go_wp2
  go_loopw [12] (fun i wr => ∃ (k d : Nat) (L O : List Int), k ≤ h ∧ i = .int .i64 k ∧ d ≤ 8 * s.size ∧ Hid (ternF s n k c = some (L, O, d)) ∧ SupAt wr b s d ∧ IntRow wr g 3 .i64 L ∧ IntRow wr u 40 .i8 O ∧ Turn w wr [b, g, u]) (fun i _ => h - (intOf i).toNat)
  case atStart => exact ⟨0, c, _, _, Nat.zero_le _, rfl, hc, Lib.hid rfl, hS, hg, hu, Turn.refl _ _⟩
  case round =>
    obtain ⟨k, d, L, O, hk, rfl, hd, HT, hSr, hgr, hur, hT⟩ := hrel
    have gy := hT.cell hy m1
    have gp := hT.cell hp m2
    have gq := hT.cell hq m3
    have go := hT.cell ho m4
    have gz := hT.cell hz m5
    by_cases hlt : k < h
    · rcases hb : belowL s (n - k) d with _ | ⟨v, d'⟩
      · have H := below_any b s d (n - k) wr hs hd (by omega) (by omega) hSr
        rw [hb] at H
        have HB := Lib.hid hb
        have HH := Lib.hid H
        clear hb H
        have e1 : ((n : Int) - (k : Int)) = ((n - k : Nat) : Int) := by omega
        go_wp2_with fail
        refine HH.out.mono ?_
        rintro e w1 ⟨rfl, ⟨d2, hd2, hS1⟩, hg1⟩
        have hT2 := hT.trans (Turn.of_grown hg1 (S := [b, g, u]) (by simp))
        have gp1 := hT2.cell hp m2
        have hn := ternF_none (ternF_stop HT.out HB.out) h (by omega)
        have HN := Lib.hid hn
        clear hn e1
        by_cases h5 : d2 + 1 ≤ 8 * s.size
        · go_wp2_with fail
          refine (some_yes b s d2 1 _ hs (by omega) h5 hS1).mono ?_
          rintro e w2 ⟨rfl, hS2, hg2⟩
          go_wp2
          go_ret
          rw [← HR.out, HN.out]
          exact ⟨rfl, ⟨_, hS2⟩, hT2.trans (Turn.of_grown hg2 (by simp))⟩
        · go_wp2_with fail
          refine (some_no b s d2 1 _ hs hd2 (by omega) (by omega) hS1).mono ?_
          rintro e w2 ⟨rfl, x, rfl⟩
          go_wp2
          go_ret
          rw [← HR.out, HN.out]
          exact ⟨rfl, ⟨_, hS1⟩, hT2.drewN x⟩
      · have H := below_any b s d (n - k) wr hs hd (by omega) (by omega) hSr
        rw [hb] at H
        have hbs := belowL_spec hb
        have hv : v ≤ 4096 := by omega
        have hkv : k + v < n := by omega
        have HB := Lib.hid hb
        have HH := Lib.hid H
        clear hb H
        have e1 : ((n : Int) - (k : Int)) = ((n - k : Nat) : Int) := by omega
        go_wp2_with fail
        refine HH.out.mono ?_
        rintro e w1 ⟨rfl, hS1, hg1⟩
        have hT2 := hT.trans (Turn.of_grown hg1 (S := [b, g, u]) (by simp))
        have gp1 := hT2.cell hp m2
        clear e1
        by_cases h5 : d' + 1 ≤ 8 * s.size
        · go_wp2_with fail
          refine (some_yes b s d' 1 _ hs (by omega) h5 hS1).mono ?_
          rintro e w2 ⟨rfl, hS2, hg2⟩
          have hT3 := hT2.trans (Turn.of_grown hg2 (S := [b, g, u]) (by simp))
          have hT4 := (Turn.of_grown hg1 (S := [b]) (by simp)).trans (Turn.of_grown hg2 (S := [b]) (by simp))
          have go3 := hT3.cell ho m4
          have gz3 := hT3.cell hz m5
          have hgr3 := hgr.turn hT4 (by simpa using m6)
          have hur3 := hur.turn hT4 (by simpa using m7)
          obtain ⟨l1, l2, l3, l4⟩ := ternF_spec hc (by omega) HT.out
          have mX := l3 _ (mem_getD (L := L) (i := k + v) (by omega))
          have c1 := hgr3.cell k (by omega)
          have c2 := hgr3.cell (k + v) (by omega)
          have f1 := hgr3.free k
          have f2 := hgr3.free (k + v)
          have HN : Hid (ternF s n (k + 1) c = some (swapL L k (k + v), O.set (L.getD (k + v) 0).toNat (1 - 2 * (bitAt s d' : Int)), d' + 1)) := by
            have h1 := ternF_more HT.out HB.out (by omega)
            rw [getD_swapL_lo _ _ _ (by omega) (by omega)] at h1
            exact h1
          have HW : Hid (swapL L k (k + v) = (L.set k (L.getD (k + v) 0)).set (k + v) (L.getD k 0)) := rfl
          have hval : valAt s d' 1 = bitAt s d' := by simp [valAt]
          rw [hval]
          have hbit := bitAt_lt s d'
          clear hval
          obtain ⟨X, hX⟩ : ∃ X, L.getD (k + v) 0 = X := ⟨_, rfl⟩
          obtain ⟨Y, hY⟩ : ∃ Y, L.getD k 0 = Y := ⟨_, rfl⟩
          have hXY : v = 0 → X = Y := by rintro rfl; rw [← hX, ← hY, Nat.add_zero]
          rw [hX] at c2 HN HW mX
          rw [hY] at c1 HW
          obtain ⟨x, rfl⟩ := Int.eq_ofNat_of_zero_le mX.1
          have hx : x < n := by omega
          rw [Int.toNat_natCast] at HN
          have c3 := hur3.cell x (by omega)
          have f3 := hur3.free x
          have HX := Lib.hid hX
          have HY := Lib.hid hY
          have hug : ¬ u = g := m8.symm
          have hgu : ¬ g = u := m8
          have hog : ¬ o = g := by intro e; exact m4 (by simp [e])
          have hzg : ¬ z = g := by intro e; exact m5 (by simp [e])
          have hgo : ¬ g = o := fun e => hog e.symm
          have hgz : ¬ g = z := fun e => hzg e.symm
          obtain ⟨Z, hZ⟩ : ∃ Z, O.getD x 0 = Z := ⟨_, rfl⟩
          rw [hZ] at c3
          clear hX hY hZ l1 l2 l3 mX HH
          by_cases hv0 : v = 0
          · have hxy := hXY hv0
            subst hxy
            subst hv0
            clear hXY
            rw [Nat.add_zero] at c2 f2
            clear c2 f2
            go_wp2
            go_region
            go_wp2
            go_region
            go_wp2
            go_roundw
            case rel =>
              refine ⟨k + 1, d' + 1, _, _, by omega, by go_num, by omega, HN, ((((hS2.other m6.symm _).other m6.symm _).other m7.symm _)), ?_, ?_, ?_⟩
              · rw [HW.out]
                exact (((hgr3.set k _).set k _).other m8 _)
              · exact ((hur3.other m8.symm _).other m8.symm _).set x _
              · exact ((((hT3.setCell (.inl (by simp)) _).setCell (.inl (by simp)) _).setCell (.inl (by simp)) _).drew).drew
            case measure => simp [intOf]; omega
          · have hv1 : 1 ≤ v := by omega
            clear hXY hv0
            go_wp2
            go_region
            go_wp2
            go_region
            go_wp2
            go_roundw
            case rel =>
              refine ⟨k + 1, d' + 1, _, _, by omega, by go_num, by omega, HN, ((((hS2.other m6.symm _).other m6.symm _).other m7.symm _)), ?_, ?_, ?_⟩
              · rw [HW.out]
                exact (((hgr3.set k _).set (k + v) _).other m8 _)
              · exact ((hur3.other m8.symm _).other m8.symm _).set x _
              · exact ((((hT3.setCell (.inl (by simp)) _).setCell (.inl (by simp)) _).setCell (.inl (by simp)) _).drew).drew
            case measure => simp [intOf]; omega
        · go_wp2_with fail
          refine (some_no b s d' 1 _ hs hbs.2.2 (by omega) (by omega) hS1).mono ?_
          rintro e w2 ⟨rfl, x, rfl⟩
          go_wp2
          go_ret
          have hn := ternF_none (ternF_short HT.out HB.out (by omega)) h (by omega)
          rw [← HR.out, hn]
          exact ⟨rfl, ⟨_, hS1⟩, hT2.drewN x⟩
    · go_wp2
      go_ret
      obtain rfl : k = h := by omega
      rw [← HR.out, HT.out]
      exact ⟨rfl, hSr, hur, hT⟩
end Go.Proofs.Ytkjfpaaiomioaaa
