/- The statements' lend of a ciphertext. (Printed by genlend.py.)
The examples' two ciphertexts. -/
import Derived.Test.YtcipjbckcnkfaaaGreatPs39
import Derived.Test.YtcipjbckcnkfaaaGreatPs44
set_option linter.unusedSimpArgs false
set_option linter.unusedVariables false
namespace Go.Proofs.YtcipjbckcnkfaaaGreat
open Go.RowKit Go.Shelf
attribute [local go_sem ↓] Go.wp_at_zero Go.wp_at_succ

theorem take_snoc {α : Type} (l : List α) (d : α) (k : Nat) (h : k < l.length) : l.take (k + 1) = l.take k ++ [l.getD k d] := by
  rw [List.take_add_one, List.getD_eq_getElem?_getD, List.getElem?_eq_getElem h]
  rfl
theorem take_len {α : Type} (l : List α) (k : Nat) (h : k ≤ l.length) : (l.take k).length = k := by rw [List.length_take]; omega

set_option maxHeartbeats 6400000 in
set_option maxRecDepth 100000 in
theorem lend16_walk (C : Ci) (ao : Option Addr) (cA : Nat) (w : World) (hn : C.parts.length ≤ 1000) (hf : ∀ i, i < C.parts.length → (C.part i).rows.length ≤ 1000 ∧ ∀ j, j < (C.part i).rows.length → ((C.part i).row j).length ≤ 1000000) (h1 : RdE w ao C.parts) :
    Calls Tryz.prog 9 #[C.val ao cA] w fun e w' => (∃ v, e = .returned v ∧ GiveCi w.heap.size C v w') ∧ Below w.heap.size w w' := by
  have HR := Lib.hid h1
  have HF := Lib.hid hf
  obtain ⟨n, hn'⟩ : ∃ n, C.parts.length = n := ⟨_, rfl⟩
  have HL := Lib.hid hn'
  obtain ⟨L, hL⟩ : ∃ L, C.level = L := ⟨_, rfl⟩
  obtain ⟨X, hX⟩ : ∃ X, C.exponent = X := ⟨_, rfl⟩
  have HLX := Lib.hid (And.intro hL hX)
  unfold Ci.val
  rw [hn', hL, hX] 
  rw [hn'] at hn HF
  clear h1 hf hn' hL hX
  go_enter Tryz.func9, Tryz.ntmps9
  go_wp2
  refine gen_w _ _ (fun W0 hW0 => ?_)
  have HB0 : Hid (Below w.heap.size w W0) := Lib.hid (by rw [hW0]; exact (by with_reducible (repeat first | exact bR _ _ | assumption | exact ho (by assumption) | refine bD ?_ | refine bN ?_ _ | refine bA ?_ ?_ _ | refine bS ?_ ?_ _) <;> (first | omega | (simp <;> omega))))
  have hz0 : W0.heap.size = w.heap.size + 1 + 1 + 1 := by rw [hW0]; simp
  have HA0 : Hid (Blk W0 w.heap.size 28 #[.int .i64 L, .int .i64 X, .slice ao n cA]) := Lib.hid (by rw [hW0]; exact (by repeat (first | exact Blk.newAt (by (first | omega | (simp only [World.size_alloc, sz_set, sz_drew, sz_drewN]; done) | (simp only [World.size_alloc, sz_set, sz_drew, sz_drewN]; omega))) | (with_reducible refine Blk.alloc ?_ _) | (with_reducible refine Blk.drew ?_) | (with_reducible refine Blk.drewN ?_ _) | (with_reducible refine Blk.belowB ?_ (Hid.out (by assumption)) ?szk; case szk => (first | omega | (simp only [World.size_alloc, sz_set, sz_drew, sz_drewN]; done) | (simp only [World.size_alloc, sz_set, sz_drew, sz_drewN]; omega))))))
  have HC0 : Hid (Blk W0 (w.heap.size + 1) 28 #[.int .i64 0, .int .i64 0, .slice none 0 0]) := Lib.hid (by rw [hW0]; exact (by repeat (first | exact Blk.newAt (by (first | omega | (simp only [World.size_alloc, sz_set, sz_drew, sz_drewN]; done) | (simp only [World.size_alloc, sz_set, sz_drew, sz_drewN]; omega))) | (with_reducible refine Blk.alloc ?_ _) | (with_reducible refine Blk.drew ?_) | (with_reducible refine Blk.drewN ?_ _) | (with_reducible refine Blk.belowB ?_ (Hid.out (by assumption)) ?szk; case szk => (first | omega | (simp only [World.size_alloc, sz_set, sz_drew, sz_drewN]; done) | (simp only [World.size_alloc, sz_set, sz_drew, sz_drewN]; omega))))))
  have HO0 : Hid (Blk W0 (w.heap.size + 1 + 1) 28 #[.int .i64 L, .int .i64 X, .slice none 0 0]) := Lib.hid (by rw [hW0]; exact (by repeat (first | exact Blk.newAt (by (first | omega | (simp only [World.size_alloc, sz_set, sz_drew, sz_drewN]; done) | (simp only [World.size_alloc, sz_set, sz_drew, sz_drewN]; omega))) | (with_reducible refine Blk.alloc ?_ _) | (with_reducible refine Blk.drew ?_) | (with_reducible refine Blk.drewN ?_ _) | (with_reducible refine Blk.belowB ?_ (Hid.out (by assumption)) ?szk; case szk => (first | omega | (simp only [World.size_alloc, sz_set, sz_drew, sz_drewN]; done) | (simp only [World.size_alloc, sz_set, sz_drew, sz_drewN]; omega))))))
  have HZ0 := Lib.hid hz0
  have hz1 : w.heap.size + 1 + 1 < W0.heap.size := by omega
  clear hW0 hz0
  go_loopg [4] n (fun fu v4 wr => ∃ (i : Nat) (oo : Option Addr) (oc : Nat), v4 = .int .i64 i ∧ i ≤ n ∧ n - i ≤ fu ∧ Hid (Blk wr (w.heap.size + 1 + 1) 28 #[.int .i64 L, .int .i64 X, .slice oo i oc]) ∧ Hid (OwE wr W0.heap.size (.slice oo i oc) (C.parts.take i)) ∧ Hid (Turn W0 wr [w.heap.size + 1 + 1]))
  case atStart => exact ⟨0, none, 0, rfl, by omega, by omega, HO0, Lib.hid (OwE.nil _ _), Lib.hid (Turn.refl _ _)⟩
  case round =>
    obtain ⟨i, oo, oc, rfl, hi, hfu, HO, HE, HT⟩ := hrel
    obtain ⟨wo, rfl⟩ : ∃ wo, wo = wr := ⟨_, rfl⟩
    have hbA := HA0.out.turn HT.out (by simp <;> omega)
    obtain ⟨a0, a1, a2⟩ := el_cells hbA
    obtain ⟨e0, e1, e2⟩ := el_cells HO.out
    have hsr := HT.out.size
    by_cases hlt : i < n
    case neg =>
      obtain rfl : i = n := by omega
      have hbC := HC0.out.turn HT.out (by simp <;> omega)
      obtain ⟨k0, k1, k2⟩ := el_cells hbC
      have f0 := hbC.free 0
      have f1 := hbC.free 1
      have f2 := hbC.free 2
      have HFI : Hid (∀ x, Turn wo x [w.heap.size + 1] → GiveCi w.heap.size C (.agg #[.int .i64 L, .int .i64 X, .slice oo i oc]) x ∧ Below w.heap.size w x) := Lib.hid (fun x hT => by
        obtain ⟨ao', c', e, r1, r2, r3⟩ := HE.out.give
        rw [take_len _ _ (by rw [HL.out]; exact Nat.le_refl _)] at e r2
        cases e
        rw [List.take_of_length_le (by rw [HL.out]; exact Nat.le_refl _)] at r1
        refine ⟨⟨oo, oc, by unfold Ci.val; rw [HLX.out.1, HLX.out.2, HL.out], (r1.turn hT (fun y hy => by simp at hy; omega)).mono (by omega), by rw [HL.out]; exact r2, r3⟩, ?_⟩
        exact HB0.out.trans ((HT.out.trans' hT).belowN HB0.out.size (fun y hy => by simp at hy; omega)))
      clear hbC hbA
      go_wp2
      have T0 := (((Turn.refl wo [w.heap.size + 1]).setCell (p := ⟨w.heap.size + 1, 0, none⟩) (.inl (by simp)) (.int .i64 L)).setCell (p := ⟨w.heap.size + 1, 1, none⟩) (.inl (by simp)) (.int .i64 X)).setCell (p := ⟨w.heap.size + 1, 2, none⟩) (.inl (by simp)) (.slice oo i oc)
      obtain ⟨z1, z2⟩ := HFI.out _ T0
      refine bodyPost_ret (v := .agg #[.int .i64 L, .int .i64 X, .slice oo i oc]) (by simp [results, Tryz.results9, go_sem, k0, k1, k2]) rfl ⟨⟨_, rfl, z1⟩, z2⟩
    have HBw : Hid (Below w.heap.size w wo) := Lib.hid (HB0.out.trans (HT.out.belowN HB0.out.size (fun y hy => by simp at hy; omega)))
    obtain ⟨b, o, rfl, hA⟩ := (HR.out.below HBw.out) i (by rw [HL.out]; exact hlt)
    obtain ⟨r, rc, x0, x1, x2, x3, x4, x5⟩ := hA i (by rw [HL.out]; exact hlt)
    rw [show C.parts.getD i ⟨0, false, []⟩ = C.part i from rfl] at x0 x1 x2 x3 x4
    have hfi := HF.out i hlt
    obtain ⟨E, hE⟩ : ∃ E, C.part i = E := ⟨_, rfl⟩
    rw [hE] at x0 x1 x2 x3 x4 hfi
    have HEE := Lib.hid hE
    have HRE := Lib.hid x3
    obtain ⟨lv, hlv⟩ : ∃ lv, E.level = lv := ⟨_, rfl⟩
    obtain ⟨sp, hsp⟩ : ∃ sp, E.special = sp := ⟨_, rfl⟩
    obtain ⟨m, hm⟩ : ∃ m, E.rows.length = m := ⟨_, rfl⟩
    rw [hlv] at x0
    rw [hsp] at x1
    rw [hm] at x2 x4 hfi
    have HM := Lib.hid (And.intro hlv (And.intro hsp hm))
    have HFI := Lib.hid hfi
    have hm1 := hfi.1
    have lb : b < wo.heap.size := World.block_lt_of_cell? wo _ x0
    have i0 : (0 : Int) ≤ (i : Int) := Int.natCast_nonneg _
    have i1 : (i : Int) < (n : Int) := by omega
    have HK5 : Hid (∀ w', Below wo.heap.size wo w' → (w'.cell? ⟨w.heap.size, 2, none⟩ = some (.slice (some ⟨b, o, none⟩) n cA) ∧ w'.cell? ⟨b, o + i * 3, none⟩ = some (.int .i64 lv) ∧ w'.cell? ⟨b, o + i * 3 + 1, none⟩ = some (.bool sp)) ∧ w'.cell? ⟨b, o + i * 3 + 2, none⟩ = some (.slice r m rc)) := Lib.hid (fun w' hb => by
      have t : ∀ {a : Addr} {v : Value}, wo.cell? a = some v → w'.cell? a = some v := fun {a v} h => (hb.cell (World.block_lt_of_cell? wo _ h)).trans h
      exact ⟨⟨t a2, t x0, t x1⟩, t x2⟩)
    have HSR := Lib.hid hsr
    clear hA x0 x1 x2 x3 hfi hE hlv hsp hm hbA a0 a1 e0 e1 e2
    go_wp2
    have hS : (fun w' : World => w'.cell? ⟨w.heap.size, 2, none⟩ = some (.slice (some ⟨b, o, none⟩) n cA) ∧ w'.cell? ⟨b, o + i * 3, none⟩ = some (.int .i64 lv) ∧ w'.cell? ⟨b, o + i * 3 + 1, none⟩ = some (.bool sp)) wo.drew := (HK5.out _ ((Below.refl _ _).drew)).1
    refine wp_region_L (fun w' => w'.cell? ⟨w.heap.size, 2, none⟩ = some (.slice (some ⟨b, o, none⟩) n cA) ∧ w'.cell? ⟨b, o + i * 3, none⟩ = some (.int .i64 lv) ∧ w'.cell? ⟨b, o + i * 3 + 1, none⟩ = some (.bool sp)) 15 (by kernel_rfl) (by kernel_rfl) (by kernel_rfl) ?_
    refine tJ 0 (v := ?_) (by assumption) ?_ ?_
    rotate_left
    · (intro w h; (try dsimp only at h); go_simp; try with_reducible rfl)
    try simp only [Act.put, gA, gB, gC, sA, sB, sC]
    refine tJ 1 (v := ?_) (by assumption) ?_ ?_
    rotate_left
    · (intro w h; (try dsimp only at h); go_simp; try with_reducible rfl)
    try simp only [Act.put, gA, gB, gC, sA, sB, sC]
    refine tJ 2 (v := ?_) (by assumption) ?_ ?_
    rotate_left
    · (intro w h; (try dsimp only at h); go_simp; try with_reducible rfl)
    try simp only [Act.put, gA, gB, gC, sA, sB, sC]
    refine tJ 3 (v := ?_) (by assumption) ?_ ?_
    rotate_left
    · (intro w h; (try dsimp only at h); go_simp; try with_reducible rfl)
    try simp only [Act.put, gA, gB, gC, sA, sB, sC]
    refine tJ 4 (v := ?_) (by assumption) ?_ ?_
    rotate_left
    · (intro w h; (try dsimp only at h); go_simp; try with_reducible rfl)
    try simp only [Act.put, gA, gB, gC, sA, sB, sC]
    refine tJ 5 (v := ?_) (by assumption) ?_ ?_
    rotate_left
    · (intro w h; (try dsimp only at h); go_simp; try with_reducible rfl)
    try simp only [Act.put, gA, gB, gC, sA, sB, sC]
    refine tJ 6 (v := ?_) (by assumption) ?_ ?_
    rotate_left
    · (intro w h; (try dsimp only at h); go_simp; try with_reducible rfl)
    try simp only [Act.put, gA, gB, gC, sA, sB, sC]
    refine tJ 7 (v := ?_) (by assumption) ?_ ?_
    rotate_left
    · (intro w h; (try dsimp only at h); go_simp; try with_reducible rfl)
    try simp only [Act.put, gA, gB, gC, sA, sB, sC]
    refine tJ 8 (v := ?_) (by assumption) ?_ ?_
    rotate_left
    · (intro w h; (try dsimp only at h); go_simp; try with_reducible rfl)
    try simp only [Act.put, gA, gB, gC, sA, sB, sC]
    refine tJ 9 (v := ?_) (by assumption) ?_ ?_
    rotate_left
    · (intro w h; (try dsimp only at h); go_simp; try with_reducible rfl)
    try simp only [Act.put, gA, gB, gC, sA, sB, sC]
    refine tJ 10 (v := ?_) (by assumption) ?_ ?_
    rotate_left
    · (intro w h; (try dsimp only at h); go_simp; try with_reducible rfl)
    try simp only [Act.put, gA, gB, gC, sA, sB, sC]
    refine tJ 11 (v := ?_) (by assumption) ?_ ?_
    rotate_left
    · (intro w h; (try dsimp only at h); go_simp; try with_reducible rfl)
    try simp only [Act.put, gA, gB, gC, sA, sB, sC]
    refine tJ 12 (v := ?_) (by assumption) ?_ ?_
    rotate_left
    · (intro w h; (try dsimp only at h); go_simp; try with_reducible rfl)
    try simp only [Act.put, gA, gB, gC, sA, sB, sC]
    refine wpL.eff 13 rfl (by kernel_rfl) rfl ?_
    intro K hK
    go_wp2
    refine hK _ _ ((HK5.out _ (by with_reducible (repeat first | exact bR _ _ | assumption | exact ho (by assumption) | refine bD ?_ | refine bN ?_ _ | refine bA ?_ ?_ _ | refine bS ?_ ?_ _) <;> (first | omega | (simp <;> omega)))).1) (fun hS => ?_)
    clear hK
    try simp only [Act.put, gA, gB, gC, sA, sB, sC]
    refine wpL.eff 14 rfl (by kernel_rfl) rfl ?_
    intro K hK
    go_wp2
    refine hK _ _ ((HK5.out _ (by with_reducible (repeat first | exact bR _ _ | assumption | exact ho (by assumption) | refine bD ?_ | refine bN ?_ _ | refine bA ?_ ?_ _ | refine bS ?_ ?_ _) <;> (first | omega | (simp <;> omega)))).1) (fun hS => ?_)
    clear hK
    try simp only [Act.put, gA, gB, gC, sA, sB, sC]
    refine wpL.done (by kernel_rfl) ?_
    refine gen_w _ _ (fun Wp hWp => ?_)
    obtain ⟨d, hd⟩ : ∃ d, wo.heap.size = d := ⟨_, rfl⟩
    rw [hd]
    have HBp : Hid (Below wo.heap.size wo Wp) := Lib.hid (by rw [hWp]; exact (by with_reducible (repeat first | exact bR _ _ | assumption | exact ho (by assumption) | refine bD ?_ | refine bN ?_ _ | refine bA ?_ ?_ _ | refine bS ?_ ?_ _) <;> (first | omega | (simp <;> omega))))
    have HDp : Hid (Blk Wp d 54 #[.int .i64 lv, .bool sp, .slice none 0 0]) := Lib.hid (by rw [hWp, ← hd]; exact Blk.new _ _ _)
    have hsp1 : Wp.heap.size = d + 1 := by rw [hWp, ← hd]; simp
    have HSP := Lib.hid (And.intro hd hsp1)
    have lbd : b < d := by omega
    have lbd2 : w.heap.size + 1 + 1 < d := by omega
    clear hS hWp hsp1 a2
    go_wp2
    go_loopg [6] m (fun fu v6 wr => ∃ (k : Nat) (ro : Option Addr) (c2 : Nat), v6 = .int .i64 k ∧ k ≤ m ∧ m - k ≤ fu ∧ Hid (Blk wr d 54 #[.int .i64 lv, .bool sp, .slice ro k c2]) ∧ Hid (OwR wr Wp.heap.size (.slice ro k c2) (E.rows.take k)) ∧ Hid (Turn Wp wr [d]))
    case atStart => exact ⟨0, none, 0, rfl, by omega, by omega, HDp, Lib.hid (OwR.nil _ _), Lib.hid (Turn.refl _ _)⟩
    case round =>
      obtain ⟨k, ro, c2, rfl, hk, hfu2, HD, HOR, HTq⟩ := hrel
      have hsq := HTq.out.size
      have HBq : Hid (Below wo.heap.size wo wr) := Lib.hid (HBp.out.trans (HTq.out.belowN HBp.out.size (fun y hy => by have := HSP.out.1; simp at hy; omega)))
      obtain ⟨⟨a2, x0, x1⟩, x2⟩ := HK5.out _ HBq.out
      obtain ⟨d0, d1, d2⟩ := el_cells HD.out
      have g2 := HD.out.free 2
      by_cases hkl : k < m
      case neg =>
        obtain rfl : k = m := by omega
        obtain ⟨oe0, oe1, oe2⟩ := el_cells (HO.out.below HBq.out)
        have of2 := (HO.out.below HBq.out).free 2
        have HAP : Hid (∃ oo4 oc4 w5, (Builtin.append_ #[26, 26] 26 #[.slice oo i oc, .slice (some ⟨wr.heap.size, 0, none⟩) 1 1]).run Tryz.prog (wr.alloc (.cells #[.int .i64 lv, .bool sp, .slice ro k c2] 54)) = .ok (.slice oo4 (i + 1) oc4) w5 ∧
            Blk w5 (w.heap.size + 1 + 1) 28 #[.int .i64 L, .int .i64 X, .slice oo i oc] ∧ Hid (OwE w5 W0.heap.size (.slice oo4 (i + 1) oc4) (C.parts.take (i + 1))) ∧ Hid (Turn W0 w5 [w.heap.size + 1 + 1])) := Lib.hid (by
          have hal : Below wr.heap.size wr (wr.alloc (.cells #[.int .i64 lv, .bool sp, .slice ro k c2] 54)) := (Below.refl _ _).alloc (Nat.le_refl _) _
          have hq := HBq.out.size
          have hOq : OwR wr W0.heap.size (.slice ro E.rows.length c2) E.rows := by
            have h := HOR.out
            rw [List.take_of_length_le (by rw [HM.out.2.2]; exact Nat.le_refl _)] at h
            rw [HM.out.2.2]
            exact h.mono (by have := HSP.out; have := HSR.out; omega)
          obtain ⟨v', w5, hrun, hO5, hB5, hT5⟩ := ((HE.out.below HBq.out).below hal).append (by have := HSR.out; simp; omega) (by rw [take_len _ _ (by rw [HL.out]; omega)]; omega) wr.heap.size 1 E ro c2 (by rw [HM.out.1, HM.out.2.1, HM.out.2.2]; exact Blk.new _ _ _) (OwR.give (hOq.below hal)).1 (OwR.give (hOq.below hal)).2.1 (OwR.give (hOq.below hal)).2.2
          obtain ⟨oo4, oc4, rfl, _, _, _⟩ := hO5.shape
          have hl4 : (C.parts.take i ++ [E]).length = i + 1 := by rw [List.length_append, take_len _ _ (by rw [HL.out]; omega)]; rfl
          have ht4 : C.parts.take (i + 1) = C.parts.take i ++ [E] := by rw [take_snoc _ ⟨0, false, []⟩ _ (by rw [HL.out]; exact hlt), ← HEE.out]; rfl
          rw [hl4] at hrun hO5
          rw [← ht4] at hO5
          refine ⟨oo4, oc4, w5, hrun, (hB5.block _ hz1).trans ((HO.out.below HBq.out).below hal), Lib.hid hO5, Lib.hid (HT.out.low (((HBq.out.mono HSR.out).trans (hal.mono (by have := HSR.out; omega))).trans hB5) (Nat.le_refl _))⟩)
        obtain ⟨oo4, oc4, w5, hrun, hbk5, HO5, HT5⟩ := HAP.out
        obtain ⟨p0, p1, p2⟩ := el_cells hbk5
        have pf := hbk5.free 2
        have HBK5 := Lib.hid hbk5
        clear hbk5 HAP
        go_wp2_with (at_builtin; refine Lib.wpList_append_run _ rfl (.tmp 59) (.tmp 61) 26 26 rfl _ _ rfl rfl _ _ hrun ?_)
        clear hrun
        go_roundg (n - (i + 1))
        case measure => omega
        case rel => exact ⟨i + 1, oo4, oc4, by go_num, by omega, Nat.le_refl _, Lib.hid (HBK5.out.set 2 _), Lib.hid (HO5.out.turn (S := [w.heap.size + 1 + 1]) ((Turn.refl w5 _).setCell (p := ⟨w.heap.size + 1 + 1, 2, none⟩) (.inl (by simp)) _) (fun x hx => by simp at hx; omega)), Lib.hid (HT5.out.setCell (p := ⟨w.heap.size + 1 + 1, 2, none⟩) (.inl (by simp)) _)⟩
      obtain ⟨br, or, rfl, hrr⟩ := (HRE.out.below HBq.out) k (by rw [HM.out.2.2]; exact hkl)
      obtain ⟨rr, rrc, y0, y1, y2⟩ := hrr k (by rw [HM.out.2.2]; exact hkl)
      have hlen : (E.rows.getD k []).length ≤ 1000000 := HFI.out.2 k hkl
      obtain ⟨row, hrow⟩ : ∃ row, E.rows.getD k [] = row := ⟨_, rfl⟩
      rw [hrow] at y0 y1 y2 hlen
      have HLW := Lib.hid (fun (w' : World) (hb : Below wr.heap.size wr w') => (lendWords_walk rr rrc row w' hlen (y1.below hb)).mono (fun e w2 h => (show (∃ vo vc, e = .returned (.slice vo row.length vc) ∧ PutWords w'.heap.size row (.slice vo row.length vc) w2) ∧ Below w'.heap.size w' w2 from by
        obtain ⟨⟨v, h1, h2⟩, h3⟩ := h
        obtain ⟨vo, vc, rfl, h4⟩ := h2
        exact ⟨⟨vo, vc, h1, vo, vc, rfl, h4⟩, h3⟩)))
      obtain ⟨br', or', ebr, hrr0⟩ := HRE.out k (by rw [HM.out.2.2]; exact hkl)
      cases ebr
      obtain ⟨_, _, yy, _⟩ := hrr0 k (by rw [HM.out.2.2]; exact hkl)
      have lbr : br < d := by have := HSP.out.1; have : br < wo.heap.size := World.block_lt_of_cell? wo _ yy; omega
      clear hrr0 yy
      have HROW := Lib.hid hrow
      obtain ⟨len, hlen'⟩ : ∃ len, row.length = len := ⟨_, rfl⟩
      rw [hlen'] at y0 HLW hlen
      have HLN := Lib.hid hlen'
      have k0 : (0 : Int) ≤ (k : Int) := Int.natCast_nonneg _
      have k1 : (k : Int) < (m : Int) := by omega
      have HK9 : Hid (∀ w', Below wr.heap.size wr w' → w'.cell? ⟨d, 2, none⟩ = some (.slice ro k c2) ∧ w'.cell? ⟨w.heap.size, 2, none⟩ = some (.slice (some ⟨b, o, none⟩) n cA) ∧ w'.cell? ⟨b, o + i * 3 + 2, none⟩ = some (.slice (some ⟨br, or, none⟩) m rc) ∧ w'.cell? ⟨br, or + k, none⟩ = some (.slice rr len rrc)) := Lib.hid (fun w' hb => by
        have t : ∀ {a : Addr} {v : Value}, wr.cell? a = some v → w'.cell? a = some v := fun {a v} h => (hb.cell (World.block_lt_of_cell? wr _ h)).trans h
        exact ⟨t d2, t a2, t x2, t y0⟩)
      have HAP : Hid (∀ w4 v, PutWords wr.heap.size row v w4 → Below wr.heap.size wr w4 → ∃ ro4 c4 w5, (Builtin.append_ #[52, 52] 52 #[.slice ro k c2, .slice (some ⟨w4.heap.size, 0, none⟩) 1 1]).run Tryz.prog (w4.alloc (.cells #[v] 23)) = .ok (.slice ro4 (k + 1) c4) w5 ∧
          Blk w5 d 54 #[.int .i64 lv, .bool sp, .slice ro k c2] ∧ Hid (OwR w5 Wp.heap.size (.slice ro4 (k + 1) c4) (E.rows.take (k + 1))) ∧ Hid (Turn Wp w5 [d]) ∧ w5.cell? ⟨d, 2, none⟩ = some (.slice ro k c2) ∧ w5.cell? ⟨w.heap.size, 2, none⟩ = some (.slice (some ⟨b, o, none⟩) n cA) ∧ w5.cell? ⟨b, o + i * 3 + 2, none⟩ = some (.slice (some ⟨br, or, none⟩) m rc) ∧ w5.cell? ⟨br, or + k, none⟩ = some (.slice rr len rrc)) := Lib.hid (fun w4 v hv hb4 => by
        obtain ⟨ro', rc', rfl, v1, v2, v3, v4⟩ := hv
        have hs4 := hb4.size
        have hal : Below w4.heap.size w4 (w4.alloc (.cells #[.slice ro' row.length rc'] 23)) := (Below.refl _ _).alloc (Nat.le_refl _) _
        have hdlt : d < wr.heap.size := HD.out.lt
        obtain ⟨v', w5, hrun, hO5, hB5, hT5⟩ := ((HOR.out.below hb4).below hal).append (by simp; omega) (by rw [take_len _ _ (by rw [HM.out.2.2]; omega)]; omega) 52 ⟨w4.heap.size, 0, none⟩ 1 ro' rc' row ((Blk.new w4 _ _).cell 0) (v1.below hal) v2 (fun a ha => by
          obtain ⟨u1, u2⟩ := v4 a ha
          obtain ⟨vals, ho1, hg1, _⟩ := HOR.out
          refine ⟨fun kk => ?_, u1.below hal, by omega⟩
          have := hg1 _ kk
          omega)
        obtain ⟨ro4, c4, rfl, _, _, _⟩ := hO5.shape
        have hl4 : (E.rows.take k ++ [row]).length = k + 1 := by rw [List.length_append, take_len _ _ (by rw [HM.out.2.2]; omega)]; rfl
        have ht4 : E.rows.take (k + 1) = E.rows.take k ++ [row] := by rw [take_snoc _ [] _ (by rw [HM.out.2.2]; exact hkl), HROW.out]
        rw [hl4] at hrun hO5
        rw [← ht4] at hO5
        have hw := HSP.out.2
        refine ⟨ro4, c4, w5, hrun, (hB5.block _ (by omega)).trans ((HD.out.below hb4).below hal), Lib.hid hO5, Lib.hid (HTq.out.low (((hb4.mono hsq).trans (hal.mono (by omega))).trans hB5) (Nat.le_refl _)), ?_⟩
        have t : ∀ {a : Addr} {u : Value}, (w4.alloc (.cells #[.slice ro' row.length rc'] 23)).cell? a = some u → a.block < Wp.heap.size → w5.cell? a = some u := fun {a u} h hh => (hB5.cell hh).trans h
        obtain ⟨s1, s2, s3, s4⟩ := HK9.out _ (hb4.alloc hb4.size (.cells #[.slice ro' row.length rc'] 23))
        exact ⟨t s1 (by simp only; omega), t s2 (by simp only; omega), t s3 (by simp only; omega), t s4 (by simp only; omega)⟩)
      clear hrr y1 y2 hrow hlen' x0 x1 d0 d1
      go_wp2
      have hS : (fun w' : World => w'.cell? ⟨d, 2, none⟩ = some (.slice ro k c2) ∧ w'.cell? ⟨w.heap.size, 2, none⟩ = some (.slice (some ⟨b, o, none⟩) n cA) ∧ w'.cell? ⟨b, o + i * 3 + 2, none⟩ = some (.slice (some ⟨br, or, none⟩) m rc) ∧ w'.cell? ⟨br, or + k, none⟩ = some (.slice rr len rrc)) wr.drew := HK9.out _ ((Below.refl _ _).drew)
      refine wp_region_L (fun w' => w'.cell? ⟨d, 2, none⟩ = some (.slice ro k c2) ∧ w'.cell? ⟨w.heap.size, 2, none⟩ = some (.slice (some ⟨b, o, none⟩) n cA) ∧ w'.cell? ⟨b, o + i * 3 + 2, none⟩ = some (.slice (some ⟨br, or, none⟩) m rc) ∧ w'.cell? ⟨br, or + k, none⟩ = some (.slice rr len rrc)) 15 (by kernel_rfl) (by kernel_rfl) (by kernel_rfl) ?_
      refine tJ 0 (v := ?_) (by assumption) ?_ ?_
      rotate_left
      · (intro w h; (try dsimp only at h); go_simp; try with_reducible rfl)
      try simp only [Act.put, gA, gB, gC, sA, sB, sC]
      refine tJ 1 (v := ?_) (by assumption) ?_ ?_
      rotate_left
      · (intro w h; (try dsimp only at h); go_simp; try with_reducible rfl)
      try simp only [Act.put, gA, gB, gC, sA, sB, sC]
      refine tJ 2 (v := ?_) (by assumption) ?_ ?_
      rotate_left
      · (intro w h; (try dsimp only at h); go_simp; try with_reducible rfl)
      try simp only [Act.put, gA, gB, gC, sA, sB, sC]
      refine tJ 3 (v := ?_) (by assumption) ?_ ?_
      rotate_left
      · (intro w h; (try dsimp only at h); go_simp; try with_reducible rfl)
      try simp only [Act.put, gA, gB, gC, sA, sB, sC]
      refine tJ 4 (v := ?_) (by assumption) ?_ ?_
      rotate_left
      · (intro w h; (try dsimp only at h); go_simp; try with_reducible rfl)
      try simp only [Act.put, gA, gB, gC, sA, sB, sC]
      refine tJ 5 (v := ?_) (by assumption) ?_ ?_
      rotate_left
      · (intro w h; (try dsimp only at h); go_simp; try with_reducible rfl)
      try simp only [Act.put, gA, gB, gC, sA, sB, sC]
      refine tJ 6 (v := ?_) (by assumption) ?_ ?_
      rotate_left
      · (intro w h; (try dsimp only at h); go_simp; try with_reducible rfl)
      try simp only [Act.put, gA, gB, gC, sA, sB, sC]
      refine tJ 7 (v := ?_) (by assumption) ?_ ?_
      rotate_left
      · (intro w h; (try dsimp only at h); go_simp; try with_reducible rfl)
      try simp only [Act.put, gA, gB, gC, sA, sB, sC]
      refine tJ 8 (v := ?_) (by assumption) ?_ ?_
      rotate_left
      · (intro w h; (try dsimp only at h); go_simp; try with_reducible rfl)
      try simp only [Act.put, gA, gB, gC, sA, sB, sC]
      refine tJ 9 (v := ?_) (by assumption) ?_ ?_
      rotate_left
      · (intro w h; (try dsimp only at h); go_simp; try with_reducible rfl)
      try simp only [Act.put, gA, gB, gC, sA, sB, sC]
      refine tJ 10 (v := ?_) (by assumption) ?_ ?_
      rotate_left
      · (intro w h; (try dsimp only at h); go_simp; try with_reducible rfl)
      try simp only [Act.put, gA, gB, gC, sA, sB, sC]
      refine wpL.eff 11 rfl (by kernel_rfl) rfl ?_
      intro K hK
      go_wp2_with fail
      (with_reducible refine Calls.mono (HLW.out _ (by with_reducible (repeat first | exact bR _ _ | assumption | exact ho (by assumption) | refine bD ?_ | refine bN ?_ _ | refine bA ?_ ?_ _ | refine bS ?_ ?_ _) <;> (first | omega | (simp <;> omega)))) ?_)
      rintro e w4 ⟨⟨vo, vc, rfl, hv⟩, hb4⟩
      have HB4 : Hid (Below wr.heap.size wr w4) := Lib.hid (below_step' (by with_reducible (repeat first | exact bR _ _ | assumption | exact ho (by assumption) | refine bD ?_ | refine bN ?_ _ | refine bA ?_ ?_ _ | refine bS ?_ ?_ _) <;> (first | omega | (simp <;> omega))) hb4)
      obtain ⟨ro4, c4, w5, hrun, hbk5, HO5, HT5, hS5⟩ := HAP.out w4 (.slice vo len vc) (by rw [← HLN.out] at hv ⊢; exact hv) HB4.out
      have pf := hbk5.free 2
      have HBK5 := Lib.hid hbk5
      have hs4 := HB4.out.size
      clear hb4 hv hbk5
      refine hK _ _ (HK9.out _ (by with_reducible (repeat first | exact bR _ _ | assumption | exact ho (by assumption) | refine bD ?_ | refine bN ?_ _ | refine bA ?_ ?_ _ | refine bS ?_ ?_ _) <;> (first | omega | (simp <;> omega)))) (fun hS => ?_)
      clear hK
      try simp only [Act.put, gA, gB, gC, sA, sB, sC]
      refine wpL.eff 12 rfl (by kernel_rfl) rfl ?_
      intro K hK
      go_wp2
      refine hK _ _ (HK9.out _ (by with_reducible (repeat first | exact bR _ _ | assumption | exact ho (by assumption) | refine bD ?_ | refine bN ?_ _ | refine bA ?_ ?_ _ | refine bS ?_ ?_ _) <;> (first | omega | (simp <;> omega)))) (fun hS => ?_)
      clear hK
      try simp only [Act.put, gA, gB, gC, sA, sB, sC]
      refine wpL.eff 13 rfl (by kernel_rfl) rfl ?_
      intro K hK
      refine wp_append_run (.tmp 44) (.tmp 55) 52 rfl _ _ rfl rfl _ _ hrun ?_
      refine hK _ _ (hS5) (fun hS => ?_)
      clear hK
      try simp only [Act.put, gA, gB, gC, sA, sB, sC]
      refine tJ 14 (v := ?_) (by assumption) ?_ ?_
      rotate_left
      · (intro w h; (try dsimp only at h); go_simp; try with_reducible rfl)
      try simp only [Act.put, gA, gB, gC, sA, sB, sC]
      clear hS
      refine wpL.last 15 rfl (by kernel_rfl) rfl (by kernel_rfl) rfl ?_
      clear hrun
      obtain ⟨s1, s2, s3, s4⟩ := hS5
      go_wp2
      go_roundg (m - (k + 1))
      case measure => omega
      case rel => exact ⟨k + 1, ro4, c4, by go_num, by omega, Nat.le_refl _, Lib.hid (HBK5.out.set 2 _), Lib.hid (HO5.out.turn (S := [d]) ((Turn.refl w5 _).setCell (p := ⟨d, 2, none⟩) (.inl (by simp)) _) (fun x hx => by have := HSP.out; simp at hx; omega)), Lib.hid (HT5.out.setCell (p := ⟨d, 2, none⟩) (.inl (by simp)) _)⟩
end Go.Proofs.YtcipjbckcnkfaaaGreat

namespace Go.Proofs.YtcipjbckcnkfaaaGreat
open Go.RowKit Go.Shelf
attribute [local go_sem ↓] Go.wp_at_zero Go.wp_at_succ

set_option maxHeartbeats 6400000 in
set_option maxRecDepth 100000 in
theorem pair16_walk (ca : Option Addr) (cc : Nat) (w : World) (hin : ParIn w par4 ca cc) :
    Calls Tryz.prog 32 #[.agg (cells4 ca cc)] w fun e w' => (∃ a1 c1 a2 c2, e = .returned (.tuple #[.agg #[.int .i64 1, .int .i64 1, .slice a1 2 c1], .agg #[.int .i64 1, .int .i64 1, .slice a2 2 c2]]) ∧ RdEN w' w.heap.size a1 exA.parts ∧ RdEN w' w.heap.size a2 exB.parts ∧ 2 ≤ c1 ∧ c1 ≤ 9223372036854775807 ∧ 2 ≤ c2 ∧ c2 ≤ 9223372036854775807) ∧ Below w.heap.size w w' := by
  have H1 := Lib.hid (fun (w' : World) (g : Nat) (hb : Below w.heap.size w w') (h : Blk w' g 2 #[.int .i64 1, .int .i64 2, .int .i64 3, .int .i64 4]) => pairA ca cc g w' (hin.below hb) h)
  have H2 := Lib.hid (fun (w' : World) (g : Nat) (hb : Below w.heap.size w w') (h : Blk w' g 2 #[.int .i64 5, .int .i64 0, .int .i64 0, .int .i64 0]) => pairB ca cc g w' (hin.below hb) h)
  obtain ⟨PA, hPA⟩ : ∃ l, exA.parts = l := ⟨_, rfl⟩
  rw [hPA] at H1 ⊢
  clear hin hPA
  go_enter Tryz.func32, Tryz.ntmps32
  go_upto_region 1 with fail
  refine gen_w _ _ (fun W0 hW_W0 => ?_)
  have HB_W0 : Hid (Below w.heap.size w W0) := Lib.hid (by rw [hW_W0]; exact (by with_reducible (repeat first | exact bR _ _ | assumption | exact ho (by assumption) | refine bD ?_ | refine bA ?_ ?_ _ | refine bS ?_ ?_ _ | refine bC ?_ (ho (by assumption)) ?_) <;> (first | omega | (simp <;> omega))))
  obtain ⟨hw_W0, hwf_W0⟩ := bcellB HB_W0.out
  have K0_W0 : Hid (Blk W0 w.heap.size 25 #[.int .i64 4, .int .u32 17, .int .i64 1, .slice ca 1 cc, .int .u32 2147483249, .int .i64 4, .int .u32 2]) := Lib.hid (by rw [hW_W0]; exact (by repeat (first | exact Blk.newAt (by (first | omega | (simp only [World.size_alloc, sz_set, sz_drew, sz_drewN]; done) | (simp only [World.size_alloc, sz_set, sz_drew, sz_drewN]; omega))) | (with_reducible refine Blk.alloc ?_ _) | (with_reducible refine Blk.drew ?_) | (with_reducible refine Blk.drewN ?_ _) | (with_reducible refine Blk.belowB ?_ (Hid.out (by assumption)) ?szk; case szk => (first | omega | (simp only [World.size_alloc, sz_set, sz_drew, sz_drewN]; done) | (simp only [World.size_alloc, sz_set, sz_drew, sz_drewN]; omega))))))
  have q0_W0 : w.heap.size < W0.heap.size := K0_W0.out.lt
  have k0_0_W0 := K0_W0.out.cell 0
  have f0_0_W0 := K0_W0.out.free 0
  have k0_1_W0 := K0_W0.out.cell 1
  have f0_1_W0 := K0_W0.out.free 1
  have k0_2_W0 := K0_W0.out.cell 2
  have f0_2_W0 := K0_W0.out.free 2
  have k0_3_W0 := K0_W0.out.cell 3
  have f0_3_W0 := K0_W0.out.free 3
  have k0_4_W0 := K0_W0.out.cell 4
  have f0_4_W0 := K0_W0.out.free 4
  have k0_5_W0 := K0_W0.out.cell 5
  have f0_5_W0 := K0_W0.out.free 5
  have k0_6_W0 := K0_W0.out.cell 6
  have f0_6_W0 := K0_W0.out.free 6
  simp only [List.getElem?_toArray, List.getElem?_cons_zero, List.getElem?_cons_succ] at k0_0_W0 k0_1_W0 k0_2_W0 k0_3_W0 k0_4_W0 k0_5_W0 k0_6_W0
  have K1_W0 : Hid (Blk W0 (w.heap.size + 1) 28 #[.int .i64 0, .int .i64 0, .slice none 0 0]) := Lib.hid (by rw [hW_W0]; exact (by repeat (first | exact Blk.newAt (by (first | omega | (simp only [World.size_alloc, sz_set, sz_drew, sz_drewN]; done) | (simp only [World.size_alloc, sz_set, sz_drew, sz_drewN]; omega))) | (with_reducible refine Blk.alloc ?_ _) | (with_reducible refine Blk.drew ?_) | (with_reducible refine Blk.drewN ?_ _) | (with_reducible refine Blk.belowB ?_ (Hid.out (by assumption)) ?szk; case szk => (first | omega | (simp only [World.size_alloc, sz_set, sz_drew, sz_drewN]; done) | (simp only [World.size_alloc, sz_set, sz_drew, sz_drewN]; omega))))))
  have q1_W0 : w.heap.size + 1 < W0.heap.size := K1_W0.out.lt
  have k1_0_W0 := K1_W0.out.cell 0
  have f1_0_W0 := K1_W0.out.free 0
  have k1_1_W0 := K1_W0.out.cell 1
  have f1_1_W0 := K1_W0.out.free 1
  have k1_2_W0 := K1_W0.out.cell 2
  have f1_2_W0 := K1_W0.out.free 2
  simp only [List.getElem?_toArray, List.getElem?_cons_zero, List.getElem?_cons_succ] at k1_0_W0 k1_1_W0 k1_2_W0
  have K2_W0 : Hid (Blk W0 (w.heap.size + 1 + 1) 28 #[.int .i64 0, .int .i64 0, .slice none 0 0]) := Lib.hid (by rw [hW_W0]; exact (by repeat (first | exact Blk.newAt (by (first | omega | (simp only [World.size_alloc, sz_set, sz_drew, sz_drewN]; done) | (simp only [World.size_alloc, sz_set, sz_drew, sz_drewN]; omega))) | (with_reducible refine Blk.alloc ?_ _) | (with_reducible refine Blk.drew ?_) | (with_reducible refine Blk.drewN ?_ _) | (with_reducible refine Blk.belowB ?_ (Hid.out (by assumption)) ?szk; case szk => (first | omega | (simp only [World.size_alloc, sz_set, sz_drew, sz_drewN]; done) | (simp only [World.size_alloc, sz_set, sz_drew, sz_drewN]; omega))))))
  have q2_W0 : w.heap.size + 1 + 1 < W0.heap.size := K2_W0.out.lt
  have k2_0_W0 := K2_W0.out.cell 0
  have f2_0_W0 := K2_W0.out.free 0
  have k2_1_W0 := K2_W0.out.cell 1
  have f2_1_W0 := K2_W0.out.free 1
  have k2_2_W0 := K2_W0.out.cell 2
  have f2_2_W0 := K2_W0.out.free 2
  simp only [List.getElem?_toArray, List.getElem?_cons_zero, List.getElem?_cons_succ] at k2_0_W0 k2_1_W0 k2_2_W0
  clear hW_W0
  go_wp2_with fail
  (with_reducible refine Calls.mono (H1.out _ _ (by with_reducible (repeat first | exact bR _ _ | assumption | exact ho (by assumption) | refine bD ?_ | refine bA ?_ ?_ _ | refine bS ?_ ?_ _ | refine bC ?_ (ho (by assumption)) ?_) <;> (first | omega | (simp <;> omega))) (by repeat (first | exact Blk.newAt (by (first | omega | (simp only [World.size_alloc, sz_set, sz_drew, sz_drewN]; done) | (simp only [World.size_alloc, sz_set, sz_drew, sz_drewN]; omega))) | (with_reducible refine Blk.alloc ?_ _) | (with_reducible refine Blk.drew ?_) | (with_reducible refine Blk.drewN ?_ _) | (with_reducible refine Blk.belowB ?_ (Hid.out (by assumption)) ?szk; case szk => (first | omega | (simp only [World.size_alloc, sz_set, sz_drew, sz_drewN]; done) | (simp only [World.size_alloc, sz_set, sz_drew, sz_drewN]; omega)))))) ?_)
  rintro e w5 ⟨⟨a1, c1, rfl, hr, hca⟩, hb⟩
  have HR5 := Lib.hid hr
  have HCA := Lib.hid hca
  obtain ⟨hc_w5, hf_w5⟩ := bcell hb
  have HB_w5 : Hid (Below W0.heap.size W0 w5) := Lib.hid (below_step (by with_reducible (repeat first | exact bR _ _ | assumption | exact ho (by assumption) | refine bD ?_ | refine bN ?_ _ | refine bA ?_ ?_ _ | refine bS ?_ ?_ _) <;> (first | omega | (simp <;> omega))) hb)
  have hs_w5 := hb.size
  try simp only [World.size_alloc, sz_set, sz_drew, sz_drewN] at hs_w5
  have HK_w5 := Lib.hid hb
  have HC_w5 := Lib.hid (callTo hb)
  clear hb
  have hs5 : W0.heap.size < w5.heap.size := by omega
  have t0 : w.heap.size < w5.heap.size := by omega
  have t1 : w.heap.size + 1 < w5.heap.size := by omega
  have t2 : w.heap.size + 1 + 1 < w5.heap.size := by omega
  clear hr hca
  go_wp2_with fail
  (with_reducible refine Calls.mono (H2.out _ _ (by with_reducible (repeat first | exact bR _ _ | assumption | exact ho (by assumption) | refine bD ?_ | refine bA ?_ ?_ _ | refine bS ?_ ?_ _ | refine bC ?_ (ho (by assumption)) ?_) <;> (first | omega | (simp <;> omega))) (by repeat (first | exact Blk.newAt (by (first | omega | (simp only [World.size_alloc, sz_set, sz_drew, sz_drewN]; done) | (simp only [World.size_alloc, sz_set, sz_drew, sz_drewN]; omega))) | (with_reducible refine Blk.alloc ?_ _) | (with_reducible refine Blk.drew ?_) | (with_reducible refine Blk.drewN ?_ _) | (with_reducible refine Blk.belowB ?_ (Hid.out (by assumption)) ?szk; case szk => (first | omega | (simp only [World.size_alloc, sz_set, sz_drew, sz_drewN]; done) | (simp only [World.size_alloc, sz_set, sz_drew, sz_drewN]; omega)))))) ?_)
  rintro e w6 ⟨⟨g, aa, cA, ab, cB, mid, rfl, hG, hm1, hm2, ⟨cO, hO⟩, hst, hl⟩, hb⟩
  obtain ⟨gh, gr, o, rc, rfl, x0, x1, x2, x3, ⟨cs, x4⟩, x5⟩ := hO.poke (j := 1) (by simp)
  have hm3 : w5.heap.size < mid := by (try simp only [World.size_alloc, sz_drew, sz_set] at hm1); omega
  have hm4 : w.heap.size < gr := by omega
  have ht : gr ≠ g := fun e => by subst e; rw [show w6.heap[gr]? = _ from hG] at x4; cases x4
  have HG := Lib.hid hG
  have HST := Lib.hid hst
  have HPO := Lib.hid x5
  have HL := Lib.hid hl
  have y0 := hG.cell 3
  have y1 := hG.cell 4
  have y2 := hG.cell 5
  simp only [List.getElem?_toArray, List.getElem?_cons_zero, List.getElem?_cons_succ] at y0 y1 y2
  have lg : g < w6.heap.size := hG.lt
  have lr : gr < w6.heap.size := block_lt x4
  have lh : gh < w6.heap.size := World.block_lt_of_cell? w6 _ x0
  have x2' := x2 (o + 1)
  simp only [List.length_cons, List.length_nil] at x0
  obtain ⟨hc_w6, hf_w6⟩ := bcell hb
  have HB_w6 : Hid (Below w5.heap.size w5 w6) := Lib.hid (below_step (by with_reducible (repeat first | exact bR _ _ | assumption | exact ho (by assumption) | refine bD ?_ | refine bN ?_ _ | refine bA ?_ ?_ _ | refine bS ?_ ?_ _) <;> (first | omega | (simp <;> omega))) hb)
  have hs_w6 := hb.size
  try simp only [World.size_alloc, sz_set, sz_drew, sz_drewN] at hs_w6
  have HK_w6 := Lib.hid hb
  have HC_w6 := Lib.hid (callTo hb)
  clear hb
  have hs6 : w5.heap.size < w6.heap.size := by omega
  clear hO hst x5 hG hl x2 x4
  go_wp2
  refine gen_w _ _ (fun W7 hW7 => ?_)
  have HB7 : Hid (Below w.heap.size w W7) := Lib.hid (by rw [hW7]; exact (by with_reducible (repeat first | exact bR _ _ | assumption | exact ho (by assumption) | refine bD ?_ | refine bA ?_ ?_ _ | refine bS ?_ ?_ _ | refine bC ?_ (ho (by assumption)) ?_) <;> (first | omega | (simp <;> omega))))
  have HKA : Hid (RdEN W7 W0.heap.size a1 PA) := Lib.hid ((HR5.out.kp (by rw [hW7]; exact (by with_reducible (repeat first | exact kR _ _ _ | assumption | exact ho (by assumption) | refine kD ?_ | refine kA ?_ _ | refine kS ?_ ?_ _ | refine kC ?_ (ho (by assumption))) <;> (first | omega | (simp <;> omega))))).mono (by (first | omega | (simp only [World.size_alloc, sz_set, sz_drew, sz_drewN]; done) | (simp only [World.size_alloc, sz_set, sz_drew, sz_drewN]; omega))))
  have HKB : Hid (RdEN W7 W0.heap.size (some ⟨g, 0, none⟩) exB.parts) := Lib.hid (by
    rw [hW7]
    refine rdEN_two (A := exE) (B := ⟨1, false, [[0, 1, 0, 0]]⟩) (aa := aa) (ab := some ⟨gh, 0, none⟩) (cA := cA) (cB := cB) ?_ (by omega) ((HST.out _ (by with_reducible (repeat first | exact bR _ _ | assumption | exact ho (by assumption) | refine bD ?_ | refine bA ?_ ?_ _ | refine bS ?_ ?_ _ | refine bC ?_ (ho (by assumption)) ?_) <;> (first | omega | (simp <;> omega)))).mono (by (first | omega | (simp only [World.size_alloc, sz_set, sz_drew, sz_drewN]; done) | (simp only [World.size_alloc, sz_set, sz_drew, sz_drewN]; omega)))) ((OwR.rdn ((HPO.out w6 (Kp.refl _ _ _) 1).below ((Below.refl _ _).alloc (Nat.le_refl _) _))).mono (by omega)) ?_ HL.out.2.1 HL.out.2.2.1 HL.out.2.2.2
    · rw [exE_rows]; exact (HG.out.far (fun e => ht e.symm) _).alloc _
    · rw [exE_rows]; exact HL.out.1)
  have HA7 : Hid (Blk W7 w5.heap.size 28 #[.int .i64 1, .int .i64 1, .slice a1 2 c1]) := Lib.hid (by rw [hW7]; exact (by with_reducible (repeat first | assumption | exact ho (by assumption) | (refine Blk.newAt ?z; case z => first | rfl | (first | omega | (simp <;> omega))) | apply Blk.three | apply Blk.seven | apply Blk.nine | (refine Blk.far ?_ ?z _; case z => ((try dsimp only); (first | omega | (simp <;> omega)))) | refine Blk.alloc ?_ _ | refine Blk.drew ?_ | refine Blk.turnTo ?_ (ho (by assumption)) ?_ | refine Blk.belowB ?_ (ho (by assumption)) ?_) <;> (first | omega | (simp <;> omega))))
  have HB7' : Hid (Blk W7 w6.heap.size 28 #[.int .i64 1, .int .i64 1, .slice (some ⟨g, 0, none⟩) 2 2]) := Lib.hid (by rw [hW7]; exact (by with_reducible (repeat first | assumption | exact ho (by assumption) | (refine Blk.newAt ?z; case z => first | rfl | (first | omega | (simp <;> omega))) | apply Blk.three | apply Blk.seven | apply Blk.nine | (refine Blk.far ?_ ?z _; case z => ((try dsimp only); (first | omega | (simp <;> omega)))) | refine Blk.alloc ?_ _ | refine Blk.drew ?_ | refine Blk.turnTo ?_ (ho (by assumption)) ?_ | refine Blk.belowB ?_ (ho (by assumption)) ?_) <;> (first | omega | (simp <;> omega))))
  have HR7 : Hid (Blk W7 (w.heap.size + 1) 28 #[.int .i64 0, .int .i64 0, .slice none 0 0]) := Lib.hid (by rw [hW7]; exact (by with_reducible (repeat first | assumption | exact ho (by assumption) | (refine Blk.newAt ?z; case z => first | rfl | (first | omega | (simp <;> omega))) | apply Blk.three | apply Blk.seven | apply Blk.nine | (refine Blk.far ?_ ?z _; case z => ((try dsimp only); (first | omega | (simp <;> omega)))) | refine Blk.alloc ?_ _ | refine Blk.drew ?_ | refine Blk.turnTo ?_ (ho (by assumption)) ?_ | refine Blk.belowB ?_ (ho (by assumption)) ?_) <;> (first | omega | (simp <;> omega))))
  have HR7' : Hid (Blk W7 (w.heap.size + 1 + 1) 28 #[.int .i64 0, .int .i64 0, .slice none 0 0]) := Lib.hid (by rw [hW7]; exact (by with_reducible (repeat first | assumption | exact ho (by assumption) | (refine Blk.newAt ?z; case z => first | rfl | (first | omega | (simp <;> omega))) | apply Blk.three | apply Blk.seven | apply Blk.nine | (refine Blk.far ?_ ?z _; case z => ((try dsimp only); (first | omega | (simp <;> omega)))) | refine Blk.alloc ?_ _ | refine Blk.drew ?_ | refine Blk.turnTo ?_ (ho (by assumption)) ?_ | refine Blk.belowB ?_ (ho (by assumption)) ?_) <;> (first | omega | (simp <;> omega))))
  have n1 : w5.heap.size ≠ w.heap.size + 1 := by omega
  have n2 : w5.heap.size ≠ w.heap.size + 1 + 1 := by omega
  have n3 : w6.heap.size ≠ w.heap.size + 1 := by omega
  have n4 : w6.heap.size ≠ w.heap.size + 1 + 1 := by omega
  have l1 : w5.heap.size < W7.heap.size := HA7.out.lt
  have l2 : w6.heap.size < W7.heap.size := HB7'.out.lt
  clear hW7 HST HPO HG HR5 HC_w6 HK_w6 HB_w6 hc_w6 hf_w6
  obtain ⟨a0, a1', a2⟩ := el_cells HA7.out
  obtain ⟨b0, b1, b2⟩ := el_cells HB7'.out
  obtain ⟨r0, r1, r2⟩ := el_cells HR7.out
  obtain ⟨s0, s1, s2⟩ := el_cells HR7'.out
  have g0 := HR7.out.free
  have g1 := HR7'.out.free
  have hS : (fun w' : World => Turn W7 w' [w.heap.size + 1, w.heap.size + 1 + 1]) W7.drew := (Turn.refl _ _).drew
  refine wp_region_L (fun w' : World => Turn W7 w' [w.heap.size + 1, w.heap.size + 1 + 1]) 3 (by kernel_rfl) (by kernel_rfl) (by kernel_rfl) ?_
  refine wpL.take 0 (v := ?_) rfl (by kernel_rfl) (by kernel_rfl) rfl (fun _ _ _ h => h) (by assumption) ?_ ?_
  rotate_left
  · (intro w hSw; (try dsimp only at hSw); obtain ⟨hcS, hfS⟩ := tcell2 hSw; go_simp; try with_reducible rfl)
  try simp only [Act.put, gA, gB, gC, sA, sB, sC]
  refine wpL.take 1 (v := ?_) rfl (by kernel_rfl) (by kernel_rfl) rfl (fun _ _ _ h => h) (by assumption) ?_ ?_
  rotate_left
  · (intro w hSw; (try dsimp only at hSw); obtain ⟨hcS, hfS⟩ := tcell2 hSw; go_simp; try with_reducible rfl)
  try simp only [Act.put, gA, gB, gC, sA, sB, sC]
  refine wpL.eff 2 rfl (by kernel_rfl) rfl ?_
  intro K hK
  go_wp2
  refine hK _ _ (by with_reducible (repeat first | exact tR _ _ | assumption | exact ho (by assumption) | refine tD ?_ | refine tA ?_ _ | refine tS ?_ (by simp) _ | refine tC ?_ (ho (by assumption)))) (fun hS => ?_)
  clear hK
  try simp only [Act.put, gA, gB, gC, sA, sB, sC]
  refine wpL.last 3 rfl (by kernel_rfl) rfl (by kernel_rfl) rfl ?_
  go_wp2
  refine bodyPost_ret (v := .tuple #[.agg #[.int .i64 1, .int .i64 1, .slice a1 2 c1], .agg #[.int .i64 1, .int .i64 1, .slice (some ⟨g, 0, none⟩) 2 2]]) (by simp [results, Tryz.results32, go_sem, r0, r1, r2, s0, s1, s2]) rfl ⟨⟨_, _, _, _, rfl, (HKA.out.kp (by with_reducible (repeat first | exact kR _ _ _ | assumption | exact ho (by assumption) | refine kD ?_ | refine kA ?_ _ | refine kS ?_ ?_ _ | refine kC ?_ (ho (by assumption))) <;> (first | omega | (simp <;> omega)))).mono (by omega), (HKB.out.kp (by with_reducible (repeat first | exact kR _ _ _ | assumption | exact ho (by assumption) | refine kD ?_ | refine kA ?_ _ | refine kS ?_ ?_ _ | refine kC ?_ (ho (by assumption))) <;> (first | omega | (simp <;> omega)))).mono (by omega), HCA.out.1, HCA.out.2, Nat.le_refl _, by omega⟩, (by with_reducible (repeat first | exact bR _ _ | assumption | exact ho (by assumption) | refine bD ?_ | refine bA ?_ ?_ _ | refine bS ?_ ?_ _ | refine bC ?_ (ho (by assumption)) ?_) <;> (first | omega | (simp <;> omega)))⟩
end Go.Proofs.YtcipjbckcnkfaaaGreat
