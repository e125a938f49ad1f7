/- The parts of a ciphertext; those that lack are zero. -/
import Derived.Test.YtcipjbckcnkfaaaGreatPs44
import Derived.Test.YtcipjbckcnkfaaaGreatPs25
import Derived.Test.YtcipjbckcnkfaaaGreatPs09
set_option linter.unusedSimpArgs false
set_option linter.unusedVariables false
namespace Go.Proofs.YtcipjbckcnkfaaaGreat
open Go.RowKit Go.Shelf
attribute [local go_sem ↓] Go.wp_at_zero Go.wp_at_succ

/-- The part i of a ciphertext, or zero. -/
def partZ (p : Par) (A : Ci) (i : Nat) : El := if i < A.parts.length then A.part i else ofEl p A.level false (List.replicate p.n.toNat 0)
/-- Rows that stay as long as what lies below lo and rows from base on stay. -/
def StR (lo base : Nat) (w : World) (a : Option Addr) (rows : List (List Nat)) : Prop := ∀ W, Below lo w W → Kp rowT base w W → RdR W a rows
theorem StR.rd {lo base : Nat} {w : World} {a : Option Addr} {rows : List (List Nat)} (h : StR lo base w a rows) : RdR w a rows := h w (Below.refl _ _) (Kp.refl _ _ _)
/-- The three parts, by value. -/
def OfPost (p : Par) (A : Ci) (lo base : Nat) (e : Ending) (w' : World) : Prop := ∃ a0 c0 a1 c1 a2 c2, e = .returned (.agg #[.int .i64 (partZ p A 0).level, .bool (partZ p A 0).special, .slice a0 (partZ p A 0).rows.length c0, .int .i64 (partZ p A 1).level, .bool (partZ p A 1).special, .slice a1 (partZ p A 1).rows.length c1, .int .i64 (partZ p A 2).level, .bool (partZ p A 2).special, .slice a2 (partZ p A 2).rows.length c2]) ∧
  StR lo base w' a0 (partZ p A 0).rows ∧ StR lo base w' a1 (partZ p A 1).rows ∧ StR lo base w' a2 (partZ p A 2).rows
theorem nine_cells {w : World} {b : Nat} {t : TypeId} {v0 v1 v2 v3 v4 v5 v6 v7 v8 : Value} (h : Blk w b t #[v0, v1, v2, v3, v4, v5, v6, v7, v8]) :
    w.cell? ⟨b, 0, none⟩ = some v0 ∧ w.cell? ⟨b, 1, none⟩ = some v1 ∧ w.cell? ⟨b, 2, none⟩ = some v2 ∧ w.cell? ⟨b, 3, none⟩ = some v3 ∧ w.cell? ⟨b, 4, none⟩ = some v4 ∧ w.cell? ⟨b, 5, none⟩ = some v5 ∧ w.cell? ⟨b, 6, none⟩ = some v6 ∧ w.cell? ⟨b, 7, none⟩ = some v7 ∧ w.cell? ⟨b, 8, none⟩ = some v8 :=
  ⟨h.cell 0, h.cell 1, h.cell 2, h.cell 3, h.cell 4, h.cell 5, h.cell 6, h.cell 7, h.cell 8⟩
/-- An element of a list in memory. -/
theorem RdE.at {w : World} {ao : Option Addr} {l : List El} (h : RdE w ao l) {i : Nat} (hi : i < l.length) : ∃ b o r rc, ao = some ⟨b, o, none⟩ ∧ b < w.heap.size ∧ w.cell? ⟨b, o + i * 3, none⟩ = some (.int .i64 (l.getD i ⟨0, false, []⟩).level) ∧ w.cell? ⟨b, o + i * 3 + 1, none⟩ = some (.bool (l.getD i ⟨0, false, []⟩).special) ∧
    w.cell? ⟨b, o + i * 3 + 2, none⟩ = some (.slice r (l.getD i ⟨0, false, []⟩).rows.length rc) ∧ RdR w r (l.getD i ⟨0, false, []⟩).rows ∧ (l.getD i ⟨0, false, []⟩).rows.length ≤ rc ∧ rc ≤ 9223372036854775807 := by
  obtain ⟨b, o, rfl, hc⟩ := h i hi
  obtain ⟨r, rc, x0, x1, x2, x3, x4, x5⟩ := hc i hi
  exact ⟨b, o, r, rc, rfl, World.block_lt_of_cell? w _ x0, x0, x1, x2, x3, x4, x5⟩
/-- The value of a part, in the memory of the argument or of zero. -/
theorem partZ_lt {p : Par} {A : Ci} {i : Nat} (h : i < A.parts.length) : partZ p A i = A.part i := if_pos h
theorem partZ_ge {p : Par} {A : Ci} {i : Nat} (h : ¬ i < A.parts.length) : partZ p A i = ofEl p A.level false (List.replicate p.n.toNat 0) := if_neg h

set_option maxHeartbeats 12800000 in
set_option maxRecDepth 100000 in
theorem arOf_walk (p : Par) (ca : Option Addr) (cc : Nat) (A : Ci) (aa : Option Addr) (cA : Nat) (w0 w : World) (hw0 : Below w0.heap.size w0 w) (hin : ParIn w p ca cc) (hA : CiOk p A) (hrd : RdE w0 aa A.parts) :
    Calls Tryz.prog 77 #[.agg (p.cells ca cc), A.val aa cA] w fun e w' => OfPost p A w0.heap.size w.heap.size e w' ∧ Below w.heap.size w w' := by
  have hg := hA.1.1
  have hpl : PlaceOk p A.level false := PlaceOk.of hA.1.2.1 hA.1.2.2.1
  obtain ⟨lv, m, n, hlv, hpn, hqm, hlv1, hlv2, hn0, hn32, hs0, hs1, hm25, hqb⟩ := hpl.shape hg
  have h23 := hA.2.1
  have hrw := hrd.below hw0
  obtain ⟨b, o, r0, k0, rfl, lb0, x0, x1, x2, x3, _⟩ := hrd.at (i := 0) (by omega)
  have lb : b < w.heap.size := Nat.lt_of_lt_of_le lb0 hw0.size
  have tc : ∀ {a : Addr} {v : Value}, w0.cell? a = some v → w.cell? a = some v := fun {a v} h => (hw0.cell (World.block_lt_of_cell? w0 _ h)).trans h
  replace x0 := tc x0
  replace x1 := tc x1
  replace x2 := tc x2
  obtain ⟨b', o', r1, k1, e', _, y0, y1, y2, y3, _⟩ := hrd.at (i := 1) (by omega)
  cases e'
  replace y0 := tc y0
  replace y1 := tc y1
  replace y2 := tc y2
  have hE0 := partZ_lt (p := p) (A := A) (i := 0) (by omega)
  have hE1 := partZ_lt (p := p) (A := A) (i := 1) (by omega)
  have H1 : Hid (∀ (w' : World) (g : Nat), Below w.heap.size w w' → Blk w' g 2 (zeroLs n) → Calls Tryz.prog 66 #[.agg (p.cells ca cc), .int .i64 lv, .bool false, .slice (some ⟨g, 0, none⟩) n n] w' fun e w2 => PutEl w'.heap.size (ofEl p lv false (List.replicate n 0)) e w2 ∧ Below w'.heap.size w' w2) := Lib.hid (fun w' g hb hB => by
    have := rgFromInts_walk p ca cc lv false (List.replicate n 0) (some ⟨g, 0, none⟩) n w' (hin.below hb) hg (by rw [← hlv]; exact hpl) (by simp [hpn]) (fun j hj => by simp at hj; simp [List.getD_eq_getElem?_getD, hj]) (rdI_zeros hB)
    rw [List.length_replicate] at this
    exact this)
  have hZn : p.n.toNat = n := by omega
  have hz1 : (ofEl p lv false (List.replicate n 0)).level = lv := rfl
  have hz2 : (ofEl p lv false (List.replicate n 0)).special = false := rfl
  have hz3 : (ofEl p lv false (List.replicate n 0)).rows.length = m := by show (mkRows _ _ _).length = m; rw [mkRows_len, ← hlv, hqm]
  have hE2 : A.parts.length = 2 → partZ p A 2 = ofEl p lv false (List.replicate n 0) := fun h => by rw [partZ_ge (by omega), hlv, hZn]
  have hmk := makeLs n (by omega)
  obtain ⟨Z, hZ⟩ : ∃ Z, ofEl p lv false (List.replicate n 0) = Z := ⟨_, rfl⟩
  rw [hZ] at H1 hz1 hz2 hz3 hE2
  have HZL := Lib.hid (And.intro hz1 (And.intro hz2 hz3))
  have hcase : A.parts.length = 2 ∨ (A.parts.length = 3 ∧ ∃ r2 k2, w.cell? ⟨b, o + 6, none⟩ = some (.int .i64 (A.part 2).level) ∧ w.cell? ⟨b, o + 6 + 1, none⟩ = some (.bool (A.part 2).special) ∧ w.cell? ⟨b, o + 6 + 2, none⟩ = some (.slice r2 (A.part 2).rows.length k2) ∧ RdR w0 r2 (A.part 2).rows ∧ partZ p A 2 = A.part 2) := by
    rcases h23 with h | h
    · exact .inl h
    · obtain ⟨b', o', r2, k2, e', _, z0, z1, z2, z3, _⟩ := hrd.at (i := 2) (by omega)
      cases e'
      exact .inr ⟨h, r2, k2, tc z0, tc z1, tc z2, z3, partZ_lt (by omega)⟩
  rw [show A.parts.getD 0 ⟨0, false, []⟩ = A.part 0 from rfl] at x0 x1 x2 x3
  rw [show A.parts.getD 1 ⟨0, false, []⟩ = A.part 1 from rfl] at y0 y1 y2 y3
  simp only [Nat.zero_mul, Nat.one_mul, Nat.add_zero] at x0 x1 x2 y0 y1 y2
  have HX : Hid (∀ W, Below w0.heap.size w W → RdR W r0 (A.part 0).rows) := Lib.hid (fun W hb => x3.below (hw0.trans hb))
  have HY : Hid (∀ W, Below w0.heap.size w W → RdR W r1 (A.part 1).rows) := Lib.hid (fun W hb => y3.below (hw0.trans hb))
  have HW0 := Lib.hid hw0.size
  have HXZ : Hid (∀ r2, RdR w0 r2 (A.part 2).rows → ∀ W, Below w0.heap.size w W → RdR W r2 (A.part 2).rows) := Lib.hid (fun r2 h W hb => h.below (hw0.trans hb))
  unfold OfPost
  rw [hE0, hE1]
  obtain ⟨E0, hE0'⟩ : ∃ E, A.part 0 = E := ⟨_, rfl⟩
  obtain ⟨E1, hE1'⟩ : ∃ E, A.part 1 = E := ⟨_, rfl⟩
  rw [hE0'] at x0 x1 x2 HX ⊢
  rw [hE1'] at y0 y1 y2 HY ⊢
  unfold PutEl El.val Ci.val Par.cells at *
  rw [hlv, hpn] at *
  rw [hz1, hz2, hz3] at H1
  obtain ⟨X, hX⟩ : ∃ X, A.exponent = X := ⟨_, rfl⟩
  rw [hX]
  clear tc hw0 hrw hin hA hrd hg hpl hpn hqm hs0 hs1 hqb h23 hE0 hE1 hE0' hE1' hZ x3 y3 hZn hX
  rcases hcase with h2 | ⟨h3, r2, k2, z0, z1, z2, z3, hE2'⟩
  · rw [hE2 h2, h2]
    obtain ⟨hzl, hzs, hzm⟩ := HZL.out
    rw [hzl, hzs, hzm]
    clear hE2 h2 HXZ hzl hzs hzm hz1 hz2 hz3
    go_enter Tryz.func77, Tryz.ntmps77
    go_upto_region 1 with fail
    refine gen_w _ _ (fun W0 hW0 => ?_)
    have HB0 : Hid (Below w.heap.size w W0) := Lib.hid (by rw [hW0]; exact (by with_reducible (repeat first | exact bR _ _ | assumption | exact ho (by assumption) | refine bD ?_ | refine bN ?_ _ | refine bA ?_ ?_ _ | refine bS ?_ ?_ _) <;> (first | omega | (simp <;> omega))))
    have hz0 : W0.heap.size = w.heap.size + 1 + 1 + 1 := by rw [hW0]; simp
    have HP0 : Hid (Blk W0 w.heap.size 25 #[.int .i64 (n : Int), .int .u32 (p.prime : Int), .int .i64 p.power, .slice ca p.chain.length cc, .int .u32 (p.special : Int), .int .i64 p.weight, .int .u32 (p.err : Int)]) := Lib.hid (by rw [hW0]; exact (by repeat (first | exact Blk.newAt (by (first | omega | (simp only [World.size_alloc, sz_set, sz_drew, sz_drewN]; done) | (simp only [World.size_alloc, sz_set, sz_drew, sz_drewN]; omega))) | (with_reducible refine Blk.alloc ?_ _) | (with_reducible refine Blk.drew ?_) | (with_reducible refine Blk.drewN ?_ _) | (with_reducible refine Blk.belowB ?_ (Hid.out (by assumption)) ?szk; case szk => (first | omega | (simp only [World.size_alloc, sz_set, sz_drew, sz_drewN]; done) | (simp only [World.size_alloc, sz_set, sz_drew, sz_drewN]; omega))))))
    have HC0 : Hid (Blk W0 (w.heap.size + 1) 28 #[.int .i64 (lv : Int), .int .i64 X, .slice (some ⟨b, o, none⟩) 2 cA]) := Lib.hid (by rw [hW0]; exact (by repeat (first | exact Blk.newAt (by (first | omega | (simp only [World.size_alloc, sz_set, sz_drew, sz_drewN]; done) | (simp only [World.size_alloc, sz_set, sz_drew, sz_drewN]; omega))) | (with_reducible refine Blk.alloc ?_ _) | (with_reducible refine Blk.drew ?_) | (with_reducible refine Blk.drewN ?_ _) | (with_reducible refine Blk.belowB ?_ (Hid.out (by assumption)) ?szk; case szk => (first | omega | (simp only [World.size_alloc, sz_set, sz_drew, sz_drewN]; done) | (simp only [World.size_alloc, sz_set, sz_drew, sz_drewN]; omega))))))
    have HO0 : Hid (Blk W0 (w.heap.size + 1 + 1) 88 #[.int .i64 0, .bool false, .slice none 0 0, .int .i64 0, .bool false, .slice none 0 0, .int .i64 0, .bool false, .slice none 0 0]) := Lib.hid (by rw [hW0]; exact (by repeat (first | exact Blk.newAt (by (first | omega | (simp only [World.size_alloc, sz_set, sz_drew, sz_drewN]; done) | (simp only [World.size_alloc, sz_set, sz_drew, sz_drewN]; omega))) | (with_reducible refine Blk.alloc ?_ _) | (with_reducible refine Blk.drew ?_) | (with_reducible refine Blk.drewN ?_ _) | (with_reducible refine Blk.belowB ?_ (Hid.out (by assumption)) ?szk; case szk => (first | omega | (simp only [World.size_alloc, sz_set, sz_drew, sz_drewN]; done) | (simp only [World.size_alloc, sz_set, sz_drew, sz_drewN]; omega))))))
    have q0 : w.heap.size < W0.heap.size := by omega
    have q1 : w.heap.size + 1 < W0.heap.size := by omega
    have q2 : w.heap.size + 1 + 1 < W0.heap.size := by omega
    have HZ0 := Lib.hid hz0
    clear hW0 hz0
    obtain ⟨c0, c1, c2, c3, c4, c5, c6⟩ := par_cells HP0.out
    obtain ⟨d0, d1, d2⟩ := el_cells HC0.out
    go_cut [5] (fun v5 wx => ∃ bz az cz, v5 = .pointer (some ⟨bz, 0, none⟩) ∧ W0.heap.size ≤ bz ∧ Hid (Blk wx bz 54 #[.int .i64 (lv : Int), .bool false, .slice az m cz]) ∧ Hid (RdRN wx W0.heap.size az Z.rows) ∧ Hid (Below W0.heap.size W0 wx))
    case first =>
      have hS : (fun w' : World => Below W0.heap.size W0 w') W0.drew := (Below.refl _ _).drew
      refine wp_region_L (fun w' : World => Below W0.heap.size W0 w') 12 (by kernel_rfl) (by kernel_rfl) (by kernel_rfl) ?_
      refine tK 0 (v := ?_) (by assumption) ?_ ?_
      rotate_left
      · (intro _ _; go_simp; try with_reducible rfl)
      try simp only [Act.put, gA, gB, gC, sA, sB, sC]
      refine tK 1 (v := ?_) (by assumption) ?_ ?_
      rotate_left
      · (intro _ _; go_simp; try with_reducible rfl)
      try simp only [Act.put, gA, gB, gC, sA, sB, sC]
      refine tK 2 (v := ?_) (by assumption) ?_ ?_
      rotate_left
      · (intro _ _; go_simp; try with_reducible rfl)
      try simp only [Act.put, gA, gB, gC, sA, sB, sC]
      refine tK 3 (v := ?_) (by assumption) ?_ ?_
      rotate_left
      · (intro _ _; go_simp; try with_reducible rfl)
      try simp only [Act.put, gA, gB, gC, sA, sB, sC]
      refine tK 4 (v := ?_) (by assumption) ?_ ?_
      rotate_left
      · (intro _ _; go_simp; try with_reducible rfl)
      try simp only [Act.put, gA, gB, gC, sA, sB, sC]
      refine wpL.two 5 10 rfl rfl (by kernel_rfl) rfl rfl ?_ ?_  <;> intro K hK
      · go_wp2
        refine hK _ _ (by with_reducible (repeat first | exact bR _ _ | assumption | exact ho (by assumption) | refine bD ?_ | refine bA ?_ ?_ _ | refine bS ?_ ?_ _ | refine bC ?_ (ho (by assumption)) ?_) <;> (first | omega | (simp <;> omega))) (fun hS => ?_)
        clear hK
        try simp only [Act.put, gA, gB, gC, sA, sB, sC]
        refine wpL.two 6 10 rfl rfl (by kernel_rfl) rfl rfl ?_ ?_  <;> intro K hK
        · go_wp2_with fail
          (with_reducible refine Calls.mono (H1.out _ _ (by with_reducible (repeat first | exact bR _ _ | assumption | exact ho (by assumption) | refine bD ?_ | refine bN ?_ _ | refine bA ?_ ?_ _ | refine bS ?_ ?_ _) <;> (first | omega | (simp <;> omega))) (by repeat (first | exact Blk.newAt (by (first | omega | (simp only [World.size_alloc, sz_set, sz_drew, sz_drewN]; done) | (simp only [World.size_alloc, sz_set, sz_drew, sz_drewN]; omega))) | (with_reducible refine Blk.alloc ?_ _) | (with_reducible refine Blk.drew ?_) | (with_reducible refine Blk.drewN ?_ _) | (with_reducible refine Blk.belowB ?_ (Hid.out (by assumption)) ?szk; case szk => (first | omega | (simp only [World.size_alloc, sz_set, sz_drew, sz_drewN]; done) | (simp only [World.size_alloc, sz_set, sz_drew, sz_drewN]; omega)))))) ?_)
          rintro e w5 ⟨⟨az, cz, rfl, hO⟩, hb⟩
          have HO5 := Lib.hid hO
          obtain ⟨hc_w5, hf_w5⟩ := bcell hb
          have HB_w5 : Hid (Below W0.heap.size W0 w5) := Lib.hid (below_step (by with_reducible (repeat first | exact bR _ _ | assumption | exact ho (by assumption) | refine bD ?_ | refine bN ?_ _ | refine bA ?_ ?_ _ | refine bS ?_ ?_ _) <;> (first | omega | (simp <;> omega))) hb)
          have hs_w5 := hb.size
          try simp only [World.size_alloc, sz_set, sz_drew, sz_drewN] at hs_w5
          have HK_w5 := Lib.hid hb
          have HC_w5 := Lib.hid (callTo hb)
          clear hb
          clear hO
          refine hK _ _ (by with_reducible (repeat first | exact bR _ _ | assumption | exact ho (by assumption) | refine bD ?_ | refine bA ?_ ?_ _ | refine bS ?_ ?_ _ | refine bC ?_ (ho (by assumption)) ?_) <;> (first | omega | (simp <;> omega))) (fun hS => ?_)
          clear hK
          try simp only [Act.put, gA, gB, gC, sA, sB, sC]
          refine tK 7 (v := ?_) (by assumption) ?_ ?_
          rotate_left
          · (intro _ _; go_simp; try with_reducible rfl)
          try simp only [Act.put, gA, gB, gC, sA, sB, sC]
          refine tK 8 (v := ?_) (by assumption) ?_ ?_
          rotate_left
          · (intro _ _; go_simp; try with_reducible rfl)
          try simp only [Act.put, gA, gB, gC, sA, sB, sC]
          refine tK 9 (v := ?_) (by assumption) ?_ ?_
          rotate_left
          · (intro _ _; go_simp; try with_reducible rfl)
          try simp only [Act.put, gA, gB, gC, sA, sB, sC]
          refine wpL.eff 10 rfl (by kernel_rfl) rfl ?_
          intro K hK
          go_wp2
          refine hK _ _ (by with_reducible (repeat first | exact bR _ _ | assumption | exact ho (by assumption) | refine bD ?_ | refine bA ?_ ?_ _ | refine bS ?_ ?_ _ | refine bC ?_ (ho (by assumption)) ?_) <;> (first | omega | (simp <;> omega))) (fun hS => ?_)
          clear hK
          try simp only [Act.put, gA, gB, gC, sA, sB, sC]
          refine wpL.eff 11 rfl (by kernel_rfl) rfl ?_
          intro K hK
          go_wp2
          refine hK _ _ (by with_reducible (repeat first | exact bR _ _ | assumption | exact ho (by assumption) | refine bD ?_ | refine bA ?_ ?_ _ | refine bS ?_ ?_ _ | refine bC ?_ (ho (by assumption)) ?_) <;> (first | omega | (simp <;> omega))) (fun hS => ?_)
          clear hK
          try simp only [Act.put, gA, gB, gC, sA, sB, sC]
          refine tK 12 (v := ?_) (by assumption) ?_ ?_
          rotate_left
          · (intro _ _; go_simp; try with_reducible rfl)
          try simp only [Act.put, gA, gB, gC, sA, sB, sC]
          refine wpL.done (by kernel_rfl) ?_
          go_wp2_with fail
          go_meet
          case rel => exact ⟨_, az, cz, rfl, by (first | omega | (simp only [World.size_alloc, sz_set, sz_drew, sz_drewN]; done) | (simp only [World.size_alloc, sz_set, sz_drew, sz_drewN]; omega)), Lib.hid (by with_reducible (repeat first | assumption | exact ho (by assumption) | (refine Blk.newAt ?z; case z => first | rfl | (first | omega | (simp <;> omega))) | apply Blk.three | apply Blk.seven | apply Blk.nine | (refine Blk.far ?_ ?z _; case z => ((try dsimp only); (first | omega | (simp <;> omega)))) | refine Blk.alloc ?_ _ | refine Blk.drew ?_ | refine Blk.turnTo ?_ (ho (by assumption)) ?_ | refine Blk.belowB ?_ (ho (by assumption)) ?_) <;> (first | omega | (simp <;> omega))), Lib.hid ((HO5.out.rdn.kp (by with_reducible (repeat first | exact kR _ _ _ | assumption | exact ho (by assumption) | refine kD ?_ | refine kA ?_ _ | refine kS ?_ ?_ _ | refine kC ?_ (ho (by assumption))) <;> (first | omega | (simp <;> omega)))).mono (by (first | omega | (simp only [World.size_alloc, sz_set, sz_drew, sz_drewN]; done) | (simp only [World.size_alloc, sz_set, sz_drew, sz_drewN]; omega)))), Lib.hid (by with_reducible (repeat first | exact bR _ _ | assumption | exact ho (by assumption) | refine bD ?_ | refine bN ?_ _ | refine bA ?_ ?_ _ | refine bS ?_ ?_ _) <;> (first | omega | (simp <;> omega)))⟩
        · go_wp2
          refine hK _ _ (by with_reducible (repeat first | exact bR _ _ | assumption | exact ho (by assumption) | refine bD ?_ | refine bA ?_ ?_ _ | refine bS ?_ ?_ _ | refine bC ?_ (ho (by assumption)) ?_) <;> (first | omega | (simp <;> omega))) (fun hS => ?_)
          clear hK
          try simp only [Act.put, gA, gB, gC, sA, sB, sC]
          refine wpL.eff 6 rfl (by kernel_rfl) rfl ?_
          intro K hK
          go_wp2_with fail
          (with_reducible refine Calls.mono (H1.out _ _ (by with_reducible (repeat first | exact bR _ _ | assumption | exact ho (by assumption) | refine bD ?_ | refine bN ?_ _ | refine bA ?_ ?_ _ | refine bS ?_ ?_ _) <;> (first | omega | (simp <;> omega))) (by repeat (first | exact Blk.newAt (by (first | omega | (simp only [World.size_alloc, sz_set, sz_drew, sz_drewN]; done) | (simp only [World.size_alloc, sz_set, sz_drew, sz_drewN]; omega))) | (with_reducible refine Blk.alloc ?_ _) | (with_reducible refine Blk.drew ?_) | (with_reducible refine Blk.drewN ?_ _) | (with_reducible refine Blk.belowB ?_ (Hid.out (by assumption)) ?szk; case szk => (first | omega | (simp only [World.size_alloc, sz_set, sz_drew, sz_drewN]; done) | (simp only [World.size_alloc, sz_set, sz_drew, sz_drewN]; omega)))))) ?_)
          rintro e w5 ⟨⟨az, cz, rfl, hO⟩, hb⟩
          have HO5 := Lib.hid hO
          obtain ⟨hc_w5, hf_w5⟩ := bcell hb
          have HB_w5 : Hid (Below W0.heap.size W0 w5) := Lib.hid (below_step (by with_reducible (repeat first | exact bR _ _ | assumption | exact ho (by assumption) | refine bD ?_ | refine bN ?_ _ | refine bA ?_ ?_ _ | refine bS ?_ ?_ _) <;> (first | omega | (simp <;> omega))) hb)
          have hs_w5 := hb.size
          try simp only [World.size_alloc, sz_set, sz_drew, sz_drewN] at hs_w5
          have HK_w5 := Lib.hid hb
          have HC_w5 := Lib.hid (callTo hb)
          clear hb
          clear hO
          refine hK _ _ (by with_reducible (repeat first | exact bR _ _ | assumption | exact ho (by assumption) | refine bD ?_ | refine bA ?_ ?_ _ | refine bS ?_ ?_ _ | refine bC ?_ (ho (by assumption)) ?_) <;> (first | omega | (simp <;> omega))) (fun hS => ?_)
          clear hK
          try simp only [Act.put, gA, gB, gC, sA, sB, sC]
          refine tK 7 (v := ?_) (by assumption) ?_ ?_
          rotate_left
          · (intro _ _; go_simp; try with_reducible rfl)
          try simp only [Act.put, gA, gB, gC, sA, sB, sC]
          refine tK 8 (v := ?_) (by assumption) ?_ ?_
          rotate_left
          · (intro _ _; go_simp; try with_reducible rfl)
          try simp only [Act.put, gA, gB, gC, sA, sB, sC]
          refine tK 9 (v := ?_) (by assumption) ?_ ?_
          rotate_left
          · (intro _ _; go_simp; try with_reducible rfl)
          try simp only [Act.put, gA, gB, gC, sA, sB, sC]
          refine wpL.eff 11 rfl (by kernel_rfl) rfl ?_
          intro K hK
          go_wp2
          refine hK _ _ (by with_reducible (repeat first | exact bR _ _ | assumption | exact ho (by assumption) | refine bD ?_ | refine bA ?_ ?_ _ | refine bS ?_ ?_ _ | refine bC ?_ (ho (by assumption)) ?_) <;> (first | omega | (simp <;> omega))) (fun hS => ?_)
          clear hK
          try simp only [Act.put, gA, gB, gC, sA, sB, sC]
          refine tK 12 (v := ?_) (by assumption) ?_ ?_
          rotate_left
          · (intro _ _; go_simp; try with_reducible rfl)
          try simp only [Act.put, gA, gB, gC, sA, sB, sC]
          refine wpL.done (by kernel_rfl) ?_
          go_wp2_with fail
          go_meet
          case rel => exact ⟨_, az, cz, rfl, by (first | omega | (simp only [World.size_alloc, sz_set, sz_drew, sz_drewN]; done) | (simp only [World.size_alloc, sz_set, sz_drew, sz_drewN]; omega)), Lib.hid (by with_reducible (repeat first | assumption | exact ho (by assumption) | (refine Blk.newAt ?z; case z => first | rfl | (first | omega | (simp <;> omega))) | apply Blk.three | apply Blk.seven | apply Blk.nine | (refine Blk.far ?_ ?z _; case z => ((try dsimp only); (first | omega | (simp <;> omega)))) | refine Blk.alloc ?_ _ | refine Blk.drew ?_ | refine Blk.turnTo ?_ (ho (by assumption)) ?_ | refine Blk.belowB ?_ (ho (by assumption)) ?_) <;> (first | omega | (simp <;> omega))), Lib.hid ((HO5.out.rdn.kp (by with_reducible (repeat first | exact kR _ _ _ | assumption | exact ho (by assumption) | refine kD ?_ | refine kA ?_ _ | refine kS ?_ ?_ _ | refine kC ?_ (ho (by assumption))) <;> (first | omega | (simp <;> omega)))).mono (by (first | omega | (simp only [World.size_alloc, sz_set, sz_drew, sz_drewN]; done) | (simp only [World.size_alloc, sz_set, sz_drew, sz_drewN]; omega)))), Lib.hid (by with_reducible (repeat first | exact bR _ _ | assumption | exact ho (by assumption) | refine bD ?_ | refine bN ?_ _ | refine bA ?_ ?_ _ | refine bS ?_ ?_ _) <;> (first | omega | (simp <;> omega)))⟩
      · go_wp2
        refine hK _ _ (by with_reducible (repeat first | exact bR _ _ | assumption | exact ho (by assumption) | refine bD ?_ | refine bA ?_ ?_ _ | refine bS ?_ ?_ _ | refine bC ?_ (ho (by assumption)) ?_) <;> (first | omega | (simp <;> omega))) (fun hS => ?_)
        clear hK
        try simp only [Act.put, gA, gB, gC, sA, sB, sC]
        refine wpL.eff 5 rfl (by kernel_rfl) rfl ?_
        intro K hK
        go_wp2
        refine hK _ _ (by with_reducible (repeat first | exact bR _ _ | assumption | exact ho (by assumption) | refine bD ?_ | refine bA ?_ ?_ _ | refine bS ?_ ?_ _ | refine bC ?_ (ho (by assumption)) ?_) <;> (first | omega | (simp <;> omega))) (fun hS => ?_)
        clear hK
        try simp only [Act.put, gA, gB, gC, sA, sB, sC]
        refine wpL.eff 6 rfl (by kernel_rfl) rfl ?_
        intro K hK
        go_wp2_with fail
        (with_reducible refine Calls.mono (H1.out _ _ (by with_reducible (repeat first | exact bR _ _ | assumption | exact ho (by assumption) | refine bD ?_ | refine bN ?_ _ | refine bA ?_ ?_ _ | refine bS ?_ ?_ _) <;> (first | omega | (simp <;> omega))) (by repeat (first | exact Blk.newAt (by (first | omega | (simp only [World.size_alloc, sz_set, sz_drew, sz_drewN]; done) | (simp only [World.size_alloc, sz_set, sz_drew, sz_drewN]; omega))) | (with_reducible refine Blk.alloc ?_ _) | (with_reducible refine Blk.drew ?_) | (with_reducible refine Blk.drewN ?_ _) | (with_reducible refine Blk.belowB ?_ (Hid.out (by assumption)) ?szk; case szk => (first | omega | (simp only [World.size_alloc, sz_set, sz_drew, sz_drewN]; done) | (simp only [World.size_alloc, sz_set, sz_drew, sz_drewN]; omega)))))) ?_)
        rintro e w5 ⟨⟨az, cz, rfl, hO⟩, hb⟩
        have HO5 := Lib.hid hO
        obtain ⟨hc_w5, hf_w5⟩ := bcell hb
        have HB_w5 : Hid (Below W0.heap.size W0 w5) := Lib.hid (below_step (by with_reducible (repeat first | exact bR _ _ | assumption | exact ho (by assumption) | refine bD ?_ | refine bN ?_ _ | refine bA ?_ ?_ _ | refine bS ?_ ?_ _) <;> (first | omega | (simp <;> omega))) hb)
        have hs_w5 := hb.size
        try simp only [World.size_alloc, sz_set, sz_drew, sz_drewN] at hs_w5
        have HK_w5 := Lib.hid hb
        have HC_w5 := Lib.hid (callTo hb)
        clear hb
        clear hO
        refine hK _ _ (by with_reducible (repeat first | exact bR _ _ | assumption | exact ho (by assumption) | refine bD ?_ | refine bA ?_ ?_ _ | refine bS ?_ ?_ _ | refine bC ?_ (ho (by assumption)) ?_) <;> (first | omega | (simp <;> omega))) (fun hS => ?_)
        clear hK
        try simp only [Act.put, gA, gB, gC, sA, sB, sC]
        refine tK 7 (v := ?_) (by assumption) ?_ ?_
        rotate_left
        · (intro _ _; go_simp; try with_reducible rfl)
        try simp only [Act.put, gA, gB, gC, sA, sB, sC]
        refine tK 8 (v := ?_) (by assumption) ?_ ?_
        rotate_left
        · (intro _ _; go_simp; try with_reducible rfl)
        try simp only [Act.put, gA, gB, gC, sA, sB, sC]
        refine tK 9 (v := ?_) (by assumption) ?_ ?_
        rotate_left
        · (intro _ _; go_simp; try with_reducible rfl)
        try simp only [Act.put, gA, gB, gC, sA, sB, sC]
        refine wpL.eff 11 rfl (by kernel_rfl) rfl ?_
        intro K hK
        go_wp2
        refine hK _ _ (by with_reducible (repeat first | exact bR _ _ | assumption | exact ho (by assumption) | refine bD ?_ | refine bA ?_ ?_ _ | refine bS ?_ ?_ _ | refine bC ?_ (ho (by assumption)) ?_) <;> (first | omega | (simp <;> omega))) (fun hS => ?_)
        clear hK
        try simp only [Act.put, gA, gB, gC, sA, sB, sC]
        refine tK 12 (v := ?_) (by assumption) ?_ ?_
        rotate_left
        · (intro _ _; go_simp; try with_reducible rfl)
        try simp only [Act.put, gA, gB, gC, sA, sB, sC]
        refine wpL.done (by kernel_rfl) ?_
        go_wp2_with fail
        go_meet
        case rel => exact ⟨_, az, cz, rfl, by (first | omega | (simp only [World.size_alloc, sz_set, sz_drew, sz_drewN]; done) | (simp only [World.size_alloc, sz_set, sz_drew, sz_drewN]; omega)), Lib.hid (by with_reducible (repeat first | assumption | exact ho (by assumption) | (refine Blk.newAt ?z; case z => first | rfl | (first | omega | (simp <;> omega))) | apply Blk.three | apply Blk.seven | apply Blk.nine | (refine Blk.far ?_ ?z _; case z => ((try dsimp only); (first | omega | (simp <;> omega)))) | refine Blk.alloc ?_ _ | refine Blk.drew ?_ | refine Blk.turnTo ?_ (ho (by assumption)) ?_ | refine Blk.belowB ?_ (ho (by assumption)) ?_) <;> (first | omega | (simp <;> omega))), Lib.hid ((HO5.out.rdn.kp (by with_reducible (repeat first | exact kR _ _ _ | assumption | exact ho (by assumption) | refine kD ?_ | refine kA ?_ _ | refine kS ?_ ?_ _ | refine kC ?_ (ho (by assumption))) <;> (first | omega | (simp <;> omega)))).mono (by (first | omega | (simp only [World.size_alloc, sz_set, sz_drew, sz_drewN]; done) | (simp only [World.size_alloc, sz_set, sz_drew, sz_drewN]; omega)))), Lib.hid (by with_reducible (repeat first | exact bR _ _ | assumption | exact ho (by assumption) | refine bD ?_ | refine bN ?_ _ | refine bA ?_ ?_ _ | refine bS ?_ ?_ _) <;> (first | omega | (simp <;> omega)))⟩
    case rest =>
      obtain ⟨bz, az, cz, rfl, hbz, HZB, HZR, HBx⟩ := hcut
      have hzlt := HZB.out.lt
      have hs1 := HBx.out.size
      have HBy : Hid (Below w.heap.size w wc) := Lib.hid (HB0.out.trans (HBx.out.mono HB0.out.size))
      have HC1 := Lib.hid (HC0.out.belowB HBx.out q1)
      have HO1 := Lib.hid (HO0.out.belowB HBx.out q2)
      have q3 : w.heap.size + 1 + 1 < wc.heap.size := by omega
      have q4 : w.heap.size + 1 + 1 ≠ bz := by omega
      have q5 : bz ≠ w.heap.size + 1 + 1 := by omega
      clear c0 c1 c2 c3 c4 c5 c6 d0 d1 d2 q0 q1 HC0 HO0 HP0
      go_wp2
      go_loopg [18] 3 (fun fu v18 wr => ∃ k : Nat, v18 = .int .i64 k ∧ k ≤ 3 ∧ 3 - k ≤ fu ∧ Hid ((k = 0 ∧ Blk wr (w.heap.size + 1 + 1) 88 #[.int .i64 0, .bool false, .slice none 0 0, .int .i64 0, .bool false, .slice none 0 0, .int .i64 0, .bool false, .slice none 0 0]) ∨ (k = 1 ∧ Blk wr (w.heap.size + 1 + 1) 88 #[.int .i64 E0.level, .bool E0.special, .slice r0 E0.rows.length k0, .int .i64 0, .bool false, .slice none 0 0, .int .i64 0, .bool false, .slice none 0 0]) ∨ (k = 2 ∧ Blk wr (w.heap.size + 1 + 1) 88 #[.int .i64 E0.level, .bool E0.special, .slice r0 E0.rows.length k0, .int .i64 E1.level, .bool E1.special, .slice r1 E1.rows.length k1, .int .i64 0, .bool false, .slice none 0 0]) ∨ (k = 3 ∧ Blk wr (w.heap.size + 1 + 1) 88 #[.int .i64 E0.level, .bool E0.special, .slice r0 E0.rows.length k0, .int .i64 E1.level, .bool E1.special, .slice r1 E1.rows.length k1, .int .i64 (lv : Int), .bool false, .slice az m cz])) ∧ Hid (Turn wc wr [w.heap.size + 1 + 1]))
      case atStart => exact ⟨0, rfl, by omega, by omega, Lib.hid (.inl ⟨rfl, HO1.out⟩), Lib.hid (Turn.refl _ _)⟩
      case round =>
        obtain ⟨k, rfl, hk, hfu, HK, HT⟩ := hrel
        have HBr : Hid (Below w.heap.size w wr) := Lib.hid (HBy.out.trans (HT.out.belowN HBy.out.size (fun y hy => by simp at hy; omega)))
        obtain ⟨hcr, hfr⟩ := bcellB HBr.out
        obtain ⟨d0, d1, d2⟩ := el_cells (HC1.out.turn HT.out (by simp))
        obtain ⟨e0, e1, e2⟩ := el_cells (HZB.out.turn HT.out (by simp; omega))
        have hs2 := HT.out.size
        have q6 : w.heap.size + 1 + 1 < wr.heap.size := by omega
        rcases HK.out with ⟨rfl, h⟩ | ⟨rfl, h⟩ | ⟨rfl, h⟩ | ⟨rfl, h⟩
        case inr.inr.inr =>
          obtain ⟨n0, n1, n2, n3, n4, n5, n6, n7, n8⟩ := nine_cells h
          have f0 := h.free
          have hwo := HW0.out
          clear h HK
          go_wp2
          refine bodyPost_ret (v := .agg #[.int .i64 E0.level, .bool E0.special, .slice r0 E0.rows.length k0, .int .i64 E1.level, .bool E1.special, .slice r1 E1.rows.length k1, .int .i64 (lv : Int), .bool false, .slice az m cz]) (by simp [results, Tryz.results77, go_sem, n0, n1, n2, n3, n4, n5, n6, n7, n8]) rfl ⟨⟨_, _, _, _, _, _, rfl, ?_, ?_, ?_⟩, (by with_reducible (repeat first | exact bR _ _ | assumption | exact ho (by assumption) | refine bD ?_ | refine bN ?_ _ | refine bA ?_ ?_ _ | refine bS ?_ ?_ _) <;> (first | omega | (simp <;> omega)))⟩
          · exact fun W hb _ => HX.out W ((HBr.out.mono hwo).trans (Below.trans (by with_reducible (repeat first | exact bR _ _ | assumption | exact ho (by assumption) | refine bD ?_ | refine bN ?_ _ | refine bA ?_ ?_ _ | refine bS ?_ ?_ _) <;> (first | omega | (simp <;> omega))) hb))
          · exact fun W hb _ => HY.out W ((HBr.out.mono hwo).trans (Below.trans (by with_reducible (repeat first | exact bR _ _ | assumption | exact ho (by assumption) | refine bD ?_ | refine bN ?_ _ | refine bA ?_ ?_ _ | refine bS ?_ ?_ _) <;> (first | omega | (simp <;> omega))) hb))
          · exact fun W _ hk => ((HZR.out.kp ((Kp.of_turn HT.out (fun y hy => by simp at hy; omega)).trans (by with_reducible (repeat first | exact kR _ _ _ | assumption | exact ho (by assumption) | refine kD ?_ | refine kA ?_ _ | refine kS ?_ ?_ _ | refine kC ?_ (ho (by assumption))) <;> (first | omega | (simp <;> omega))))).kp (hk.mono (by omega))).rd
        case inl =>
          obtain ⟨n0, n1, n2, n3, n4, n5, n6, n7, n8⟩ := nine_cells h
          have f0 := h.free
          have HH := Lib.hid h
          clear h HK
          go_wp2
          go_roundg 2
          case measure => omega
          case rel => exact ⟨1, by go_num, by omega, by omega, Lib.hid (.inr (.inl ⟨rfl, Blk.cast ((((((HH.out.set 0 _).set 1 _).set 2 _).set 0 _).set 1 _).set 2 _) (by simp)⟩)), Lib.hid (by with_reducible (repeat first | exact tR _ _ | assumption | exact ho (by assumption) | refine tD ?_ | refine tA ?_ _ | refine tS ?_ (by simp) _ | refine tC ?_ (ho (by assumption))))⟩
        case inr.inl =>
          obtain ⟨n0, n1, n2, n3, n4, n5, n6, n7, n8⟩ := nine_cells h
          have f0 := h.free
          have HH := Lib.hid h
          clear h HK
          go_wp2
          go_roundg 1
          case measure => omega
          case rel => exact ⟨2, by go_num, by omega, by omega, Lib.hid (.inr (.inr (.inl ⟨rfl, Blk.cast ((((((HH.out.set 3 _).set 4 _).set 5 _).set 3 _).set 4 _).set 5 _) (by simp)⟩))), Lib.hid (by with_reducible (repeat first | exact tR _ _ | assumption | exact ho (by assumption) | refine tD ?_ | refine tA ?_ _ | refine tS ?_ (by simp) _ | refine tC ?_ (ho (by assumption))))⟩
        case inr.inr.inl =>
          obtain ⟨n0, n1, n2, n3, n4, n5, n6, n7, n8⟩ := nine_cells h
          have f0 := h.free
          have HH := Lib.hid h
          clear h HK
          go_wp2
          go_roundg 0
          case measure => omega
          case rel => exact ⟨3, by go_num, by omega, by omega, Lib.hid (.inr (.inr (.inr ⟨rfl, Blk.cast (((HH.out.set 6 _).set 7 _).set 8 _) (by simp)⟩))), Lib.hid (by with_reducible (repeat first | exact tR _ _ | assumption | exact ho (by assumption) | refine tD ?_ | refine tA ?_ _ | refine tS ?_ (by simp) _ | refine tC ?_ (ho (by assumption))))⟩
  · have HX2' : ∀ W, Below w0.heap.size w W → RdR W r2 (A.part 2).rows := HXZ.out r2 z3
    rw [h3, hE2']
    obtain ⟨E2, hE2''⟩ : ∃ E, A.part 2 = E := ⟨_, rfl⟩
    rw [hE2''] at z0 z1 z2 HX2' ⊢
    have HX2 := Lib.hid HX2'
    clear hE2 h3 hE2' hE2'' z3 HX2' HXZ hz1 hz2 hz3
    go_enter Tryz.func77, Tryz.ntmps77
    go_upto_region 1 with fail
    refine gen_w _ _ (fun W0 hW0 => ?_)
    have HB0 : Hid (Below w.heap.size w W0) := Lib.hid (by rw [hW0]; exact (by with_reducible (repeat first | exact bR _ _ | assumption | exact ho (by assumption) | refine bD ?_ | refine bN ?_ _ | refine bA ?_ ?_ _ | refine bS ?_ ?_ _) <;> (first | omega | (simp <;> omega))))
    have hz0 : W0.heap.size = w.heap.size + 1 + 1 + 1 := by rw [hW0]; simp
    have HP0 : Hid (Blk W0 w.heap.size 25 #[.int .i64 (n : Int), .int .u32 (p.prime : Int), .int .i64 p.power, .slice ca p.chain.length cc, .int .u32 (p.special : Int), .int .i64 p.weight, .int .u32 (p.err : Int)]) := Lib.hid (by rw [hW0]; exact (by repeat (first | exact Blk.newAt (by (first | omega | (simp only [World.size_alloc, sz_set, sz_drew, sz_drewN]; done) | (simp only [World.size_alloc, sz_set, sz_drew, sz_drewN]; omega))) | (with_reducible refine Blk.alloc ?_ _) | (with_reducible refine Blk.drew ?_) | (with_reducible refine Blk.drewN ?_ _) | (with_reducible refine Blk.belowB ?_ (Hid.out (by assumption)) ?szk; case szk => (first | omega | (simp only [World.size_alloc, sz_set, sz_drew, sz_drewN]; done) | (simp only [World.size_alloc, sz_set, sz_drew, sz_drewN]; omega))))))
    have HC0 : Hid (Blk W0 (w.heap.size + 1) 28 #[.int .i64 (lv : Int), .int .i64 X, .slice (some ⟨b, o, none⟩) 3 cA]) := Lib.hid (by rw [hW0]; exact (by repeat (first | exact Blk.newAt (by (first | omega | (simp only [World.size_alloc, sz_set, sz_drew, sz_drewN]; done) | (simp only [World.size_alloc, sz_set, sz_drew, sz_drewN]; omega))) | (with_reducible refine Blk.alloc ?_ _) | (with_reducible refine Blk.drew ?_) | (with_reducible refine Blk.drewN ?_ _) | (with_reducible refine Blk.belowB ?_ (Hid.out (by assumption)) ?szk; case szk => (first | omega | (simp only [World.size_alloc, sz_set, sz_drew, sz_drewN]; done) | (simp only [World.size_alloc, sz_set, sz_drew, sz_drewN]; omega))))))
    have HO0 : Hid (Blk W0 (w.heap.size + 1 + 1) 88 #[.int .i64 0, .bool false, .slice none 0 0, .int .i64 0, .bool false, .slice none 0 0, .int .i64 0, .bool false, .slice none 0 0]) := Lib.hid (by rw [hW0]; exact (by repeat (first | exact Blk.newAt (by (first | omega | (simp only [World.size_alloc, sz_set, sz_drew, sz_drewN]; done) | (simp only [World.size_alloc, sz_set, sz_drew, sz_drewN]; omega))) | (with_reducible refine Blk.alloc ?_ _) | (with_reducible refine Blk.drew ?_) | (with_reducible refine Blk.drewN ?_ _) | (with_reducible refine Blk.belowB ?_ (Hid.out (by assumption)) ?szk; case szk => (first | omega | (simp only [World.size_alloc, sz_set, sz_drew, sz_drewN]; done) | (simp only [World.size_alloc, sz_set, sz_drew, sz_drewN]; omega))))))
    have q0 : w.heap.size < W0.heap.size := by omega
    have q1 : w.heap.size + 1 < W0.heap.size := by omega
    have q2 : w.heap.size + 1 + 1 < W0.heap.size := by omega
    have HZ0 := Lib.hid hz0
    clear hW0 hz0
    obtain ⟨c0, c1, c2, c3, c4, c5, c6⟩ := par_cells HP0.out
    obtain ⟨d0, d1, d2⟩ := el_cells HC0.out
    go_cut [5] (fun v5 wx => ∃ bz az cz, v5 = .pointer (some ⟨bz, 0, none⟩) ∧ W0.heap.size ≤ bz ∧ Hid (Blk wx bz 54 #[.int .i64 (lv : Int), .bool false, .slice az m cz]) ∧ Hid (RdRN wx W0.heap.size az Z.rows) ∧ Hid (Below W0.heap.size W0 wx))
    case first =>
      have hS : (fun w' : World => Below W0.heap.size W0 w') W0.drew := (Below.refl _ _).drew
      refine wp_region_L (fun w' : World => Below W0.heap.size W0 w') 12 (by kernel_rfl) (by kernel_rfl) (by kernel_rfl) ?_
      refine tK 0 (v := ?_) (by assumption) ?_ ?_
      rotate_left
      · (intro _ _; go_simp; try with_reducible rfl)
      try simp only [Act.put, gA, gB, gC, sA, sB, sC]
      refine tK 1 (v := ?_) (by assumption) ?_ ?_
      rotate_left
      · (intro _ _; go_simp; try with_reducible rfl)
      try simp only [Act.put, gA, gB, gC, sA, sB, sC]
      refine tK 2 (v := ?_) (by assumption) ?_ ?_
      rotate_left
      · (intro _ _; go_simp; try with_reducible rfl)
      try simp only [Act.put, gA, gB, gC, sA, sB, sC]
      refine tK 3 (v := ?_) (by assumption) ?_ ?_
      rotate_left
      · (intro _ _; go_simp; try with_reducible rfl)
      try simp only [Act.put, gA, gB, gC, sA, sB, sC]
      refine tK 4 (v := ?_) (by assumption) ?_ ?_
      rotate_left
      · (intro _ _; go_simp; try with_reducible rfl)
      try simp only [Act.put, gA, gB, gC, sA, sB, sC]
      refine wpL.two 5 10 rfl rfl (by kernel_rfl) rfl rfl ?_ ?_  <;> intro K hK
      · go_wp2
        refine hK _ _ (by with_reducible (repeat first | exact bR _ _ | assumption | exact ho (by assumption) | refine bD ?_ | refine bA ?_ ?_ _ | refine bS ?_ ?_ _ | refine bC ?_ (ho (by assumption)) ?_) <;> (first | omega | (simp <;> omega))) (fun hS => ?_)
        clear hK
        try simp only [Act.put, gA, gB, gC, sA, sB, sC]
        refine wpL.two 6 10 rfl rfl (by kernel_rfl) rfl rfl ?_ ?_  <;> intro K hK
        · go_wp2_with fail
          (with_reducible refine Calls.mono (H1.out _ _ (by with_reducible (repeat first | exact bR _ _ | assumption | exact ho (by assumption) | refine bD ?_ | refine bN ?_ _ | refine bA ?_ ?_ _ | refine bS ?_ ?_ _) <;> (first | omega | (simp <;> omega))) (by repeat (first | exact Blk.newAt (by (first | omega | (simp only [World.size_alloc, sz_set, sz_drew, sz_drewN]; done) | (simp only [World.size_alloc, sz_set, sz_drew, sz_drewN]; omega))) | (with_reducible refine Blk.alloc ?_ _) | (with_reducible refine Blk.drew ?_) | (with_reducible refine Blk.drewN ?_ _) | (with_reducible refine Blk.belowB ?_ (Hid.out (by assumption)) ?szk; case szk => (first | omega | (simp only [World.size_alloc, sz_set, sz_drew, sz_drewN]; done) | (simp only [World.size_alloc, sz_set, sz_drew, sz_drewN]; omega)))))) ?_)
          rintro e w5 ⟨⟨az, cz, rfl, hO⟩, hb⟩
          have HO5 := Lib.hid hO
          obtain ⟨hc_w5, hf_w5⟩ := bcell hb
          have HB_w5 : Hid (Below W0.heap.size W0 w5) := Lib.hid (below_step (by with_reducible (repeat first | exact bR _ _ | assumption | exact ho (by assumption) | refine bD ?_ | refine bN ?_ _ | refine bA ?_ ?_ _ | refine bS ?_ ?_ _) <;> (first | omega | (simp <;> omega))) hb)
          have hs_w5 := hb.size
          try simp only [World.size_alloc, sz_set, sz_drew, sz_drewN] at hs_w5
          have HK_w5 := Lib.hid hb
          have HC_w5 := Lib.hid (callTo hb)
          clear hb
          clear hO
          refine hK _ _ (by with_reducible (repeat first | exact bR _ _ | assumption | exact ho (by assumption) | refine bD ?_ | refine bA ?_ ?_ _ | refine bS ?_ ?_ _ | refine bC ?_ (ho (by assumption)) ?_) <;> (first | omega | (simp <;> omega))) (fun hS => ?_)
          clear hK
          try simp only [Act.put, gA, gB, gC, sA, sB, sC]
          refine tK 7 (v := ?_) (by assumption) ?_ ?_
          rotate_left
          · (intro _ _; go_simp; try with_reducible rfl)
          try simp only [Act.put, gA, gB, gC, sA, sB, sC]
          refine tK 8 (v := ?_) (by assumption) ?_ ?_
          rotate_left
          · (intro _ _; go_simp; try with_reducible rfl)
          try simp only [Act.put, gA, gB, gC, sA, sB, sC]
          refine tK 9 (v := ?_) (by assumption) ?_ ?_
          rotate_left
          · (intro _ _; go_simp; try with_reducible rfl)
          try simp only [Act.put, gA, gB, gC, sA, sB, sC]
          refine wpL.eff 10 rfl (by kernel_rfl) rfl ?_
          intro K hK
          go_wp2
          refine hK _ _ (by with_reducible (repeat first | exact bR _ _ | assumption | exact ho (by assumption) | refine bD ?_ | refine bA ?_ ?_ _ | refine bS ?_ ?_ _ | refine bC ?_ (ho (by assumption)) ?_) <;> (first | omega | (simp <;> omega))) (fun hS => ?_)
          clear hK
          try simp only [Act.put, gA, gB, gC, sA, sB, sC]
          refine wpL.eff 11 rfl (by kernel_rfl) rfl ?_
          intro K hK
          go_wp2
          refine hK _ _ (by with_reducible (repeat first | exact bR _ _ | assumption | exact ho (by assumption) | refine bD ?_ | refine bA ?_ ?_ _ | refine bS ?_ ?_ _ | refine bC ?_ (ho (by assumption)) ?_) <;> (first | omega | (simp <;> omega))) (fun hS => ?_)
          clear hK
          try simp only [Act.put, gA, gB, gC, sA, sB, sC]
          refine tK 12 (v := ?_) (by assumption) ?_ ?_
          rotate_left
          · (intro _ _; go_simp; try with_reducible rfl)
          try simp only [Act.put, gA, gB, gC, sA, sB, sC]
          refine wpL.done (by kernel_rfl) ?_
          go_wp2_with fail
          go_meet
          case rel => exact ⟨_, az, cz, rfl, by (first | omega | (simp only [World.size_alloc, sz_set, sz_drew, sz_drewN]; done) | (simp only [World.size_alloc, sz_set, sz_drew, sz_drewN]; omega)), Lib.hid (by with_reducible (repeat first | assumption | exact ho (by assumption) | (refine Blk.newAt ?z; case z => first | rfl | (first | omega | (simp <;> omega))) | apply Blk.three | apply Blk.seven | apply Blk.nine | (refine Blk.far ?_ ?z _; case z => ((try dsimp only); (first | omega | (simp <;> omega)))) | refine Blk.alloc ?_ _ | refine Blk.drew ?_ | refine Blk.turnTo ?_ (ho (by assumption)) ?_ | refine Blk.belowB ?_ (ho (by assumption)) ?_) <;> (first | omega | (simp <;> omega))), Lib.hid ((HO5.out.rdn.kp (by with_reducible (repeat first | exact kR _ _ _ | assumption | exact ho (by assumption) | refine kD ?_ | refine kA ?_ _ | refine kS ?_ ?_ _ | refine kC ?_ (ho (by assumption))) <;> (first | omega | (simp <;> omega)))).mono (by (first | omega | (simp only [World.size_alloc, sz_set, sz_drew, sz_drewN]; done) | (simp only [World.size_alloc, sz_set, sz_drew, sz_drewN]; omega)))), Lib.hid (by with_reducible (repeat first | exact bR _ _ | assumption | exact ho (by assumption) | refine bD ?_ | refine bN ?_ _ | refine bA ?_ ?_ _ | refine bS ?_ ?_ _) <;> (first | omega | (simp <;> omega)))⟩
        · go_wp2
          refine hK _ _ (by with_reducible (repeat first | exact bR _ _ | assumption | exact ho (by assumption) | refine bD ?_ | refine bA ?_ ?_ _ | refine bS ?_ ?_ _ | refine bC ?_ (ho (by assumption)) ?_) <;> (first | omega | (simp <;> omega))) (fun hS => ?_)
          clear hK
          try simp only [Act.put, gA, gB, gC, sA, sB, sC]
          refine wpL.eff 6 rfl (by kernel_rfl) rfl ?_
          intro K hK
          go_wp2_with fail
          (with_reducible refine Calls.mono (H1.out _ _ (by with_reducible (repeat first | exact bR _ _ | assumption | exact ho (by assumption) | refine bD ?_ | refine bN ?_ _ | refine bA ?_ ?_ _ | refine bS ?_ ?_ _) <;> (first | omega | (simp <;> omega))) (by repeat (first | exact Blk.newAt (by (first | omega | (simp only [World.size_alloc, sz_set, sz_drew, sz_drewN]; done) | (simp only [World.size_alloc, sz_set, sz_drew, sz_drewN]; omega))) | (with_reducible refine Blk.alloc ?_ _) | (with_reducible refine Blk.drew ?_) | (with_reducible refine Blk.drewN ?_ _) | (with_reducible refine Blk.belowB ?_ (Hid.out (by assumption)) ?szk; case szk => (first | omega | (simp only [World.size_alloc, sz_set, sz_drew, sz_drewN]; done) | (simp only [World.size_alloc, sz_set, sz_drew, sz_drewN]; omega)))))) ?_)
          rintro e w5 ⟨⟨az, cz, rfl, hO⟩, hb⟩
          have HO5 := Lib.hid hO
          obtain ⟨hc_w5, hf_w5⟩ := bcell hb
          have HB_w5 : Hid (Below W0.heap.size W0 w5) := Lib.hid (below_step (by with_reducible (repeat first | exact bR _ _ | assumption | exact ho (by assumption) | refine bD ?_ | refine bN ?_ _ | refine bA ?_ ?_ _ | refine bS ?_ ?_ _) <;> (first | omega | (simp <;> omega))) hb)
          have hs_w5 := hb.size
          try simp only [World.size_alloc, sz_set, sz_drew, sz_drewN] at hs_w5
          have HK_w5 := Lib.hid hb
          have HC_w5 := Lib.hid (callTo hb)
          clear hb
          clear hO
          refine hK _ _ (by with_reducible (repeat first | exact bR _ _ | assumption | exact ho (by assumption) | refine bD ?_ | refine bA ?_ ?_ _ | refine bS ?_ ?_ _ | refine bC ?_ (ho (by assumption)) ?_) <;> (first | omega | (simp <;> omega))) (fun hS => ?_)
          clear hK
          try simp only [Act.put, gA, gB, gC, sA, sB, sC]
          refine tK 7 (v := ?_) (by assumption) ?_ ?_
          rotate_left
          · (intro _ _; go_simp; try with_reducible rfl)
          try simp only [Act.put, gA, gB, gC, sA, sB, sC]
          refine tK 8 (v := ?_) (by assumption) ?_ ?_
          rotate_left
          · (intro _ _; go_simp; try with_reducible rfl)
          try simp only [Act.put, gA, gB, gC, sA, sB, sC]
          refine tK 9 (v := ?_) (by assumption) ?_ ?_
          rotate_left
          · (intro _ _; go_simp; try with_reducible rfl)
          try simp only [Act.put, gA, gB, gC, sA, sB, sC]
          refine wpL.eff 11 rfl (by kernel_rfl) rfl ?_
          intro K hK
          go_wp2
          refine hK _ _ (by with_reducible (repeat first | exact bR _ _ | assumption | exact ho (by assumption) | refine bD ?_ | refine bA ?_ ?_ _ | refine bS ?_ ?_ _ | refine bC ?_ (ho (by assumption)) ?_) <;> (first | omega | (simp <;> omega))) (fun hS => ?_)
          clear hK
          try simp only [Act.put, gA, gB, gC, sA, sB, sC]
          refine tK 12 (v := ?_) (by assumption) ?_ ?_
          rotate_left
          · (intro _ _; go_simp; try with_reducible rfl)
          try simp only [Act.put, gA, gB, gC, sA, sB, sC]
          refine wpL.done (by kernel_rfl) ?_
          go_wp2_with fail
          go_meet
          case rel => exact ⟨_, az, cz, rfl, by (first | omega | (simp only [World.size_alloc, sz_set, sz_drew, sz_drewN]; done) | (simp only [World.size_alloc, sz_set, sz_drew, sz_drewN]; omega)), Lib.hid (by with_reducible (repeat first | assumption | exact ho (by assumption) | (refine Blk.newAt ?z; case z => first | rfl | (first | omega | (simp <;> omega))) | apply Blk.three | apply Blk.seven | apply Blk.nine | (refine Blk.far ?_ ?z _; case z => ((try dsimp only); (first | omega | (simp <;> omega)))) | refine Blk.alloc ?_ _ | refine Blk.drew ?_ | refine Blk.turnTo ?_ (ho (by assumption)) ?_ | refine Blk.belowB ?_ (ho (by assumption)) ?_) <;> (first | omega | (simp <;> omega))), Lib.hid ((HO5.out.rdn.kp (by with_reducible (repeat first | exact kR _ _ _ | assumption | exact ho (by assumption) | refine kD ?_ | refine kA ?_ _ | refine kS ?_ ?_ _ | refine kC ?_ (ho (by assumption))) <;> (first | omega | (simp <;> omega)))).mono (by (first | omega | (simp only [World.size_alloc, sz_set, sz_drew, sz_drewN]; done) | (simp only [World.size_alloc, sz_set, sz_drew, sz_drewN]; omega)))), Lib.hid (by with_reducible (repeat first | exact bR _ _ | assumption | exact ho (by assumption) | refine bD ?_ | refine bN ?_ _ | refine bA ?_ ?_ _ | refine bS ?_ ?_ _) <;> (first | omega | (simp <;> omega)))⟩
      · go_wp2
        refine hK _ _ (by with_reducible (repeat first | exact bR _ _ | assumption | exact ho (by assumption) | refine bD ?_ | refine bA ?_ ?_ _ | refine bS ?_ ?_ _ | refine bC ?_ (ho (by assumption)) ?_) <;> (first | omega | (simp <;> omega))) (fun hS => ?_)
        clear hK
        try simp only [Act.put, gA, gB, gC, sA, sB, sC]
        refine wpL.eff 5 rfl (by kernel_rfl) rfl ?_
        intro K hK
        go_wp2
        refine hK _ _ (by with_reducible (repeat first | exact bR _ _ | assumption | exact ho (by assumption) | refine bD ?_ | refine bA ?_ ?_ _ | refine bS ?_ ?_ _ | refine bC ?_ (ho (by assumption)) ?_) <;> (first | omega | (simp <;> omega))) (fun hS => ?_)
        clear hK
        try simp only [Act.put, gA, gB, gC, sA, sB, sC]
        refine wpL.eff 6 rfl (by kernel_rfl) rfl ?_
        intro K hK
        go_wp2_with fail
        (with_reducible refine Calls.mono (H1.out _ _ (by with_reducible (repeat first | exact bR _ _ | assumption | exact ho (by assumption) | refine bD ?_ | refine bN ?_ _ | refine bA ?_ ?_ _ | refine bS ?_ ?_ _) <;> (first | omega | (simp <;> omega))) (by repeat (first | exact Blk.newAt (by (first | omega | (simp only [World.size_alloc, sz_set, sz_drew, sz_drewN]; done) | (simp only [World.size_alloc, sz_set, sz_drew, sz_drewN]; omega))) | (with_reducible refine Blk.alloc ?_ _) | (with_reducible refine Blk.drew ?_) | (with_reducible refine Blk.drewN ?_ _) | (with_reducible refine Blk.belowB ?_ (Hid.out (by assumption)) ?szk; case szk => (first | omega | (simp only [World.size_alloc, sz_set, sz_drew, sz_drewN]; done) | (simp only [World.size_alloc, sz_set, sz_drew, sz_drewN]; omega)))))) ?_)
        rintro e w5 ⟨⟨az, cz, rfl, hO⟩, hb⟩
        have HO5 := Lib.hid hO
        obtain ⟨hc_w5, hf_w5⟩ := bcell hb
        have HB_w5 : Hid (Below W0.heap.size W0 w5) := Lib.hid (below_step (by with_reducible (repeat first | exact bR _ _ | assumption | exact ho (by assumption) | refine bD ?_ | refine bN ?_ _ | refine bA ?_ ?_ _ | refine bS ?_ ?_ _) <;> (first | omega | (simp <;> omega))) hb)
        have hs_w5 := hb.size
        try simp only [World.size_alloc, sz_set, sz_drew, sz_drewN] at hs_w5
        have HK_w5 := Lib.hid hb
        have HC_w5 := Lib.hid (callTo hb)
        clear hb
        clear hO
        refine hK _ _ (by with_reducible (repeat first | exact bR _ _ | assumption | exact ho (by assumption) | refine bD ?_ | refine bA ?_ ?_ _ | refine bS ?_ ?_ _ | refine bC ?_ (ho (by assumption)) ?_) <;> (first | omega | (simp <;> omega))) (fun hS => ?_)
        clear hK
        try simp only [Act.put, gA, gB, gC, sA, sB, sC]
        refine tK 7 (v := ?_) (by assumption) ?_ ?_
        rotate_left
        · (intro _ _; go_simp; try with_reducible rfl)
        try simp only [Act.put, gA, gB, gC, sA, sB, sC]
        refine tK 8 (v := ?_) (by assumption) ?_ ?_
        rotate_left
        · (intro _ _; go_simp; try with_reducible rfl)
        try simp only [Act.put, gA, gB, gC, sA, sB, sC]
        refine tK 9 (v := ?_) (by assumption) ?_ ?_
        rotate_left
        · (intro _ _; go_simp; try with_reducible rfl)
        try simp only [Act.put, gA, gB, gC, sA, sB, sC]
        refine wpL.eff 11 rfl (by kernel_rfl) rfl ?_
        intro K hK
        go_wp2
        refine hK _ _ (by with_reducible (repeat first | exact bR _ _ | assumption | exact ho (by assumption) | refine bD ?_ | refine bA ?_ ?_ _ | refine bS ?_ ?_ _ | refine bC ?_ (ho (by assumption)) ?_) <;> (first | omega | (simp <;> omega))) (fun hS => ?_)
        clear hK
        try simp only [Act.put, gA, gB, gC, sA, sB, sC]
        refine tK 12 (v := ?_) (by assumption) ?_ ?_
        rotate_left
        · (intro _ _; go_simp; try with_reducible rfl)
        try simp only [Act.put, gA, gB, gC, sA, sB, sC]
        refine wpL.done (by kernel_rfl) ?_
        go_wp2_with fail
        go_meet
        case rel => exact ⟨_, az, cz, rfl, by (first | omega | (simp only [World.size_alloc, sz_set, sz_drew, sz_drewN]; done) | (simp only [World.size_alloc, sz_set, sz_drew, sz_drewN]; omega)), Lib.hid (by with_reducible (repeat first | assumption | exact ho (by assumption) | (refine Blk.newAt ?z; case z => first | rfl | (first | omega | (simp <;> omega))) | apply Blk.three | apply Blk.seven | apply Blk.nine | (refine Blk.far ?_ ?z _; case z => ((try dsimp only); (first | omega | (simp <;> omega)))) | refine Blk.alloc ?_ _ | refine Blk.drew ?_ | refine Blk.turnTo ?_ (ho (by assumption)) ?_ | refine Blk.belowB ?_ (ho (by assumption)) ?_) <;> (first | omega | (simp <;> omega))), Lib.hid ((HO5.out.rdn.kp (by with_reducible (repeat first | exact kR _ _ _ | assumption | exact ho (by assumption) | refine kD ?_ | refine kA ?_ _ | refine kS ?_ ?_ _ | refine kC ?_ (ho (by assumption))) <;> (first | omega | (simp <;> omega)))).mono (by (first | omega | (simp only [World.size_alloc, sz_set, sz_drew, sz_drewN]; done) | (simp only [World.size_alloc, sz_set, sz_drew, sz_drewN]; omega)))), Lib.hid (by with_reducible (repeat first | exact bR _ _ | assumption | exact ho (by assumption) | refine bD ?_ | refine bN ?_ _ | refine bA ?_ ?_ _ | refine bS ?_ ?_ _) <;> (first | omega | (simp <;> omega)))⟩
    case rest =>
      obtain ⟨bz, az, cz, rfl, hbz, HZB, HZR, HBx⟩ := hcut
      have hzlt := HZB.out.lt
      have hs1 := HBx.out.size
      have HBy : Hid (Below w.heap.size w wc) := Lib.hid (HB0.out.trans (HBx.out.mono HB0.out.size))
      have HC1 := Lib.hid (HC0.out.belowB HBx.out q1)
      have HO1 := Lib.hid (HO0.out.belowB HBx.out q2)
      have q3 : w.heap.size + 1 + 1 < wc.heap.size := by omega
      have q4 : w.heap.size + 1 + 1 ≠ bz := by omega
      have q5 : bz ≠ w.heap.size + 1 + 1 := by omega
      clear c0 c1 c2 c3 c4 c5 c6 d0 d1 d2 q0 q1 HC0 HO0 HP0
      go_wp2
      go_loopg [18] 3 (fun fu v18 wr => ∃ k : Nat, v18 = .int .i64 k ∧ k ≤ 3 ∧ 3 - k ≤ fu ∧ Hid ((k = 0 ∧ Blk wr (w.heap.size + 1 + 1) 88 #[.int .i64 0, .bool false, .slice none 0 0, .int .i64 0, .bool false, .slice none 0 0, .int .i64 0, .bool false, .slice none 0 0]) ∨ (k = 1 ∧ Blk wr (w.heap.size + 1 + 1) 88 #[.int .i64 E0.level, .bool E0.special, .slice r0 E0.rows.length k0, .int .i64 0, .bool false, .slice none 0 0, .int .i64 0, .bool false, .slice none 0 0]) ∨ (k = 2 ∧ Blk wr (w.heap.size + 1 + 1) 88 #[.int .i64 E0.level, .bool E0.special, .slice r0 E0.rows.length k0, .int .i64 E1.level, .bool E1.special, .slice r1 E1.rows.length k1, .int .i64 0, .bool false, .slice none 0 0]) ∨ (k = 3 ∧ Blk wr (w.heap.size + 1 + 1) 88 #[.int .i64 E0.level, .bool E0.special, .slice r0 E0.rows.length k0, .int .i64 E1.level, .bool E1.special, .slice r1 E1.rows.length k1, .int .i64 E2.level, .bool E2.special, .slice r2 E2.rows.length k2])) ∧ Hid (Turn wc wr [w.heap.size + 1 + 1]))
      case atStart => exact ⟨0, rfl, by omega, by omega, Lib.hid (.inl ⟨rfl, HO1.out⟩), Lib.hid (Turn.refl _ _)⟩
      case round =>
        obtain ⟨k, rfl, hk, hfu, HK, HT⟩ := hrel
        have HBr : Hid (Below w.heap.size w wr) := Lib.hid (HBy.out.trans (HT.out.belowN HBy.out.size (fun y hy => by simp at hy; omega)))
        obtain ⟨hcr, hfr⟩ := bcellB HBr.out
        obtain ⟨d0, d1, d2⟩ := el_cells (HC1.out.turn HT.out (by simp))
        obtain ⟨e0, e1, e2⟩ := el_cells (HZB.out.turn HT.out (by simp; omega))
        have hs2 := HT.out.size
        have q6 : w.heap.size + 1 + 1 < wr.heap.size := by omega
        rcases HK.out with ⟨rfl, h⟩ | ⟨rfl, h⟩ | ⟨rfl, h⟩ | ⟨rfl, h⟩
        case inr.inr.inr =>
          obtain ⟨n0, n1, n2, n3, n4, n5, n6, n7, n8⟩ := nine_cells h
          have f0 := h.free
          have hwo := HW0.out
          clear h HK
          go_wp2
          refine bodyPost_ret (v := .agg #[.int .i64 E0.level, .bool E0.special, .slice r0 E0.rows.length k0, .int .i64 E1.level, .bool E1.special, .slice r1 E1.rows.length k1, .int .i64 E2.level, .bool E2.special, .slice r2 E2.rows.length k2]) (by simp [results, Tryz.results77, go_sem, n0, n1, n2, n3, n4, n5, n6, n7, n8]) rfl ⟨⟨_, _, _, _, _, _, rfl, ?_, ?_, ?_⟩, (by with_reducible (repeat first | exact bR _ _ | assumption | exact ho (by assumption) | refine bD ?_ | refine bN ?_ _ | refine bA ?_ ?_ _ | refine bS ?_ ?_ _) <;> (first | omega | (simp <;> omega)))⟩
          · exact fun W hb _ => HX.out W ((HBr.out.mono hwo).trans (Below.trans (by with_reducible (repeat first | exact bR _ _ | assumption | exact ho (by assumption) | refine bD ?_ | refine bN ?_ _ | refine bA ?_ ?_ _ | refine bS ?_ ?_ _) <;> (first | omega | (simp <;> omega))) hb))
          · exact fun W hb _ => HY.out W ((HBr.out.mono hwo).trans (Below.trans (by with_reducible (repeat first | exact bR _ _ | assumption | exact ho (by assumption) | refine bD ?_ | refine bN ?_ _ | refine bA ?_ ?_ _ | refine bS ?_ ?_ _) <;> (first | omega | (simp <;> omega))) hb))
          · exact fun W hb _ => HX2.out W ((HBr.out.mono hwo).trans (Below.trans (by with_reducible (repeat first | exact bR _ _ | assumption | exact ho (by assumption) | refine bD ?_ | refine bN ?_ _ | refine bA ?_ ?_ _ | refine bS ?_ ?_ _) <;> (first | omega | (simp <;> omega))) hb))
        case inl =>
          obtain ⟨n0, n1, n2, n3, n4, n5, n6, n7, n8⟩ := nine_cells h
          have f0 := h.free
          have HH := Lib.hid h
          clear h HK
          go_wp2
          go_roundg 2
          case measure => omega
          case rel => exact ⟨1, by go_num, by omega, by omega, Lib.hid (.inr (.inl ⟨rfl, Blk.cast ((((((HH.out.set 0 _).set 1 _).set 2 _).set 0 _).set 1 _).set 2 _) (by simp)⟩)), Lib.hid (by with_reducible (repeat first | exact tR _ _ | assumption | exact ho (by assumption) | refine tD ?_ | refine tA ?_ _ | refine tS ?_ (by simp) _ | refine tC ?_ (ho (by assumption))))⟩
        case inr.inl =>
          obtain ⟨n0, n1, n2, n3, n4, n5, n6, n7, n8⟩ := nine_cells h
          have f0 := h.free
          have HH := Lib.hid h
          clear h HK
          go_wp2
          go_roundg 1
          case measure => omega
          case rel => exact ⟨2, by go_num, by omega, by omega, Lib.hid (.inr (.inr (.inl ⟨rfl, Blk.cast ((((((HH.out.set 3 _).set 4 _).set 5 _).set 3 _).set 4 _).set 5 _) (by simp)⟩))), Lib.hid (by with_reducible (repeat first | exact tR _ _ | assumption | exact ho (by assumption) | refine tD ?_ | refine tA ?_ _ | refine tS ?_ (by simp) _ | refine tC ?_ (ho (by assumption))))⟩
        case inr.inr.inl =>
          obtain ⟨n0, n1, n2, n3, n4, n5, n6, n7, n8⟩ := nine_cells h
          have f0 := h.free
          have HH := Lib.hid h
          clear h HK
          go_wp2
          go_roundg 0
          case measure => omega
          case rel => exact ⟨3, by go_num, by omega, by omega, Lib.hid (.inr (.inr (.inr ⟨rfl, Blk.cast ((((((HH.out.set 6 _).set 7 _).set 8 _).set 6 _).set 7 _).set 8 _) (by simp)⟩))), Lib.hid (by with_reducible (repeat first | exact tR _ _ | assumption | exact ho (by assumption) | refine tD ?_ | refine tA ?_ _ | refine tS ?_ (by simp) _ | refine tC ?_ (ho (by assumption))))⟩
end Go.Proofs.YtcipjbckcnkfaaaGreat
