/- The program's Tensor: its middle part. (Printed by gentens.py.) -/
import Derived.Test.YtcipjbckcnkfaaaGreatPs42
set_option linter.unusedSimpArgs false
set_option linter.unusedVariables false
namespace Go.Proofs.YtcipjbckcnkfaaaGreat
open Go.RowKit Go.Shelf
attribute [local go_sem ↓] Go.wp_at_zero Go.wp_at_succ

/-- The world gets a name. -/
theorem gen_w (F : World → Prop) (w : World) (h : ∀ W, W = w → F W) : F w := h w rfl

set_option maxHeartbeats 12800000 in
set_option maxRecDepth 100000 in
theorem tensor1_mid (pb ba bb : Nat) (p : Par) (ca : Option Addr) (cc : Nat) (A B : Ci) (aa ab : Option Addr) (cA cB : Nat) (w : World) (hT : TensAt w pb ba bb p ca cc A B aa ab cA cB) (hg : Good p) (hM : CiMatch p A B) (ha2 : A.parts.length = 2) (hb2 : B.parts.length = 2) :
    Calls Tryz.prog 37 #[.int .i64 1, .pointer (some ⟨pb, 0, none⟩), .pointer (some ⟨ba, 0, none⟩), .pointer (some ⟨bb, 0, none⟩)] w fun e w' => PutEl w.heap.size (sumEl p (mulEl p (A.part 0) (B.part 1)) (mulEl p (A.part 1) (B.part 0)) 1) e w' ∧ Below w.heap.size w w' := by
  obtain ⟨b1, o1, rfl, hA⟩ := hT.ra 0 (by omega)
  obtain ⟨r1, c1, x0, x1, x2, x3, _⟩ := hA 0 (by omega)
  obtain ⟨r3, c3, u0, u1, u2, u3, _⟩ := hA 1 (by omega)
  obtain ⟨b2, o2, rfl, hB⟩ := hT.rb 0 (by omega)
  obtain ⟨r2, c2, y0, y1, y2, y3, _⟩ := hB 0 (by omega)
  obtain ⟨r4, c4, z0, z1, z2, z3, _⟩ := hB 1 (by omega)
  rw [show A.parts.getD 0 ⟨0, false, []⟩ = A.part 0 from rfl] at x0 x1 x2 x3
  rw [show A.parts.getD 1 ⟨0, false, []⟩ = A.part 1 from rfl] at u0 u1 u2 u3
  rw [show B.parts.getD 0 ⟨0, false, []⟩ = B.part 0 from rfl] at y0 y1 y2 y3
  rw [show B.parts.getD 1 ⟨0, false, []⟩ = B.part 1 from rfl] at z0 z1 z2 z3
  simp only [Nat.zero_mul, Nat.one_mul, Nat.add_zero] at x0 x1 x2 u0 u1 u2 y0 y1 y2 z0 z1 z2
  have hM1 := hM.part (i := 0) (j := 1) (by omega) (by omega)
  have hM2 := hM.part (i := 1) (j := 0) (by omega) (by omega)
  have H1 := Lib.hid (fun (w' : World) (hb : Below w.heap.size w w') => rgMul_walk p ca cc (A.part 0) (B.part 1) r1 r4 c1 c4 w' (hT.hin.below hb) hg hM1 (x3.below hb) (z3.below hb))
  have H2 := Lib.hid (fun (w' : World) (hb : Below w.heap.size w w') => rgMul_walk p ca cc (A.part 1) (B.part 0) r3 r2 c3 c2 w' (hT.hin.below hb) hg hM2 (u3.below hb) (y3.below hb))
  have hM3 : Match p (mulEl p (A.part 0) (B.part 1)) (mulEl p (A.part 1) (B.part 0)) := by
    have e1 : (A.part 1).level = (A.part 0).level := by rw [(hM.1.2.2 1 (by omega)).2.1, (hM.1.2.2 0 (by omega)).2.1]
    have e2 : (A.part 1).special = (A.part 0).special := by rw [(hM.1.2.2 1 (by omega)).2.2, (hM.1.2.2 0 (by omega)).2.2]
    exact ⟨mulEl_ok hg hM1, mulEl_ok hg hM2, e1, e2⟩
  have H3 := Lib.hid (fun (w' : World) (hb : Below w.heap.size w w') (a1 a2 : Option Addr) (k1 k2 : Nat) (h1 : RdR w' a1 (mulEl p (A.part 0) (B.part 1)).rows) (h2 : RdR w' a2 (mulEl p (A.part 1) (B.part 0)).rows) => rgAdd_walk p ca cc _ _ a1 a2 k1 k2 w' (hT.hin.below hb) hg hM3 h1 h2)
  obtain ⟨cp0, cp1, cp2, cp3, cp4, cp5, cp6⟩ := par_cells hT.hp
  have ca2 : w.cell? ⟨ba, 2, none⟩ = some (.slice (some ⟨b1, o1, none⟩) 2 cA) := by have := hT.ha.cell 2; rw [this, ha2]; rfl
  have cb2 : w.cell? ⟨bb, 2, none⟩ = some (.slice (some ⟨b2, o2, none⟩) 2 cB) := by have := hT.hb.cell 2; rw [this, hb2]; rfl
  obtain ⟨E1, hE1⟩ : ∃ E, mulEl p (A.part 0) (B.part 1) = E := ⟨_, rfl⟩
  obtain ⟨E2, hE2⟩ : ∃ E, mulEl p (A.part 1) (B.part 0) = E := ⟨_, rfl⟩
  rw [hE1, hE2] at H3 ⊢
  rw [hE1] at H1
  rw [hE2] at H2
  obtain ⟨E, hE⟩ : ∃ E, sumEl p E1 E2 1 = E := ⟨_, rfl⟩
  rw [hE] at H3 ⊢
  unfold PutEl El.val Par.cells at *
  have HSK : Hid (∀ w', Below w.heap.size w w' → w'.cell? ⟨pb, 0, none⟩ = some (.int .i64 p.n) ∧ w'.cell? ⟨pb, 1, none⟩ = some (.int .u32 (p.prime : Int)) ∧ w'.cell? ⟨pb, 2, none⟩ = some (.int .i64 p.power) ∧ w'.cell? ⟨pb, 3, none⟩ = some (.slice ca p.chain.length cc) ∧ w'.cell? ⟨pb, 4, none⟩ = some (.int .u32 (p.special : Int)) ∧ w'.cell? ⟨pb, 5, none⟩ = some (.int .i64 p.weight) ∧ w'.cell? ⟨pb, 6, none⟩ = some (.int .u32 (p.err : Int)) ∧ w'.cell? ⟨ba, 2, none⟩ = some (.slice (some ⟨b1, o1, none⟩) 2 cA) ∧ w'.cell? ⟨bb, 2, none⟩ = some (.slice (some ⟨b2, o2, none⟩) 2 cB) ∧ w'.cell? ⟨b1, o1, none⟩ = some (.int .i64 (A.part 0).level) ∧ w'.cell? ⟨b1, o1 + 1, none⟩ = some (.bool (A.part 0).special) ∧ w'.cell? ⟨b1, o1 + 2, none⟩ = some (.slice r1 (A.part 0).rows.length c1) ∧ w'.cell? ⟨b1, o1 + 3, none⟩ = some (.int .i64 (A.part 1).level) ∧ w'.cell? ⟨b1, o1 + 3 + 1, none⟩ = some (.bool (A.part 1).special) ∧ w'.cell? ⟨b1, o1 + 3 + 2, none⟩ = some (.slice r3 (A.part 1).rows.length c3) ∧ w'.cell? ⟨b2, o2, none⟩ = some (.int .i64 (B.part 0).level) ∧ w'.cell? ⟨b2, o2 + 1, none⟩ = some (.bool (B.part 0).special) ∧ w'.cell? ⟨b2, o2 + 2, none⟩ = some (.slice r2 (B.part 0).rows.length c2) ∧ w'.cell? ⟨b2, o2 + 3, none⟩ = some (.int .i64 (B.part 1).level) ∧ w'.cell? ⟨b2, o2 + 3 + 1, none⟩ = some (.bool (B.part 1).special) ∧ w'.cell? ⟨b2, o2 + 3 + 2, none⟩ = some (.slice r4 (B.part 1).rows.length c4)) := Lib.hid (fun w' hb => by
    have t : ∀ {a : Addr} {v : Value}, w.cell? a = some v → w'.cell? a = some v := fun {a v} h => (hb.cell (World.block_lt_of_cell? w _ h)).trans h
    exact ⟨t cp0, t cp1, t cp2, t cp3, t cp4, t cp5, t cp6, t ca2, t cb2, t x0, t x1, t x2, t u0, t u1, t u2, t y0, t y1, t y2, t z0, t z1, t z2⟩)
  clear hT hg hM ha2 hb2 hA hB x0 x1 x2 x3 y0 y1 y2 y3 u0 u1 u2 u3 z0 z1 z2 z3 hM1 hM2 hM3 cp0 cp1 cp2 cp3 cp4 cp5 cp6 ca2 cb2 hE hE1 hE2
  go_enter Tryz.func37, Tryz.ntmps37
  go_wp2
  refine gen_w _ _ (fun W0 hW0 => ?_)
  have hB0 : Below w.heap.size w W0 := by rw [hW0]; exact (Below.refl _ _).alloc (Nat.le_refl _) _
  have hO0 : Blk W0 w.heap.size 54 #[.int .i64 0, .bool false, .slice none 0 0] := by rw [hW0]; exact Blk.new _ _ _
  have hz0 : w.heap.size + 1 ≤ W0.heap.size := by rw [hW0]; simp
  have HB0 := Lib.hid hB0
  have HO0 := Lib.hid hO0
  clear hW0 hB0 hO0
  have hS : (fun w' : World => w'.cell? ⟨pb, 0, none⟩ = some (.int .i64 p.n) ∧ w'.cell? ⟨pb, 1, none⟩ = some (.int .u32 (p.prime : Int)) ∧ w'.cell? ⟨pb, 2, none⟩ = some (.int .i64 p.power) ∧ w'.cell? ⟨pb, 3, none⟩ = some (.slice ca p.chain.length cc) ∧ w'.cell? ⟨pb, 4, none⟩ = some (.int .u32 (p.special : Int)) ∧ w'.cell? ⟨pb, 5, none⟩ = some (.int .i64 p.weight) ∧ w'.cell? ⟨pb, 6, none⟩ = some (.int .u32 (p.err : Int)) ∧ w'.cell? ⟨ba, 2, none⟩ = some (.slice (some ⟨b1, o1, none⟩) 2 cA) ∧ w'.cell? ⟨bb, 2, none⟩ = some (.slice (some ⟨b2, o2, none⟩) 2 cB) ∧ w'.cell? ⟨b1, o1, none⟩ = some (.int .i64 (A.part 0).level) ∧ w'.cell? ⟨b1, o1 + 1, none⟩ = some (.bool (A.part 0).special) ∧ w'.cell? ⟨b1, o1 + 2, none⟩ = some (.slice r1 (A.part 0).rows.length c1) ∧ w'.cell? ⟨b1, o1 + 3, none⟩ = some (.int .i64 (A.part 1).level) ∧ w'.cell? ⟨b1, o1 + 3 + 1, none⟩ = some (.bool (A.part 1).special) ∧ w'.cell? ⟨b1, o1 + 3 + 2, none⟩ = some (.slice r3 (A.part 1).rows.length c3) ∧ w'.cell? ⟨b2, o2, none⟩ = some (.int .i64 (B.part 0).level) ∧ w'.cell? ⟨b2, o2 + 1, none⟩ = some (.bool (B.part 0).special) ∧ w'.cell? ⟨b2, o2 + 2, none⟩ = some (.slice r2 (B.part 0).rows.length c2) ∧ w'.cell? ⟨b2, o2 + 3, none⟩ = some (.int .i64 (B.part 1).level) ∧ w'.cell? ⟨b2, o2 + 3 + 1, none⟩ = some (.bool (B.part 1).special) ∧ w'.cell? ⟨b2, o2 + 3 + 2, none⟩ = some (.slice r4 (B.part 1).rows.length c4)) W0.drew := HSK.out _ (by with_reducible (repeat first | exact bR _ _ | assumption | exact ho (by assumption) | refine bD ?_ | refine bN ?_ _ | refine bA ?_ ?_ _ | refine bS ?_ ?_ _) <;> (first | omega | (simp <;> omega)))
  refine wp_region_L (fun w' => w'.cell? ⟨pb, 0, none⟩ = some (.int .i64 p.n) ∧ w'.cell? ⟨pb, 1, none⟩ = some (.int .u32 (p.prime : Int)) ∧ w'.cell? ⟨pb, 2, none⟩ = some (.int .i64 p.power) ∧ w'.cell? ⟨pb, 3, none⟩ = some (.slice ca p.chain.length cc) ∧ w'.cell? ⟨pb, 4, none⟩ = some (.int .u32 (p.special : Int)) ∧ w'.cell? ⟨pb, 5, none⟩ = some (.int .i64 p.weight) ∧ w'.cell? ⟨pb, 6, none⟩ = some (.int .u32 (p.err : Int)) ∧ w'.cell? ⟨ba, 2, none⟩ = some (.slice (some ⟨b1, o1, none⟩) 2 cA) ∧ w'.cell? ⟨bb, 2, none⟩ = some (.slice (some ⟨b2, o2, none⟩) 2 cB) ∧ w'.cell? ⟨b1, o1, none⟩ = some (.int .i64 (A.part 0).level) ∧ w'.cell? ⟨b1, o1 + 1, none⟩ = some (.bool (A.part 0).special) ∧ w'.cell? ⟨b1, o1 + 2, none⟩ = some (.slice r1 (A.part 0).rows.length c1) ∧ w'.cell? ⟨b1, o1 + 3, none⟩ = some (.int .i64 (A.part 1).level) ∧ w'.cell? ⟨b1, o1 + 3 + 1, none⟩ = some (.bool (A.part 1).special) ∧ w'.cell? ⟨b1, o1 + 3 + 2, none⟩ = some (.slice r3 (A.part 1).rows.length c3) ∧ w'.cell? ⟨b2, o2, none⟩ = some (.int .i64 (B.part 0).level) ∧ w'.cell? ⟨b2, o2 + 1, none⟩ = some (.bool (B.part 0).special) ∧ w'.cell? ⟨b2, o2 + 2, none⟩ = some (.slice r2 (B.part 0).rows.length c2) ∧ w'.cell? ⟨b2, o2 + 3, none⟩ = some (.int .i64 (B.part 1).level) ∧ w'.cell? ⟨b2, o2 + 3 + 1, none⟩ = some (.bool (B.part 1).special) ∧ w'.cell? ⟨b2, o2 + 3 + 2, none⟩ = some (.slice r4 (B.part 1).rows.length c4)) 16 (by kernel_rfl) (by kernel_rfl) (by kernel_rfl) ?_
  refine tJ 0 (v := ?_) (by assumption) ?_ ?_
  rotate_left
  · (intro w h; (try dsimp only at h); go_simp; try with_reducible rfl)
  try simp only [Act.put, gA, gB, gC, sA, sB, sC]
  refine tJ 1 (v := ?_) (by assumption) ?_ ?_
  rotate_left
  · (intro w h; (try dsimp only at h); go_simp; try with_reducible rfl)
  try simp only [Act.put, gA, gB, gC, sA, sB, sC]
  refine tJ 2 (v := ?_) (by assumption) ?_ ?_
  rotate_left
  · (intro w h; (try dsimp only at h); go_simp; try with_reducible rfl)
  try simp only [Act.put, gA, gB, gC, sA, sB, sC]
  refine tJ 3 (v := ?_) (by assumption) ?_ ?_
  rotate_left
  · (intro w h; (try dsimp only at h); go_simp; try with_reducible rfl)
  try simp only [Act.put, gA, gB, gC, sA, sB, sC]
  refine tJ 4 (v := ?_) (by assumption) ?_ ?_
  rotate_left
  · (intro w h; (try dsimp only at h); go_simp; try with_reducible rfl)
  try simp only [Act.put, gA, gB, gC, sA, sB, sC]
  refine tJ 5 (v := ?_) (by assumption) ?_ ?_
  rotate_left
  · (intro w h; (try dsimp only at h); go_simp; try with_reducible rfl)
  try simp only [Act.put, gA, gB, gC, sA, sB, sC]
  refine tJ 6 (v := ?_) (by assumption) ?_ ?_
  rotate_left
  · (intro w h; (try dsimp only at h); go_simp; try with_reducible rfl)
  try simp only [Act.put, gA, gB, gC, sA, sB, sC]
  refine tJ 7 (v := ?_) (by assumption) ?_ ?_
  rotate_left
  · (intro w h; (try dsimp only at h); go_simp; try with_reducible rfl)
  try simp only [Act.put, gA, gB, gC, sA, sB, sC]
  refine tJ 8 (v := ?_) (by assumption) ?_ ?_
  rotate_left
  · (intro w h; (try dsimp only at h); go_simp; try with_reducible rfl)
  try simp only [Act.put, gA, gB, gC, sA, sB, sC]
  refine wpL.two 9 13 rfl rfl (by kernel_rfl) rfl rfl ?_ ?_ <;> intro K hK
  · go_wp2_with fail
    (with_reducible refine Calls.mono (H1.out _ (by with_reducible (repeat first | exact bR _ _ | assumption | exact ho (by assumption) | refine bD ?_ | refine bN ?_ _ | refine bA ?_ ?_ _ | refine bS ?_ ?_ _) <;> (first | omega | (simp <;> omega)))) ?_)
    rintro e w2 ⟨⟨a1, k1, rfl, hO⟩, hb⟩
    have HR_w2 : Hid (RdRN w2 (W0.heap.size) a1 E1.rows) := Lib.hid ((hO.give).1.mono (by (first | omega | (simp only [World.size_alloc, sz_set, sz_drew, sz_drewN]; done) | (simp only [World.size_alloc, sz_set, sz_drew, sz_drewN]; omega))))
    have HW_w2 : Hid (Below W0.heap.size W0 w2) := Lib.hid (below_step' (by with_reducible (repeat first | exact bR _ _ | assumption | exact ho (by assumption) | refine bD ?_ | refine bN ?_ _ | refine bA ?_ ?_ _ | refine bS ?_ ?_ _) <;> (first | omega | (simp <;> omega))) hb)
    have HBw_w2 : Hid (Below w.heap.size w w2) := Lib.hid (below_step' (by with_reducible (repeat first | exact bR _ _ | assumption | exact ho (by assumption) | refine bD ?_ | refine bN ?_ _ | refine bA ?_ ?_ _ | refine bS ?_ ?_ _) <;> (first | omega | (simp <;> omega))) hb)
    have hs_w2 := hb.size
    try simp only [World.size_alloc, sz_set, sz_drew, sz_drewN] at hs_w2

    clear hO hb
    refine hK _ _ (HSK.out _ (by with_reducible (repeat first | exact bR _ _ | assumption | exact ho (by assumption) | refine bD ?_ | refine bN ?_ _ | refine bA ?_ ?_ _ | refine bS ?_ ?_ _) <;> (first | omega | (simp <;> omega)))) (fun hS => ?_)
    clear hK
    try simp only [Act.put, gA, gB, gC, sA, sB, sC]
    refine tJ 10 (v := ?_) (by assumption) ?_ ?_
    rotate_left
    · (intro w h; (try dsimp only at h); go_simp; try with_reducible rfl)
    try simp only [Act.put, gA, gB, gC, sA, sB, sC]
    refine tJ 11 (v := ?_) (by assumption) ?_ ?_
    rotate_left
    · (intro w h; (try dsimp only at h); go_simp; try with_reducible rfl)
    try simp only [Act.put, gA, gB, gC, sA, sB, sC]
    refine tJ 12 (v := ?_) (by assumption) ?_ ?_
    rotate_left
    · (intro w h; (try dsimp only at h); go_simp; try with_reducible rfl)
    try simp only [Act.put, gA, gB, gC, sA, sB, sC]
    refine wpL.eff 13 rfl (by kernel_rfl) rfl ?_
    intro K hK
    go_wp2
    refine hK _ _ (HSK.out _ (by with_reducible (repeat first | exact bR _ _ | assumption | exact ho (by assumption) | refine bD ?_ | refine bN ?_ _ | refine bA ?_ ?_ _ | refine bS ?_ ?_ _) <;> (first | omega | (simp <;> omega)))) (fun hS => ?_)
    clear hK
    try simp only [Act.put, gA, gB, gC, sA, sB, sC]
    refine wpL.eff 14 rfl (by kernel_rfl) rfl ?_
    intro K hK
    go_wp2
    refine hK _ _ (HSK.out _ (by with_reducible (repeat first | exact bR _ _ | assumption | exact ho (by assumption) | refine bD ?_ | refine bN ?_ _ | refine bA ?_ ?_ _ | refine bS ?_ ?_ _) <;> (first | omega | (simp <;> omega)))) (fun hS => ?_)
    clear hK
    try simp only [Act.put, gA, gB, gC, sA, sB, sC]

    refine tJ 15 (v := ?_) (by assumption) ?_ ?_
    rotate_left
    · (intro w h; (try dsimp only at h); go_simp; try with_reducible rfl)
    try simp only [Act.put, gA, gB, gC, sA, sB, sC]
    refine wpL.done (by kernel_rfl) ?_
    refine gen_w _ _ (fun W1 hW1 => ?_)
    obtain ⟨d7, hd7⟩ : ∃ d, w2.heap.size = d := ⟨_, rfl⟩
    rw [hd7]
    have HB_W1 : Hid (Below w.heap.size w W1) := Lib.hid (by rw [hW1]; exact (by with_reducible (repeat first | exact bR _ _ | assumption | exact ho (by assumption) | refine bD ?_ | refine bN ?_ _ | refine bA ?_ ?_ _ | refine bS ?_ ?_ _) <;> (first | omega | (simp <;> omega))))
    have HW0_W1 : Hid (Below W0.heap.size W0 W1) := Lib.hid (by rw [hW1]; exact (by with_reducible (repeat first | exact bR _ _ | assumption | exact ho (by assumption) | refine bD ?_ | refine bN ?_ _ | refine bA ?_ ?_ _ | refine bS ?_ ?_ _) <;> (first | omega | (simp <;> omega))))
    have HD_W1 : Hid (Blk W1 d7 54 #[.int .i64 E1.level, .bool E1.special, .slice a1 E1.rows.length k1]) := Lib.hid (by rw [hW1, ← hd7]; exact Blk.new _ _ _)
    have HRR_W1 : Hid (RdR W1 a1 E1.rows) := Lib.hid (by rw [hW1]; exact (HR_w2.out.below ((Below.refl _ _).alloc (Nat.le_refl _) _)).rd)
    have hz_W1 : W0.heap.size + 1 ≤ W1.heap.size := by rw [hW1]; (first | omega | (simp only [World.size_alloc, sz_set, sz_drew, sz_drewN]; done) | (simp only [World.size_alloc, sz_set, sz_drew, sz_drewN]; omega))
    have hd_W1 : W0.heap.size ≤ d7 := by omega
    clear hW1 hd7 hS
    try clear hS
    try clear HR_w2
    try clear HW_w2
    try clear HBw_w2
    try clear hs_w2
    go_wp2

    have hS : (fun w' : World => w'.cell? ⟨pb, 0, none⟩ = some (.int .i64 p.n) ∧ w'.cell? ⟨pb, 1, none⟩ = some (.int .u32 (p.prime : Int)) ∧ w'.cell? ⟨pb, 2, none⟩ = some (.int .i64 p.power) ∧ w'.cell? ⟨pb, 3, none⟩ = some (.slice ca p.chain.length cc) ∧ w'.cell? ⟨pb, 4, none⟩ = some (.int .u32 (p.special : Int)) ∧ w'.cell? ⟨pb, 5, none⟩ = some (.int .i64 p.weight) ∧ w'.cell? ⟨pb, 6, none⟩ = some (.int .u32 (p.err : Int)) ∧ w'.cell? ⟨ba, 2, none⟩ = some (.slice (some ⟨b1, o1, none⟩) 2 cA) ∧ w'.cell? ⟨bb, 2, none⟩ = some (.slice (some ⟨b2, o2, none⟩) 2 cB) ∧ w'.cell? ⟨b1, o1, none⟩ = some (.int .i64 (A.part 0).level) ∧ w'.cell? ⟨b1, o1 + 1, none⟩ = some (.bool (A.part 0).special) ∧ w'.cell? ⟨b1, o1 + 2, none⟩ = some (.slice r1 (A.part 0).rows.length c1) ∧ w'.cell? ⟨b1, o1 + 3, none⟩ = some (.int .i64 (A.part 1).level) ∧ w'.cell? ⟨b1, o1 + 3 + 1, none⟩ = some (.bool (A.part 1).special) ∧ w'.cell? ⟨b1, o1 + 3 + 2, none⟩ = some (.slice r3 (A.part 1).rows.length c3) ∧ w'.cell? ⟨b2, o2, none⟩ = some (.int .i64 (B.part 0).level) ∧ w'.cell? ⟨b2, o2 + 1, none⟩ = some (.bool (B.part 0).special) ∧ w'.cell? ⟨b2, o2 + 2, none⟩ = some (.slice r2 (B.part 0).rows.length c2) ∧ w'.cell? ⟨b2, o2 + 3, none⟩ = some (.int .i64 (B.part 1).level) ∧ w'.cell? ⟨b2, o2 + 3 + 1, none⟩ = some (.bool (B.part 1).special) ∧ w'.cell? ⟨b2, o2 + 3 + 2, none⟩ = some (.slice r4 (B.part 1).rows.length c4)) W1.drew := HSK.out _ (by with_reducible (repeat first | exact bR _ _ | assumption | exact ho (by assumption) | refine bD ?_ | refine bN ?_ _ | refine bA ?_ ?_ _ | refine bS ?_ ?_ _) <;> (first | omega | (simp <;> omega)))
    refine wp_region_L (fun w' => w'.cell? ⟨pb, 0, none⟩ = some (.int .i64 p.n) ∧ w'.cell? ⟨pb, 1, none⟩ = some (.int .u32 (p.prime : Int)) ∧ w'.cell? ⟨pb, 2, none⟩ = some (.int .i64 p.power) ∧ w'.cell? ⟨pb, 3, none⟩ = some (.slice ca p.chain.length cc) ∧ w'.cell? ⟨pb, 4, none⟩ = some (.int .u32 (p.special : Int)) ∧ w'.cell? ⟨pb, 5, none⟩ = some (.int .i64 p.weight) ∧ w'.cell? ⟨pb, 6, none⟩ = some (.int .u32 (p.err : Int)) ∧ w'.cell? ⟨ba, 2, none⟩ = some (.slice (some ⟨b1, o1, none⟩) 2 cA) ∧ w'.cell? ⟨bb, 2, none⟩ = some (.slice (some ⟨b2, o2, none⟩) 2 cB) ∧ w'.cell? ⟨b1, o1, none⟩ = some (.int .i64 (A.part 0).level) ∧ w'.cell? ⟨b1, o1 + 1, none⟩ = some (.bool (A.part 0).special) ∧ w'.cell? ⟨b1, o1 + 2, none⟩ = some (.slice r1 (A.part 0).rows.length c1) ∧ w'.cell? ⟨b1, o1 + 3, none⟩ = some (.int .i64 (A.part 1).level) ∧ w'.cell? ⟨b1, o1 + 3 + 1, none⟩ = some (.bool (A.part 1).special) ∧ w'.cell? ⟨b1, o1 + 3 + 2, none⟩ = some (.slice r3 (A.part 1).rows.length c3) ∧ w'.cell? ⟨b2, o2, none⟩ = some (.int .i64 (B.part 0).level) ∧ w'.cell? ⟨b2, o2 + 1, none⟩ = some (.bool (B.part 0).special) ∧ w'.cell? ⟨b2, o2 + 2, none⟩ = some (.slice r2 (B.part 0).rows.length c2) ∧ w'.cell? ⟨b2, o2 + 3, none⟩ = some (.int .i64 (B.part 1).level) ∧ w'.cell? ⟨b2, o2 + 3 + 1, none⟩ = some (.bool (B.part 1).special) ∧ w'.cell? ⟨b2, o2 + 3 + 2, none⟩ = some (.slice r4 (B.part 1).rows.length c4)) 16 (by kernel_rfl) (by kernel_rfl) (by kernel_rfl) ?_
    refine tJ 0 (v := ?_) (by assumption) ?_ ?_
    rotate_left
    · (intro w h; (try dsimp only at h); go_simp; try with_reducible rfl)
    try simp only [Act.put, gA, gB, gC, sA, sB, sC]
    refine tJ 1 (v := ?_) (by assumption) ?_ ?_
    rotate_left
    · (intro w h; (try dsimp only at h); go_simp; try with_reducible rfl)
    try simp only [Act.put, gA, gB, gC, sA, sB, sC]
    refine tJ 2 (v := ?_) (by assumption) ?_ ?_
    rotate_left
    · (intro w h; (try dsimp only at h); go_simp; try with_reducible rfl)
    try simp only [Act.put, gA, gB, gC, sA, sB, sC]
    refine tJ 3 (v := ?_) (by assumption) ?_ ?_
    rotate_left
    · (intro w h; (try dsimp only at h); go_simp; try with_reducible rfl)
    try simp only [Act.put, gA, gB, gC, sA, sB, sC]
    refine tJ 4 (v := ?_) (by assumption) ?_ ?_
    rotate_left
    · (intro w h; (try dsimp only at h); go_simp; try with_reducible rfl)
    try simp only [Act.put, gA, gB, gC, sA, sB, sC]
    refine tJ 5 (v := ?_) (by assumption) ?_ ?_
    rotate_left
    · (intro w h; (try dsimp only at h); go_simp; try with_reducible rfl)
    try simp only [Act.put, gA, gB, gC, sA, sB, sC]
    refine tJ 6 (v := ?_) (by assumption) ?_ ?_
    rotate_left
    · (intro w h; (try dsimp only at h); go_simp; try with_reducible rfl)
    try simp only [Act.put, gA, gB, gC, sA, sB, sC]
    refine tJ 7 (v := ?_) (by assumption) ?_ ?_
    rotate_left
    · (intro w h; (try dsimp only at h); go_simp; try with_reducible rfl)
    try simp only [Act.put, gA, gB, gC, sA, sB, sC]
    refine tJ 8 (v := ?_) (by assumption) ?_ ?_
    rotate_left
    · (intro w h; (try dsimp only at h); go_simp; try with_reducible rfl)
    try simp only [Act.put, gA, gB, gC, sA, sB, sC]
    refine wpL.two 9 13 rfl rfl (by kernel_rfl) rfl rfl ?_ ?_ <;> intro K hK
    · go_wp2_with fail
      (with_reducible refine Calls.mono (H2.out _ (by with_reducible (repeat first | exact bR _ _ | assumption | exact ho (by assumption) | refine bD ?_ | refine bN ?_ _ | refine bA ?_ ?_ _ | refine bS ?_ ?_ _) <;> (first | omega | (simp <;> omega)))) ?_)
      rintro e w4 ⟨⟨a2, k2, rfl, hO⟩, hb⟩
      have HR_w4 : Hid (RdRN w4 (W1.heap.size) a2 E2.rows) := Lib.hid ((hO.give).1.mono (by (first | omega | (simp only [World.size_alloc, sz_set, sz_drew, sz_drewN]; done) | (simp only [World.size_alloc, sz_set, sz_drew, sz_drewN]; omega))))
      have HW_w4 : Hid (Below W1.heap.size W1 w4) := Lib.hid (below_step' (by with_reducible (repeat first | exact bR _ _ | assumption | exact ho (by assumption) | refine bD ?_ | refine bN ?_ _ | refine bA ?_ ?_ _ | refine bS ?_ ?_ _) <;> (first | omega | (simp <;> omega))) hb)
      have HBw_w4 : Hid (Below w.heap.size w w4) := Lib.hid (below_step' (by with_reducible (repeat first | exact bR _ _ | assumption | exact ho (by assumption) | refine bD ?_ | refine bN ?_ _ | refine bA ?_ ?_ _ | refine bS ?_ ?_ _) <;> (first | omega | (simp <;> omega))) hb)
      have hs_w4 := hb.size
      try simp only [World.size_alloc, sz_set, sz_drew, sz_drewN] at hs_w4

      clear hO hb
      refine hK _ _ (HSK.out _ (by with_reducible (repeat first | exact bR _ _ | assumption | exact ho (by assumption) | refine bD ?_ | refine bN ?_ _ | refine bA ?_ ?_ _ | refine bS ?_ ?_ _) <;> (first | omega | (simp <;> omega)))) (fun hS => ?_)
      clear hK
      try simp only [Act.put, gA, gB, gC, sA, sB, sC]
      refine tJ 10 (v := ?_) (by assumption) ?_ ?_
      rotate_left
      · (intro w h; (try dsimp only at h); go_simp; try with_reducible rfl)
      try simp only [Act.put, gA, gB, gC, sA, sB, sC]
      refine tJ 11 (v := ?_) (by assumption) ?_ ?_
      rotate_left
      · (intro w h; (try dsimp only at h); go_simp; try with_reducible rfl)
      try simp only [Act.put, gA, gB, gC, sA, sB, sC]
      refine tJ 12 (v := ?_) (by assumption) ?_ ?_
      rotate_left
      · (intro w h; (try dsimp only at h); go_simp; try with_reducible rfl)
      try simp only [Act.put, gA, gB, gC, sA, sB, sC]
      refine wpL.eff 13 rfl (by kernel_rfl) rfl ?_
      intro K hK
      go_wp2
      refine hK _ _ (HSK.out _ (by with_reducible (repeat first | exact bR _ _ | assumption | exact ho (by assumption) | refine bD ?_ | refine bN ?_ _ | refine bA ?_ ?_ _ | refine bS ?_ ?_ _) <;> (first | omega | (simp <;> omega)))) (fun hS => ?_)
      clear hK
      try simp only [Act.put, gA, gB, gC, sA, sB, sC]
      refine wpL.eff 14 rfl (by kernel_rfl) rfl ?_
      intro K hK
      go_wp2
      refine hK _ _ (HSK.out _ (by with_reducible (repeat first | exact bR _ _ | assumption | exact ho (by assumption) | refine bD ?_ | refine bN ?_ _ | refine bA ?_ ?_ _ | refine bS ?_ ?_ _) <;> (first | omega | (simp <;> omega)))) (fun hS => ?_)
      clear hK
      try simp only [Act.put, gA, gB, gC, sA, sB, sC]

      refine tJ 15 (v := ?_) (by assumption) ?_ ?_
      rotate_left
      · (intro w h; (try dsimp only at h); go_simp; try with_reducible rfl)
      try simp only [Act.put, gA, gB, gC, sA, sB, sC]
      refine wpL.done (by kernel_rfl) ?_
      refine gen_w _ _ (fun W3 hW3 => ?_)
      obtain ⟨d9, hd9⟩ : ∃ d, w4.heap.size = d := ⟨_, rfl⟩
      rw [hd9]
      have HB_W3 : Hid (Below w.heap.size w W3) := Lib.hid (by rw [hW3]; exact (by with_reducible (repeat first | exact bR _ _ | assumption | exact ho (by assumption) | refine bD ?_ | refine bN ?_ _ | refine bA ?_ ?_ _ | refine bS ?_ ?_ _) <;> (first | omega | (simp <;> omega))))
      have HW1_W3 : Hid (Below W1.heap.size W1 W3) := Lib.hid (by rw [hW3]; exact (by with_reducible (repeat first | exact bR _ _ | assumption | exact ho (by assumption) | refine bD ?_ | refine bN ?_ _ | refine bA ?_ ?_ _ | refine bS ?_ ?_ _) <;> (first | omega | (simp <;> omega))))
      have HD_W3 : Hid (Blk W3 d9 54 #[.int .i64 E2.level, .bool E2.special, .slice a2 E2.rows.length k2]) := Lib.hid (by rw [hW3, ← hd9]; exact Blk.new _ _ _)
      have HRR_W3 : Hid (RdR W3 a2 E2.rows) := Lib.hid (by rw [hW3]; exact (HR_w4.out.below ((Below.refl _ _).alloc (Nat.le_refl _) _)).rd)
      have hz_W3 : W1.heap.size + 1 ≤ W3.heap.size := by rw [hW3]; (first | omega | (simp only [World.size_alloc, sz_set, sz_drew, sz_drewN]; done) | (simp only [World.size_alloc, sz_set, sz_drew, sz_drewN]; omega))
      have hd_W3 : W1.heap.size ≤ d9 := by omega
      clear hW3 hd9 hS
      try clear hS
      try clear HR_w4
      try clear HW_w4
      try clear HBw_w4
      try clear hs_w4

      have hW12 : Below W1.heap.size W1 W3 := HW1_W3.out
      have hO3 : Blk W3 w.heap.size 54 #[.int .i64 0, .bool false, .slice none 0 0] := (HO0.out.below HW0_W1.out).below hW12
      obtain ⟨k0, k1, k2⟩ := el_cells hO3
      obtain ⟨s0, s1, s2⟩ := el_cells (HD_W1.out.below hW12)
      obtain ⟨v0, v1, v2⟩ := el_cells HD_W3.out
      obtain ⟨cp0, cp1, cp2, cp3, cp4, cp5, cp6, _⟩ := HSK.out _ HB_W3.out
      have HO3 := Lib.hid hO3
      have HR1 := Lib.hid (HRR_W1.out.below hW12)
      have n7 : w.heap.size < W3.heap.size := by omega
      clear hW12 hO3
      go_wp2_with fail
      (with_reducible refine Calls.mono (H3.out _ HB_W3.out _ _ _ _ HR1.out HRR_W3.out) ?_)
      rintro e w9 ⟨⟨ao, c, rfl, hO⟩, hb⟩
      have HO := Lib.hid hO
      have h9 := HO3.out.below hb
      obtain ⟨l0, l1, l2⟩ := el_cells h9
      have f0 := h9.free 0
      have f1 := h9.free 1
      have f2 := h9.free 2
      have HB9 : Hid (Below w.heap.size w w9) := Lib.hid (below_step' HB_W3.out hb)
      have hs9 := hb.size
      clear hO hb h9 k0 k1 k2 s0 s1 s2 v0 v1 v2
      go_wp2
      refine bodyPost_ret (v := .tuple #[.agg #[.int .i64 E.level, .bool E.special, .slice ao E.rows.length c], .int .i64 0]) (by simp [results, Tryz.results37, go_sem, l0, l1, l2]) rfl ⟨⟨ao, c, rfl, ?_⟩, (by with_reducible (repeat first | exact bR _ _ | assumption | exact ho (by assumption) | refine bD ?_ | refine bN ?_ _ | refine bA ?_ ?_ _ | refine bS ?_ ?_ _) <;> (first | omega | (simp <;> omega)))⟩
      exact (HO.out.turn (S := [w.heap.size]) ((((Turn.refl w9 _).setCell (p := ⟨w.heap.size, 0, none⟩) (.inl (by simp)) _).setCell (p := ⟨w.heap.size, 1, none⟩) (.inl (by simp)) _).setCell (p := ⟨w.heap.size, 2, none⟩) (.inl (by simp)) _) (fun x hx => by (try simp only [List.mem_singleton] at hx ⊢); omega)).mono (by omega)
    · go_wp2
      refine hK _ _ (HSK.out _ (by with_reducible (repeat first | exact bR _ _ | assumption | exact ho (by assumption) | refine bD ?_ | refine bN ?_ _ | refine bA ?_ ?_ _ | refine bS ?_ ?_ _) <;> (first | omega | (simp <;> omega)))) (fun hS => ?_)
      clear hK
      try simp only [Act.put, gA, gB, gC, sA, sB, sC]
      refine wpL.eff 9 rfl (by kernel_rfl) rfl ?_
      intro K hK

      go_wp2_with fail
      (with_reducible refine Calls.mono (H2.out _ (by with_reducible (repeat first | exact bR _ _ | assumption | exact ho (by assumption) | refine bD ?_ | refine bN ?_ _ | refine bA ?_ ?_ _ | refine bS ?_ ?_ _) <;> (first | omega | (simp <;> omega)))) ?_)
      rintro e w4 ⟨⟨a2, k2, rfl, hO⟩, hb⟩
      have HR_w4 : Hid (RdRN w4 (W1.heap.size + 1) a2 E2.rows) := Lib.hid ((hO.give).1.mono (by (first | omega | (simp only [World.size_alloc, sz_set, sz_drew, sz_drewN]; done) | (simp only [World.size_alloc, sz_set, sz_drew, sz_drewN]; omega))))
      have HW_w4 : Hid (Below W1.heap.size W1 w4) := Lib.hid (below_step' (by with_reducible (repeat first | exact bR _ _ | assumption | exact ho (by assumption) | refine bD ?_ | refine bN ?_ _ | refine bA ?_ ?_ _ | refine bS ?_ ?_ _) <;> (first | omega | (simp <;> omega))) hb)
      have HBw_w4 : Hid (Below w.heap.size w w4) := Lib.hid (below_step' (by with_reducible (repeat first | exact bR _ _ | assumption | exact ho (by assumption) | refine bD ?_ | refine bN ?_ _ | refine bA ?_ ?_ _ | refine bS ?_ ?_ _) <;> (first | omega | (simp <;> omega))) hb)
      have hs_w4 := hb.size
      try simp only [World.size_alloc, sz_set, sz_drew, sz_drewN] at hs_w4
      have hD0 : Blk w4 W1.heap.size 54 #[.int .i64 0, .bool false, .slice none 0 0] := Blk.below (by exact (by repeat (first | exact Blk.newAt (by (first | omega | (simp only [World.size_alloc, sz_set, sz_drew, sz_drewN]; done) | (simp only [World.size_alloc, sz_set, sz_drew, sz_drewN]; omega))) | (with_reducible refine Blk.alloc ?_ _) | (with_reducible refine Blk.drew ?_) | (with_reducible refine Blk.drewN ?_ _) | (with_reducible refine Blk.belowB ?_ (Hid.out (by assumption)) ?szk; case szk => (first | omega | (simp only [World.size_alloc, sz_set, sz_drew, sz_drewN]; done) | (simp only [World.size_alloc, sz_set, sz_drew, sz_drewN]; omega)))))) hb
      obtain ⟨t0, t1, t2⟩ := el_cells hD0
      have g0 := hD0.free 0
      have g1 := hD0.free 1
      have g2 := hD0.free 2
      have HD0 := Lib.hid hD0
      clear hD0
      clear hO hb
      refine hK _ _ (HSK.out _ (by with_reducible (repeat first | exact bR _ _ | assumption | exact ho (by assumption) | refine bD ?_ | refine bN ?_ _ | refine bA ?_ ?_ _ | refine bS ?_ ?_ _) <;> (first | omega | (simp <;> omega)))) (fun hS => ?_)
      clear hK
      try simp only [Act.put, gA, gB, gC, sA, sB, sC]
      refine tJ 10 (v := ?_) (by assumption) ?_ ?_
      rotate_left
      · (intro w h; (try dsimp only at h); go_simp; try with_reducible rfl)
      try simp only [Act.put, gA, gB, gC, sA, sB, sC]
      refine tJ 11 (v := ?_) (by assumption) ?_ ?_
      rotate_left
      · (intro w h; (try dsimp only at h); go_simp; try with_reducible rfl)
      try simp only [Act.put, gA, gB, gC, sA, sB, sC]
      refine tJ 12 (v := ?_) (by assumption) ?_ ?_
      rotate_left
      · (intro w h; (try dsimp only at h); go_simp; try with_reducible rfl)
      try simp only [Act.put, gA, gB, gC, sA, sB, sC]
      refine wpL.eff 14 rfl (by kernel_rfl) rfl ?_
      intro K hK
      go_wp2
      refine hK _ _ (HSK.out _ (by with_reducible (repeat first | exact bR _ _ | assumption | exact ho (by assumption) | refine bD ?_ | refine bN ?_ _ | refine bA ?_ ?_ _ | refine bS ?_ ?_ _) <;> (first | omega | (simp <;> omega)))) (fun hS => ?_)
      clear hK
      try simp only [Act.put, gA, gB, gC, sA, sB, sC]

      refine tJ 15 (v := ?_) (by assumption) ?_ ?_
      rotate_left
      · (intro w h; (try dsimp only at h); go_simp; try with_reducible rfl)
      try simp only [Act.put, gA, gB, gC, sA, sB, sC]
      refine wpL.done (by kernel_rfl) ?_
      refine gen_w _ _ (fun W3 hW3 => ?_)
      obtain ⟨d9, hd9⟩ : ∃ d, W1.heap.size = d := ⟨_, rfl⟩
      rw [hd9]
      have HB_W3 : Hid (Below w.heap.size w W3) := Lib.hid (by rw [hW3]; exact (by with_reducible (repeat first | exact bR _ _ | assumption | exact ho (by assumption) | refine bD ?_ | refine bN ?_ _ | refine bA ?_ ?_ _ | refine bS ?_ ?_ _) <;> (first | omega | (simp <;> omega))))
      have HW1_W3 : Hid (Below W1.heap.size W1 W3) := Lib.hid (by rw [hW3]; exact (by with_reducible (repeat first | exact bR _ _ | assumption | exact ho (by assumption) | refine bD ?_ | refine bN ?_ _ | refine bA ?_ ?_ _ | refine bS ?_ ?_ _) <;> (first | omega | (simp <;> omega))))
      have HD_W3 : Hid (Blk W3 d9 54 #[.int .i64 E2.level, .bool E2.special, .slice a2 E2.rows.length k2]) := Lib.hid (by rw [hW3, ← hd9]; exact ((HD0.out.set 0 _).set 1 _).set 2 _)
      have HRR_W3 : Hid (RdR W3 a2 E2.rows) := Lib.hid (by rw [hW3]; exact (HR_w4.out.turn (S := [W1.heap.size]) ((((Turn.refl w4 _).setCell (p := ⟨W1.heap.size, 0, none⟩) (.inl (by simp)) _).setCell (p := ⟨W1.heap.size, 1, none⟩) (.inl (by simp)) _).setCell (p := ⟨W1.heap.size, 2, none⟩) (.inl (by simp)) _) (fun x hx => by (try simp only [List.mem_singleton] at hx ⊢); omega)).rd)
      have hz_W3 : W1.heap.size + 1 ≤ W3.heap.size := by rw [hW3]; (first | omega | (simp only [World.size_alloc, sz_set, sz_drew, sz_drewN]; done) | (simp only [World.size_alloc, sz_set, sz_drew, sz_drewN]; omega))
      have hd_W3 : W1.heap.size ≤ d9 := by omega
      clear hW3 hd9 hS
      try clear hS
      try clear HR_w4
      try clear HW_w4
      try clear HBw_w4
      try clear hs_w4

      have hW12 : Below W1.heap.size W1 W3 := HW1_W3.out
      have hO3 : Blk W3 w.heap.size 54 #[.int .i64 0, .bool false, .slice none 0 0] := (HO0.out.below HW0_W1.out).below hW12
      obtain ⟨k0, k1, k2⟩ := el_cells hO3
      obtain ⟨s0, s1, s2⟩ := el_cells (HD_W1.out.below hW12)
      obtain ⟨v0, v1, v2⟩ := el_cells HD_W3.out
      obtain ⟨cp0, cp1, cp2, cp3, cp4, cp5, cp6, _⟩ := HSK.out _ HB_W3.out
      have HO3 := Lib.hid hO3
      have HR1 := Lib.hid (HRR_W1.out.below hW12)
      have n7 : w.heap.size < W3.heap.size := by omega
      clear hW12 hO3
      go_wp2_with fail
      (with_reducible refine Calls.mono (H3.out _ HB_W3.out _ _ _ _ HR1.out HRR_W3.out) ?_)
      rintro e w9 ⟨⟨ao, c, rfl, hO⟩, hb⟩
      have HO := Lib.hid hO
      have h9 := HO3.out.below hb
      obtain ⟨l0, l1, l2⟩ := el_cells h9
      have f0 := h9.free 0
      have f1 := h9.free 1
      have f2 := h9.free 2
      have HB9 : Hid (Below w.heap.size w w9) := Lib.hid (below_step' HB_W3.out hb)
      have hs9 := hb.size
      clear hO hb h9 k0 k1 k2 s0 s1 s2 v0 v1 v2
      go_wp2
      refine bodyPost_ret (v := .tuple #[.agg #[.int .i64 E.level, .bool E.special, .slice ao E.rows.length c], .int .i64 0]) (by simp [results, Tryz.results37, go_sem, l0, l1, l2]) rfl ⟨⟨ao, c, rfl, ?_⟩, (by with_reducible (repeat first | exact bR _ _ | assumption | exact ho (by assumption) | refine bD ?_ | refine bN ?_ _ | refine bA ?_ ?_ _ | refine bS ?_ ?_ _) <;> (first | omega | (simp <;> omega)))⟩
      exact (HO.out.turn (S := [w.heap.size]) ((((Turn.refl w9 _).setCell (p := ⟨w.heap.size, 0, none⟩) (.inl (by simp)) _).setCell (p := ⟨w.heap.size, 1, none⟩) (.inl (by simp)) _).setCell (p := ⟨w.heap.size, 2, none⟩) (.inl (by simp)) _) (fun x hx => by (try simp only [List.mem_singleton] at hx ⊢); omega)).mono (by omega)
  · go_wp2
    refine hK _ _ (HSK.out _ (by with_reducible (repeat first | exact bR _ _ | assumption | exact ho (by assumption) | refine bD ?_ | refine bN ?_ _ | refine bA ?_ ?_ _ | refine bS ?_ ?_ _) <;> (first | omega | (simp <;> omega)))) (fun hS => ?_)
    clear hK
    try simp only [Act.put, gA, gB, gC, sA, sB, sC]
    refine wpL.eff 9 rfl (by kernel_rfl) rfl ?_
    intro K hK

    go_wp2_with fail
    (with_reducible refine Calls.mono (H1.out _ (by with_reducible (repeat first | exact bR _ _ | assumption | exact ho (by assumption) | refine bD ?_ | refine bN ?_ _ | refine bA ?_ ?_ _ | refine bS ?_ ?_ _) <;> (first | omega | (simp <;> omega)))) ?_)
    rintro e w2 ⟨⟨a1, k1, rfl, hO⟩, hb⟩
    have HR_w2 : Hid (RdRN w2 (W0.heap.size + 1) a1 E1.rows) := Lib.hid ((hO.give).1.mono (by (first | omega | (simp only [World.size_alloc, sz_set, sz_drew, sz_drewN]; done) | (simp only [World.size_alloc, sz_set, sz_drew, sz_drewN]; omega))))
    have HW_w2 : Hid (Below W0.heap.size W0 w2) := Lib.hid (below_step' (by with_reducible (repeat first | exact bR _ _ | assumption | exact ho (by assumption) | refine bD ?_ | refine bN ?_ _ | refine bA ?_ ?_ _ | refine bS ?_ ?_ _) <;> (first | omega | (simp <;> omega))) hb)
    have HBw_w2 : Hid (Below w.heap.size w w2) := Lib.hid (below_step' (by with_reducible (repeat first | exact bR _ _ | assumption | exact ho (by assumption) | refine bD ?_ | refine bN ?_ _ | refine bA ?_ ?_ _ | refine bS ?_ ?_ _) <;> (first | omega | (simp <;> omega))) hb)
    have hs_w2 := hb.size
    try simp only [World.size_alloc, sz_set, sz_drew, sz_drewN] at hs_w2
    have hD0 : Blk w2 W0.heap.size 54 #[.int .i64 0, .bool false, .slice none 0 0] := Blk.below (by exact (by repeat (first | exact Blk.newAt (by (first | omega | (simp only [World.size_alloc, sz_set, sz_drew, sz_drewN]; done) | (simp only [World.size_alloc, sz_set, sz_drew, sz_drewN]; omega))) | (with_reducible refine Blk.alloc ?_ _) | (with_reducible refine Blk.drew ?_) | (with_reducible refine Blk.drewN ?_ _) | (with_reducible refine Blk.belowB ?_ (Hid.out (by assumption)) ?szk; case szk => (first | omega | (simp only [World.size_alloc, sz_set, sz_drew, sz_drewN]; done) | (simp only [World.size_alloc, sz_set, sz_drew, sz_drewN]; omega)))))) hb
    obtain ⟨t0, t1, t2⟩ := el_cells hD0
    have g0 := hD0.free 0
    have g1 := hD0.free 1
    have g2 := hD0.free 2
    have HD0 := Lib.hid hD0
    clear hD0
    clear hO hb
    refine hK _ _ (HSK.out _ (by with_reducible (repeat first | exact bR _ _ | assumption | exact ho (by assumption) | refine bD ?_ | refine bN ?_ _ | refine bA ?_ ?_ _ | refine bS ?_ ?_ _) <;> (first | omega | (simp <;> omega)))) (fun hS => ?_)
    clear hK
    try simp only [Act.put, gA, gB, gC, sA, sB, sC]
    refine tJ 10 (v := ?_) (by assumption) ?_ ?_
    rotate_left
    · (intro w h; (try dsimp only at h); go_simp; try with_reducible rfl)
    try simp only [Act.put, gA, gB, gC, sA, sB, sC]
    refine tJ 11 (v := ?_) (by assumption) ?_ ?_
    rotate_left
    · (intro w h; (try dsimp only at h); go_simp; try with_reducible rfl)
    try simp only [Act.put, gA, gB, gC, sA, sB, sC]
    refine tJ 12 (v := ?_) (by assumption) ?_ ?_
    rotate_left
    · (intro w h; (try dsimp only at h); go_simp; try with_reducible rfl)
    try simp only [Act.put, gA, gB, gC, sA, sB, sC]
    refine wpL.eff 14 rfl (by kernel_rfl) rfl ?_
    intro K hK
    go_wp2
    refine hK _ _ (HSK.out _ (by with_reducible (repeat first | exact bR _ _ | assumption | exact ho (by assumption) | refine bD ?_ | refine bN ?_ _ | refine bA ?_ ?_ _ | refine bS ?_ ?_ _) <;> (first | omega | (simp <;> omega)))) (fun hS => ?_)
    clear hK
    try simp only [Act.put, gA, gB, gC, sA, sB, sC]

    refine tJ 15 (v := ?_) (by assumption) ?_ ?_
    rotate_left
    · (intro w h; (try dsimp only at h); go_simp; try with_reducible rfl)
    try simp only [Act.put, gA, gB, gC, sA, sB, sC]
    refine wpL.done (by kernel_rfl) ?_
    refine gen_w _ _ (fun W1 hW1 => ?_)
    obtain ⟨d7, hd7⟩ : ∃ d, W0.heap.size = d := ⟨_, rfl⟩
    rw [hd7]
    have HB_W1 : Hid (Below w.heap.size w W1) := Lib.hid (by rw [hW1]; exact (by with_reducible (repeat first | exact bR _ _ | assumption | exact ho (by assumption) | refine bD ?_ | refine bN ?_ _ | refine bA ?_ ?_ _ | refine bS ?_ ?_ _) <;> (first | omega | (simp <;> omega))))
    have HW0_W1 : Hid (Below W0.heap.size W0 W1) := Lib.hid (by rw [hW1]; exact (by with_reducible (repeat first | exact bR _ _ | assumption | exact ho (by assumption) | refine bD ?_ | refine bN ?_ _ | refine bA ?_ ?_ _ | refine bS ?_ ?_ _) <;> (first | omega | (simp <;> omega))))
    have HD_W1 : Hid (Blk W1 d7 54 #[.int .i64 E1.level, .bool E1.special, .slice a1 E1.rows.length k1]) := Lib.hid (by rw [hW1, ← hd7]; exact ((HD0.out.set 0 _).set 1 _).set 2 _)
    have HRR_W1 : Hid (RdR W1 a1 E1.rows) := Lib.hid (by rw [hW1]; exact (HR_w2.out.turn (S := [W0.heap.size]) ((((Turn.refl w2 _).setCell (p := ⟨W0.heap.size, 0, none⟩) (.inl (by simp)) _).setCell (p := ⟨W0.heap.size, 1, none⟩) (.inl (by simp)) _).setCell (p := ⟨W0.heap.size, 2, none⟩) (.inl (by simp)) _) (fun x hx => by (try simp only [List.mem_singleton] at hx ⊢); omega)).rd)
    have hz_W1 : W0.heap.size + 1 ≤ W1.heap.size := by rw [hW1]; (first | omega | (simp only [World.size_alloc, sz_set, sz_drew, sz_drewN]; done) | (simp only [World.size_alloc, sz_set, sz_drew, sz_drewN]; omega))
    have hd_W1 : W0.heap.size ≤ d7 := by omega
    clear hW1 hd7 hS
    try clear hS
    try clear HR_w2
    try clear HW_w2
    try clear HBw_w2
    try clear hs_w2
    go_wp2

    have hS : (fun w' : World => w'.cell? ⟨pb, 0, none⟩ = some (.int .i64 p.n) ∧ w'.cell? ⟨pb, 1, none⟩ = some (.int .u32 (p.prime : Int)) ∧ w'.cell? ⟨pb, 2, none⟩ = some (.int .i64 p.power) ∧ w'.cell? ⟨pb, 3, none⟩ = some (.slice ca p.chain.length cc) ∧ w'.cell? ⟨pb, 4, none⟩ = some (.int .u32 (p.special : Int)) ∧ w'.cell? ⟨pb, 5, none⟩ = some (.int .i64 p.weight) ∧ w'.cell? ⟨pb, 6, none⟩ = some (.int .u32 (p.err : Int)) ∧ w'.cell? ⟨ba, 2, none⟩ = some (.slice (some ⟨b1, o1, none⟩) 2 cA) ∧ w'.cell? ⟨bb, 2, none⟩ = some (.slice (some ⟨b2, o2, none⟩) 2 cB) ∧ w'.cell? ⟨b1, o1, none⟩ = some (.int .i64 (A.part 0).level) ∧ w'.cell? ⟨b1, o1 + 1, none⟩ = some (.bool (A.part 0).special) ∧ w'.cell? ⟨b1, o1 + 2, none⟩ = some (.slice r1 (A.part 0).rows.length c1) ∧ w'.cell? ⟨b1, o1 + 3, none⟩ = some (.int .i64 (A.part 1).level) ∧ w'.cell? ⟨b1, o1 + 3 + 1, none⟩ = some (.bool (A.part 1).special) ∧ w'.cell? ⟨b1, o1 + 3 + 2, none⟩ = some (.slice r3 (A.part 1).rows.length c3) ∧ w'.cell? ⟨b2, o2, none⟩ = some (.int .i64 (B.part 0).level) ∧ w'.cell? ⟨b2, o2 + 1, none⟩ = some (.bool (B.part 0).special) ∧ w'.cell? ⟨b2, o2 + 2, none⟩ = some (.slice r2 (B.part 0).rows.length c2) ∧ w'.cell? ⟨b2, o2 + 3, none⟩ = some (.int .i64 (B.part 1).level) ∧ w'.cell? ⟨b2, o2 + 3 + 1, none⟩ = some (.bool (B.part 1).special) ∧ w'.cell? ⟨b2, o2 + 3 + 2, none⟩ = some (.slice r4 (B.part 1).rows.length c4)) W1.drew := HSK.out _ (by with_reducible (repeat first | exact bR _ _ | assumption | exact ho (by assumption) | refine bD ?_ | refine bN ?_ _ | refine bA ?_ ?_ _ | refine bS ?_ ?_ _) <;> (first | omega | (simp <;> omega)))
    refine wp_region_L (fun w' => w'.cell? ⟨pb, 0, none⟩ = some (.int .i64 p.n) ∧ w'.cell? ⟨pb, 1, none⟩ = some (.int .u32 (p.prime : Int)) ∧ w'.cell? ⟨pb, 2, none⟩ = some (.int .i64 p.power) ∧ w'.cell? ⟨pb, 3, none⟩ = some (.slice ca p.chain.length cc) ∧ w'.cell? ⟨pb, 4, none⟩ = some (.int .u32 (p.special : Int)) ∧ w'.cell? ⟨pb, 5, none⟩ = some (.int .i64 p.weight) ∧ w'.cell? ⟨pb, 6, none⟩ = some (.int .u32 (p.err : Int)) ∧ w'.cell? ⟨ba, 2, none⟩ = some (.slice (some ⟨b1, o1, none⟩) 2 cA) ∧ w'.cell? ⟨bb, 2, none⟩ = some (.slice (some ⟨b2, o2, none⟩) 2 cB) ∧ w'.cell? ⟨b1, o1, none⟩ = some (.int .i64 (A.part 0).level) ∧ w'.cell? ⟨b1, o1 + 1, none⟩ = some (.bool (A.part 0).special) ∧ w'.cell? ⟨b1, o1 + 2, none⟩ = some (.slice r1 (A.part 0).rows.length c1) ∧ w'.cell? ⟨b1, o1 + 3, none⟩ = some (.int .i64 (A.part 1).level) ∧ w'.cell? ⟨b1, o1 + 3 + 1, none⟩ = some (.bool (A.part 1).special) ∧ w'.cell? ⟨b1, o1 + 3 + 2, none⟩ = some (.slice r3 (A.part 1).rows.length c3) ∧ w'.cell? ⟨b2, o2, none⟩ = some (.int .i64 (B.part 0).level) ∧ w'.cell? ⟨b2, o2 + 1, none⟩ = some (.bool (B.part 0).special) ∧ w'.cell? ⟨b2, o2 + 2, none⟩ = some (.slice r2 (B.part 0).rows.length c2) ∧ w'.cell? ⟨b2, o2 + 3, none⟩ = some (.int .i64 (B.part 1).level) ∧ w'.cell? ⟨b2, o2 + 3 + 1, none⟩ = some (.bool (B.part 1).special) ∧ w'.cell? ⟨b2, o2 + 3 + 2, none⟩ = some (.slice r4 (B.part 1).rows.length c4)) 16 (by kernel_rfl) (by kernel_rfl) (by kernel_rfl) ?_
    refine tJ 0 (v := ?_) (by assumption) ?_ ?_
    rotate_left
    · (intro w h; (try dsimp only at h); go_simp; try with_reducible rfl)
    try simp only [Act.put, gA, gB, gC, sA, sB, sC]
    refine tJ 1 (v := ?_) (by assumption) ?_ ?_
    rotate_left
    · (intro w h; (try dsimp only at h); go_simp; try with_reducible rfl)
    try simp only [Act.put, gA, gB, gC, sA, sB, sC]
    refine tJ 2 (v := ?_) (by assumption) ?_ ?_
    rotate_left
    · (intro w h; (try dsimp only at h); go_simp; try with_reducible rfl)
    try simp only [Act.put, gA, gB, gC, sA, sB, sC]
    refine tJ 3 (v := ?_) (by assumption) ?_ ?_
    rotate_left
    · (intro w h; (try dsimp only at h); go_simp; try with_reducible rfl)
    try simp only [Act.put, gA, gB, gC, sA, sB, sC]
    refine tJ 4 (v := ?_) (by assumption) ?_ ?_
    rotate_left
    · (intro w h; (try dsimp only at h); go_simp; try with_reducible rfl)
    try simp only [Act.put, gA, gB, gC, sA, sB, sC]
    refine tJ 5 (v := ?_) (by assumption) ?_ ?_
    rotate_left
    · (intro w h; (try dsimp only at h); go_simp; try with_reducible rfl)
    try simp only [Act.put, gA, gB, gC, sA, sB, sC]
    refine tJ 6 (v := ?_) (by assumption) ?_ ?_
    rotate_left
    · (intro w h; (try dsimp only at h); go_simp; try with_reducible rfl)
    try simp only [Act.put, gA, gB, gC, sA, sB, sC]
    refine tJ 7 (v := ?_) (by assumption) ?_ ?_
    rotate_left
    · (intro w h; (try dsimp only at h); go_simp; try with_reducible rfl)
    try simp only [Act.put, gA, gB, gC, sA, sB, sC]
    refine tJ 8 (v := ?_) (by assumption) ?_ ?_
    rotate_left
    · (intro w h; (try dsimp only at h); go_simp; try with_reducible rfl)
    try simp only [Act.put, gA, gB, gC, sA, sB, sC]
    refine wpL.two 9 13 rfl rfl (by kernel_rfl) rfl rfl ?_ ?_ <;> intro K hK
    · go_wp2_with fail
      (with_reducible refine Calls.mono (H2.out _ (by with_reducible (repeat first | exact bR _ _ | assumption | exact ho (by assumption) | refine bD ?_ | refine bN ?_ _ | refine bA ?_ ?_ _ | refine bS ?_ ?_ _) <;> (first | omega | (simp <;> omega)))) ?_)
      rintro e w4 ⟨⟨a2, k2, rfl, hO⟩, hb⟩
      have HR_w4 : Hid (RdRN w4 (W1.heap.size) a2 E2.rows) := Lib.hid ((hO.give).1.mono (by (first | omega | (simp only [World.size_alloc, sz_set, sz_drew, sz_drewN]; done) | (simp only [World.size_alloc, sz_set, sz_drew, sz_drewN]; omega))))
      have HW_w4 : Hid (Below W1.heap.size W1 w4) := Lib.hid (below_step' (by with_reducible (repeat first | exact bR _ _ | assumption | exact ho (by assumption) | refine bD ?_ | refine bN ?_ _ | refine bA ?_ ?_ _ | refine bS ?_ ?_ _) <;> (first | omega | (simp <;> omega))) hb)
      have HBw_w4 : Hid (Below w.heap.size w w4) := Lib.hid (below_step' (by with_reducible (repeat first | exact bR _ _ | assumption | exact ho (by assumption) | refine bD ?_ | refine bN ?_ _ | refine bA ?_ ?_ _ | refine bS ?_ ?_ _) <;> (first | omega | (simp <;> omega))) hb)
      have hs_w4 := hb.size
      try simp only [World.size_alloc, sz_set, sz_drew, sz_drewN] at hs_w4

      clear hO hb
      refine hK _ _ (HSK.out _ (by with_reducible (repeat first | exact bR _ _ | assumption | exact ho (by assumption) | refine bD ?_ | refine bN ?_ _ | refine bA ?_ ?_ _ | refine bS ?_ ?_ _) <;> (first | omega | (simp <;> omega)))) (fun hS => ?_)
      clear hK
      try simp only [Act.put, gA, gB, gC, sA, sB, sC]
      refine tJ 10 (v := ?_) (by assumption) ?_ ?_
      rotate_left
      · (intro w h; (try dsimp only at h); go_simp; try with_reducible rfl)
      try simp only [Act.put, gA, gB, gC, sA, sB, sC]
      refine tJ 11 (v := ?_) (by assumption) ?_ ?_
      rotate_left
      · (intro w h; (try dsimp only at h); go_simp; try with_reducible rfl)
      try simp only [Act.put, gA, gB, gC, sA, sB, sC]
      refine tJ 12 (v := ?_) (by assumption) ?_ ?_
      rotate_left
      · (intro w h; (try dsimp only at h); go_simp; try with_reducible rfl)
      try simp only [Act.put, gA, gB, gC, sA, sB, sC]
      refine wpL.eff 13 rfl (by kernel_rfl) rfl ?_
      intro K hK
      go_wp2
      refine hK _ _ (HSK.out _ (by with_reducible (repeat first | exact bR _ _ | assumption | exact ho (by assumption) | refine bD ?_ | refine bN ?_ _ | refine bA ?_ ?_ _ | refine bS ?_ ?_ _) <;> (first | omega | (simp <;> omega)))) (fun hS => ?_)
      clear hK
      try simp only [Act.put, gA, gB, gC, sA, sB, sC]
      refine wpL.eff 14 rfl (by kernel_rfl) rfl ?_
      intro K hK
      go_wp2
      refine hK _ _ (HSK.out _ (by with_reducible (repeat first | exact bR _ _ | assumption | exact ho (by assumption) | refine bD ?_ | refine bN ?_ _ | refine bA ?_ ?_ _ | refine bS ?_ ?_ _) <;> (first | omega | (simp <;> omega)))) (fun hS => ?_)
      clear hK
      try simp only [Act.put, gA, gB, gC, sA, sB, sC]

      refine tJ 15 (v := ?_) (by assumption) ?_ ?_
      rotate_left
      · (intro w h; (try dsimp only at h); go_simp; try with_reducible rfl)
      try simp only [Act.put, gA, gB, gC, sA, sB, sC]
      refine wpL.done (by kernel_rfl) ?_
      refine gen_w _ _ (fun W3 hW3 => ?_)
      obtain ⟨d9, hd9⟩ : ∃ d, w4.heap.size = d := ⟨_, rfl⟩
      rw [hd9]
      have HB_W3 : Hid (Below w.heap.size w W3) := Lib.hid (by rw [hW3]; exact (by with_reducible (repeat first | exact bR _ _ | assumption | exact ho (by assumption) | refine bD ?_ | refine bN ?_ _ | refine bA ?_ ?_ _ | refine bS ?_ ?_ _) <;> (first | omega | (simp <;> omega))))
      have HW1_W3 : Hid (Below W1.heap.size W1 W3) := Lib.hid (by rw [hW3]; exact (by with_reducible (repeat first | exact bR _ _ | assumption | exact ho (by assumption) | refine bD ?_ | refine bN ?_ _ | refine bA ?_ ?_ _ | refine bS ?_ ?_ _) <;> (first | omega | (simp <;> omega))))
      have HD_W3 : Hid (Blk W3 d9 54 #[.int .i64 E2.level, .bool E2.special, .slice a2 E2.rows.length k2]) := Lib.hid (by rw [hW3, ← hd9]; exact Blk.new _ _ _)
      have HRR_W3 : Hid (RdR W3 a2 E2.rows) := Lib.hid (by rw [hW3]; exact (HR_w4.out.below ((Below.refl _ _).alloc (Nat.le_refl _) _)).rd)
      have hz_W3 : W1.heap.size + 1 ≤ W3.heap.size := by rw [hW3]; (first | omega | (simp only [World.size_alloc, sz_set, sz_drew, sz_drewN]; done) | (simp only [World.size_alloc, sz_set, sz_drew, sz_drewN]; omega))
      have hd_W3 : W1.heap.size ≤ d9 := by omega
      clear hW3 hd9 hS
      try clear hS
      try clear HR_w4
      try clear HW_w4
      try clear HBw_w4
      try clear hs_w4

      have hW12 : Below W1.heap.size W1 W3 := HW1_W3.out
      have hO3 : Blk W3 w.heap.size 54 #[.int .i64 0, .bool false, .slice none 0 0] := (HO0.out.below HW0_W1.out).below hW12
      obtain ⟨k0, k1, k2⟩ := el_cells hO3
      obtain ⟨s0, s1, s2⟩ := el_cells (HD_W1.out.below hW12)
      obtain ⟨v0, v1, v2⟩ := el_cells HD_W3.out
      obtain ⟨cp0, cp1, cp2, cp3, cp4, cp5, cp6, _⟩ := HSK.out _ HB_W3.out
      have HO3 := Lib.hid hO3
      have HR1 := Lib.hid (HRR_W1.out.below hW12)
      have n7 : w.heap.size < W3.heap.size := by omega
      clear hW12 hO3
      go_wp2_with fail
      (with_reducible refine Calls.mono (H3.out _ HB_W3.out _ _ _ _ HR1.out HRR_W3.out) ?_)
      rintro e w9 ⟨⟨ao, c, rfl, hO⟩, hb⟩
      have HO := Lib.hid hO
      have h9 := HO3.out.below hb
      obtain ⟨l0, l1, l2⟩ := el_cells h9
      have f0 := h9.free 0
      have f1 := h9.free 1
      have f2 := h9.free 2
      have HB9 : Hid (Below w.heap.size w w9) := Lib.hid (below_step' HB_W3.out hb)
      have hs9 := hb.size
      clear hO hb h9 k0 k1 k2 s0 s1 s2 v0 v1 v2
      go_wp2
      refine bodyPost_ret (v := .tuple #[.agg #[.int .i64 E.level, .bool E.special, .slice ao E.rows.length c], .int .i64 0]) (by simp [results, Tryz.results37, go_sem, l0, l1, l2]) rfl ⟨⟨ao, c, rfl, ?_⟩, (by with_reducible (repeat first | exact bR _ _ | assumption | exact ho (by assumption) | refine bD ?_ | refine bN ?_ _ | refine bA ?_ ?_ _ | refine bS ?_ ?_ _) <;> (first | omega | (simp <;> omega)))⟩
      exact (HO.out.turn (S := [w.heap.size]) ((((Turn.refl w9 _).setCell (p := ⟨w.heap.size, 0, none⟩) (.inl (by simp)) _).setCell (p := ⟨w.heap.size, 1, none⟩) (.inl (by simp)) _).setCell (p := ⟨w.heap.size, 2, none⟩) (.inl (by simp)) _) (fun x hx => by (try simp only [List.mem_singleton] at hx ⊢); omega)).mono (by omega)
    · go_wp2
      refine hK _ _ (HSK.out _ (by with_reducible (repeat first | exact bR _ _ | assumption | exact ho (by assumption) | refine bD ?_ | refine bN ?_ _ | refine bA ?_ ?_ _ | refine bS ?_ ?_ _) <;> (first | omega | (simp <;> omega)))) (fun hS => ?_)
      clear hK
      try simp only [Act.put, gA, gB, gC, sA, sB, sC]
      refine wpL.eff 9 rfl (by kernel_rfl) rfl ?_
      intro K hK

      go_wp2_with fail
      (with_reducible refine Calls.mono (H2.out _ (by with_reducible (repeat first | exact bR _ _ | assumption | exact ho (by assumption) | refine bD ?_ | refine bN ?_ _ | refine bA ?_ ?_ _ | refine bS ?_ ?_ _) <;> (first | omega | (simp <;> omega)))) ?_)
      rintro e w4 ⟨⟨a2, k2, rfl, hO⟩, hb⟩
      have HR_w4 : Hid (RdRN w4 (W1.heap.size + 1) a2 E2.rows) := Lib.hid ((hO.give).1.mono (by (first | omega | (simp only [World.size_alloc, sz_set, sz_drew, sz_drewN]; done) | (simp only [World.size_alloc, sz_set, sz_drew, sz_drewN]; omega))))
      have HW_w4 : Hid (Below W1.heap.size W1 w4) := Lib.hid (below_step' (by with_reducible (repeat first | exact bR _ _ | assumption | exact ho (by assumption) | refine bD ?_ | refine bN ?_ _ | refine bA ?_ ?_ _ | refine bS ?_ ?_ _) <;> (first | omega | (simp <;> omega))) hb)
      have HBw_w4 : Hid (Below w.heap.size w w4) := Lib.hid (below_step' (by with_reducible (repeat first | exact bR _ _ | assumption | exact ho (by assumption) | refine bD ?_ | refine bN ?_ _ | refine bA ?_ ?_ _ | refine bS ?_ ?_ _) <;> (first | omega | (simp <;> omega))) hb)
      have hs_w4 := hb.size
      try simp only [World.size_alloc, sz_set, sz_drew, sz_drewN] at hs_w4
      have hD0 : Blk w4 W1.heap.size 54 #[.int .i64 0, .bool false, .slice none 0 0] := Blk.below (by exact (by repeat (first | exact Blk.newAt (by (first | omega | (simp only [World.size_alloc, sz_set, sz_drew, sz_drewN]; done) | (simp only [World.size_alloc, sz_set, sz_drew, sz_drewN]; omega))) | (with_reducible refine Blk.alloc ?_ _) | (with_reducible refine Blk.drew ?_) | (with_reducible refine Blk.drewN ?_ _) | (with_reducible refine Blk.belowB ?_ (Hid.out (by assumption)) ?szk; case szk => (first | omega | (simp only [World.size_alloc, sz_set, sz_drew, sz_drewN]; done) | (simp only [World.size_alloc, sz_set, sz_drew, sz_drewN]; omega)))))) hb
      obtain ⟨t0, t1, t2⟩ := el_cells hD0
      have g0 := hD0.free 0
      have g1 := hD0.free 1
      have g2 := hD0.free 2
      have HD0 := Lib.hid hD0
      clear hD0
      clear hO hb
      refine hK _ _ (HSK.out _ (by with_reducible (repeat first | exact bR _ _ | assumption | exact ho (by assumption) | refine bD ?_ | refine bN ?_ _ | refine bA ?_ ?_ _ | refine bS ?_ ?_ _) <;> (first | omega | (simp <;> omega)))) (fun hS => ?_)
      clear hK
      try simp only [Act.put, gA, gB, gC, sA, sB, sC]
      refine tJ 10 (v := ?_) (by assumption) ?_ ?_
      rotate_left
      · (intro w h; (try dsimp only at h); go_simp; try with_reducible rfl)
      try simp only [Act.put, gA, gB, gC, sA, sB, sC]
      refine tJ 11 (v := ?_) (by assumption) ?_ ?_
      rotate_left
      · (intro w h; (try dsimp only at h); go_simp; try with_reducible rfl)
      try simp only [Act.put, gA, gB, gC, sA, sB, sC]
      refine tJ 12 (v := ?_) (by assumption) ?_ ?_
      rotate_left
      · (intro w h; (try dsimp only at h); go_simp; try with_reducible rfl)
      try simp only [Act.put, gA, gB, gC, sA, sB, sC]
      refine wpL.eff 14 rfl (by kernel_rfl) rfl ?_
      intro K hK
      go_wp2
      refine hK _ _ (HSK.out _ (by with_reducible (repeat first | exact bR _ _ | assumption | exact ho (by assumption) | refine bD ?_ | refine bN ?_ _ | refine bA ?_ ?_ _ | refine bS ?_ ?_ _) <;> (first | omega | (simp <;> omega)))) (fun hS => ?_)
      clear hK
      try simp only [Act.put, gA, gB, gC, sA, sB, sC]

      refine tJ 15 (v := ?_) (by assumption) ?_ ?_
      rotate_left
      · (intro w h; (try dsimp only at h); go_simp; try with_reducible rfl)
      try simp only [Act.put, gA, gB, gC, sA, sB, sC]
      refine wpL.done (by kernel_rfl) ?_
      refine gen_w _ _ (fun W3 hW3 => ?_)
      obtain ⟨d9, hd9⟩ : ∃ d, W1.heap.size = d := ⟨_, rfl⟩
      rw [hd9]
      have HB_W3 : Hid (Below w.heap.size w W3) := Lib.hid (by rw [hW3]; exact (by with_reducible (repeat first | exact bR _ _ | assumption | exact ho (by assumption) | refine bD ?_ | refine bN ?_ _ | refine bA ?_ ?_ _ | refine bS ?_ ?_ _) <;> (first | omega | (simp <;> omega))))
      have HW1_W3 : Hid (Below W1.heap.size W1 W3) := Lib.hid (by rw [hW3]; exact (by with_reducible (repeat first | exact bR _ _ | assumption | exact ho (by assumption) | refine bD ?_ | refine bN ?_ _ | refine bA ?_ ?_ _ | refine bS ?_ ?_ _) <;> (first | omega | (simp <;> omega))))
      have HD_W3 : Hid (Blk W3 d9 54 #[.int .i64 E2.level, .bool E2.special, .slice a2 E2.rows.length k2]) := Lib.hid (by rw [hW3, ← hd9]; exact ((HD0.out.set 0 _).set 1 _).set 2 _)
      have HRR_W3 : Hid (RdR W3 a2 E2.rows) := Lib.hid (by rw [hW3]; exact (HR_w4.out.turn (S := [W1.heap.size]) ((((Turn.refl w4 _).setCell (p := ⟨W1.heap.size, 0, none⟩) (.inl (by simp)) _).setCell (p := ⟨W1.heap.size, 1, none⟩) (.inl (by simp)) _).setCell (p := ⟨W1.heap.size, 2, none⟩) (.inl (by simp)) _) (fun x hx => by (try simp only [List.mem_singleton] at hx ⊢); omega)).rd)
      have hz_W3 : W1.heap.size + 1 ≤ W3.heap.size := by rw [hW3]; (first | omega | (simp only [World.size_alloc, sz_set, sz_drew, sz_drewN]; done) | (simp only [World.size_alloc, sz_set, sz_drew, sz_drewN]; omega))
      have hd_W3 : W1.heap.size ≤ d9 := by omega
      clear hW3 hd9 hS
      try clear hS
      try clear HR_w4
      try clear HW_w4
      try clear HBw_w4
      try clear hs_w4

      have hW12 : Below W1.heap.size W1 W3 := HW1_W3.out
      have hO3 : Blk W3 w.heap.size 54 #[.int .i64 0, .bool false, .slice none 0 0] := (HO0.out.below HW0_W1.out).below hW12
      obtain ⟨k0, k1, k2⟩ := el_cells hO3
      obtain ⟨s0, s1, s2⟩ := el_cells (HD_W1.out.below hW12)
      obtain ⟨v0, v1, v2⟩ := el_cells HD_W3.out
      obtain ⟨cp0, cp1, cp2, cp3, cp4, cp5, cp6, _⟩ := HSK.out _ HB_W3.out
      have HO3 := Lib.hid hO3
      have HR1 := Lib.hid (HRR_W1.out.below hW12)
      have n7 : w.heap.size < W3.heap.size := by omega
      clear hW12 hO3
      go_wp2_with fail
      (with_reducible refine Calls.mono (H3.out _ HB_W3.out _ _ _ _ HR1.out HRR_W3.out) ?_)
      rintro e w9 ⟨⟨ao, c, rfl, hO⟩, hb⟩
      have HO := Lib.hid hO
      have h9 := HO3.out.below hb
      obtain ⟨l0, l1, l2⟩ := el_cells h9
      have f0 := h9.free 0
      have f1 := h9.free 1
      have f2 := h9.free 2
      have HB9 : Hid (Below w.heap.size w w9) := Lib.hid (below_step' HB_W3.out hb)
      have hs9 := hb.size
      clear hO hb h9 k0 k1 k2 s0 s1 s2 v0 v1 v2
      go_wp2
      refine bodyPost_ret (v := .tuple #[.agg #[.int .i64 E.level, .bool E.special, .slice ao E.rows.length c], .int .i64 0]) (by simp [results, Tryz.results37, go_sem, l0, l1, l2]) rfl ⟨⟨ao, c, rfl, ?_⟩, (by with_reducible (repeat first | exact bR _ _ | assumption | exact ho (by assumption) | refine bD ?_ | refine bN ?_ _ | refine bA ?_ ?_ _ | refine bS ?_ ?_ _) <;> (first | omega | (simp <;> omega)))⟩
      exact (HO.out.turn (S := [w.heap.size]) ((((Turn.refl w9 _).setCell (p := ⟨w.heap.size, 0, none⟩) (.inl (by simp)) _).setCell (p := ⟨w.heap.size, 1, none⟩) (.inl (by simp)) _).setCell (p := ⟨w.heap.size, 2, none⟩) (.inl (by simp)) _) (fun x hx => by (try simp only [List.mem_singleton] at hx ⊢); omega)).mono (by omega)
end Go.Proofs.YtcipjbckcnkfaaaGreat
