/- What the statements of layer 16 first ask. -/
import Derived.Test.YtcipjbckcnkfaaaGreatPs51
set_option linter.unusedSimpArgs false
set_option linter.unusedVariables false
namespace Go.Proofs.YtcipjbckcnkfaaaGreat
open Go.RowKit Go.Shelf
attribute [local go_sem ↓] Go.wp_at_zero Go.wp_at_succ

theorem rd_lit {w : World} {b : Nat} {t : TypeId} {l : List Nat} (h : Blk w b t (l.map fun x : Nat => Value.int .u32 (x : Int)).toArray) : Rd w (some ⟨b, 0, none⟩) l := fun k hk => ⟨b, 0, rfl, fun j hj => by
  rw [h.cell (0 + j), Nat.zero_add]
  simp [hj]⟩
theorem rowEx (b0 : Option Addr) (d0 g : Nat) (r : List Nat) (w : World) (hr : RdR w b0 [r]) (h4 : r.length = 4) (hb : Rd w (some ⟨g, 0, none⟩) r) :
    Calls Tryz.prog 33 #[.agg #[.int .i64 1, .bool false, .slice b0 1 d0], .slice (some ⟨g, 0, none⟩) 4 4] w fun e w' => e = .returned (.bool true) ∧ Below w.heap.size w w' := by
  have h := row16_walk ⟨1, false, [r]⟩ r b0 (some ⟨g, 0, none⟩) d0 4 w rfl (by omega) hr hb
  rw [h4] at h
  exact h

set_option maxHeartbeats 12800000 in
set_option maxRecDepth 100000 in
theorem awake16_walk (w : World) : Calls Tryz.prog 8 #[] w fun e w' => e = .returned (.bool true) ∧ Below w.heap.size w w' := by
  have HS := Lib.hid small13_walk
  have HP := Lib.hid pair16_walk
  have HA := Lib.hid arAdd_ex
  have HT := Lib.hid arTensor_ex
  have HX := Lib.hid rowEx
  obtain ⟨PA, hPA⟩ : ∃ l, exA.parts = l := ⟨_, rfl⟩
  obtain ⟨PB, hPB⟩ : ∃ l, exB.parts = l := ⟨_, rfl⟩
  rw [hPA, hPB] at HP HA HT
  clear hPA hPB
  go_enter Tryz.func8, Tryz.ntmps8
  go_wp2_with fail
  (with_reducible refine Calls.mono (HS.out _) ?_)
  rintro e w1 ⟨ca, cc, rfl, hin, hb⟩
  have HI := Lib.hid hin
  obtain ⟨bq, oq, rfl, hq⟩ := hin.rd 0 (by decide)
  have hq0 : w1.cell? ⟨bq, oq, none⟩ = some (.int .u32 2147481209) := hq 0 (by decide)
  have lq : bq < w1.heap.size := World.block_lt_of_cell? w1 _ hq0
  obtain ⟨hc_w1, hf_w1⟩ := bcell hb
  have HB_w1 : Hid (Below w.heap.size w w1) := Lib.hid (below_step (by with_reducible (repeat first | exact bR _ _ | assumption | exact ho (by assumption) | refine bD ?_ | refine bN ?_ _ | refine bA ?_ ?_ _ | refine bS ?_ ?_ _) <;> (first | omega | (simp <;> omega))) hb)
  have hs_w1 := hb.size
  try simp only [World.size_alloc, sz_set, sz_drew, sz_drewN] at hs_w1
  have HK_w1 := Lib.hid hb
  have HC_w1 := Lib.hid (callTo hb)
  clear hb
  clear hin hq
  go_wp2_with fail
  (with_reducible refine Calls.mono (HP.out _ _ _ (HI.out.below (by with_reducible (repeat first | exact bR _ _ | assumption | exact ho (by assumption) | refine bD ?_ | refine bA ?_ ?_ _ | refine bS ?_ ?_ _ | refine bC ?_ (ho (by assumption)) ?_) <;> (first | omega | (simp <;> omega))))) ?_)
  rintro e w2 ⟨⟨a1, c1, a2, c2, rfl, hr1, hr2, hc⟩, hb⟩
  have HR := Lib.hid (And.intro hr1.rd hr2.rd)
  have HC := Lib.hid hc
  obtain ⟨hc_w2, hf_w2⟩ := bcell hb
  have HB_w2 : Hid (Below w1.heap.size w1 w2) := Lib.hid (below_step (by with_reducible (repeat first | exact bR _ _ | assumption | exact ho (by assumption) | refine bD ?_ | refine bN ?_ _ | refine bA ?_ ?_ _ | refine bS ?_ ?_ _) <;> (first | omega | (simp <;> omega))) hb)
  have hs_w2 := hb.size
  try simp only [World.size_alloc, sz_set, sz_drew, sz_drewN] at hs_w2
  have HK_w2 := Lib.hid hb
  have HC_w2 := Lib.hid (callTo hb)
  clear hb
  have u0_0_w2 : w1.heap.size < w2.heap.size := by omega
  have u0_1_w2 : w1.heap.size < w2.heap.size + 1 := by omega
  have u0_2_w2 : w1.heap.size < w2.heap.size + 1 + 1 := by omega
  have u0_3_w2 : w1.heap.size < w2.heap.size + 1 + 1 + 1 := by omega
  clear hr1 hr2 hc
  go_wp2_with fail
  (with_reducible refine Calls.mono (HA.out _ _ _ _ _ _ _ (HI.out.below (by with_reducible (repeat first | exact bR _ _ | assumption | exact ho (by assumption) | refine bD ?_ | refine bA ?_ ?_ _ | refine bS ?_ ?_ _ | refine bC ?_ (ho (by assumption)) ?_) <;> (first | omega | (simp <;> omega)))) (HR.out.1.below (by with_reducible (repeat first | exact bR _ _ | assumption | exact ho (by assumption) | refine bD ?_ | refine bA ?_ ?_ _ | refine bS ?_ ?_ _ | refine bC ?_ (ho (by assumption)) ?_) <;> (first | omega | (simp <;> omega)))) (HR.out.2.below (by with_reducible (repeat first | exact bR _ _ | assumption | exact ho (by assumption) | refine bD ?_ | refine bA ?_ ?_ _ | refine bS ?_ ?_ _ | refine bC ?_ (ho (by assumption)) ?_) <;> (first | omega | (simp <;> omega)))) HC.out.1 HC.out.2.1 HC.out.2.2.1 HC.out.2.2.2) ?_)
  rintro e w3 ⟨⟨g1, b0, d0, b1, d1, rfl, lg1, ⟨x0, x1, x2, x3⟩, ⟨y0, y1, y2, y3⟩⟩, hb⟩
  have HX3 := Lib.hid (And.intro x3 y3)
  obtain ⟨hc_w3, hf_w3⟩ := bcell hb
  have HB_w3 : Hid (Below w2.heap.size w2 w3) := Lib.hid (below_step (by with_reducible (repeat first | exact bR _ _ | assumption | exact ho (by assumption) | refine bD ?_ | refine bN ?_ _ | refine bA ?_ ?_ _ | refine bS ?_ ?_ _) <;> (first | omega | (simp <;> omega))) hb)
  have hs_w3 := hb.size
  try simp only [World.size_alloc, sz_set, sz_drew, sz_drewN] at hs_w3
  have HK_w3 := Lib.hid hb
  have HC_w3 := Lib.hid (callTo hb)
  clear hb
  have u0_0_w3 : w1.heap.size < w3.heap.size := by omega
  have u0_1_w3 : w1.heap.size < w3.heap.size + 1 := by omega
  have u0_2_w3 : w1.heap.size < w3.heap.size + 1 + 1 := by omega
  have u0_3_w3 : w1.heap.size < w3.heap.size + 1 + 1 + 1 := by omega
  have u1_0_w3 : w2.heap.size < w3.heap.size := by omega
  have u1_1_w3 : w2.heap.size < w3.heap.size + 1 := by omega
  have u1_2_w3 : w2.heap.size < w3.heap.size + 1 + 1 := by omega
  have u1_3_w3 : w2.heap.size < w3.heap.size + 1 + 1 + 1 := by omega
  have u2_0_w3 : w2.heap.size + 1 < w3.heap.size := by omega
  have u2_1_w3 : w2.heap.size + 1 < w3.heap.size + 1 := by omega
  have u2_2_w3 : w2.heap.size + 1 < w3.heap.size + 1 + 1 := by omega
  have u2_3_w3 : w2.heap.size + 1 < w3.heap.size + 1 + 1 + 1 := by omega
  clear x3 y3
  go_wp2_with fail
  (with_reducible refine Calls.mono (HT.out _ _ _ _ _ _ _ (HI.out.below (by with_reducible (repeat first | exact bR _ _ | assumption | exact ho (by assumption) | refine bD ?_ | refine bA ?_ ?_ _ | refine bS ?_ ?_ _ | refine bC ?_ (ho (by assumption)) ?_) <;> (first | omega | (simp <;> omega)))) (HR.out.1.below (by with_reducible (repeat first | exact bR _ _ | assumption | exact ho (by assumption) | refine bD ?_ | refine bA ?_ ?_ _ | refine bS ?_ ?_ _ | refine bC ?_ (ho (by assumption)) ?_) <;> (first | omega | (simp <;> omega)))) (HR.out.2.below (by with_reducible (repeat first | exact bR _ _ | assumption | exact ho (by assumption) | refine bD ?_ | refine bA ?_ ?_ _ | refine bS ?_ ?_ _ | refine bC ?_ (ho (by assumption)) ?_) <;> (first | omega | (simp <;> omega)))) HC.out.1 HC.out.2.1 HC.out.2.2.1 HC.out.2.2.2) ?_)
  rintro e w4 ⟨⟨g2, p0, e0, p1, e1, p2, e2, rfl, lg2, ⟨u0, u1, u2, u3⟩, ⟨v0, v1, v2, v3⟩, ⟨z0, z1, z2, z3⟩⟩, hb⟩
  have HX4 := Lib.hid (And.intro u3 (And.intro v3 z3))
  obtain ⟨hc_w4, hf_w4⟩ := bcell hb
  have HB_w4 : Hid (Below w3.heap.size w3 w4) := Lib.hid (below_step (by with_reducible (repeat first | exact bR _ _ | assumption | exact ho (by assumption) | refine bD ?_ | refine bN ?_ _ | refine bA ?_ ?_ _ | refine bS ?_ ?_ _) <;> (first | omega | (simp <;> omega))) hb)
  have hs_w4 := hb.size
  try simp only [World.size_alloc, sz_set, sz_drew, sz_drewN] at hs_w4
  have HK_w4 := Lib.hid hb
  have HC_w4 := Lib.hid (callTo hb)
  clear hb
  have u0_0_w4 : w1.heap.size < w4.heap.size := by omega
  have u0_1_w4 : w1.heap.size < w4.heap.size + 1 := by omega
  have u0_2_w4 : w1.heap.size < w4.heap.size + 1 + 1 := by omega
  have u0_3_w4 : w1.heap.size < w4.heap.size + 1 + 1 + 1 := by omega
  have u1_0_w4 : w2.heap.size < w4.heap.size := by omega
  have u1_1_w4 : w2.heap.size < w4.heap.size + 1 := by omega
  have u1_2_w4 : w2.heap.size < w4.heap.size + 1 + 1 := by omega
  have u1_3_w4 : w2.heap.size < w4.heap.size + 1 + 1 + 1 := by omega
  have u2_0_w4 : w2.heap.size + 1 < w4.heap.size := by omega
  have u2_1_w4 : w2.heap.size + 1 < w4.heap.size + 1 := by omega
  have u2_2_w4 : w2.heap.size + 1 < w4.heap.size + 1 + 1 := by omega
  have u2_3_w4 : w2.heap.size + 1 < w4.heap.size + 1 + 1 + 1 := by omega
  have u3_0_w4 : w3.heap.size < w4.heap.size := by omega
  have u3_1_w4 : w3.heap.size < w4.heap.size + 1 := by omega
  have u3_2_w4 : w3.heap.size < w4.heap.size + 1 + 1 := by omega
  have u3_3_w4 : w3.heap.size < w4.heap.size + 1 + 1 + 1 := by omega
  clear u3 v3 z3
  go_wp2
  refine gen_w _ _ (fun W0 hW0 => ?_)
  have HB0 : Hid (Below w.heap.size w W0) := Lib.hid (by rw [hW0]; exact (by with_reducible (repeat first | exact bR _ _ | assumption | exact ho (by assumption) | refine bD ?_ | refine bA ?_ ?_ _ | refine bS ?_ ?_ _ | refine bC ?_ (ho (by assumption)) ?_) <;> (first | omega | (simp <;> omega))))
  have KP0 : Hid (Blk W0 w1.heap.size 25 #[.int .i64 4, .int .u32 17, .int .i64 1, .slice (some ⟨bq, oq, none⟩) 1 cc, .int .u32 2147483249, .int .i64 4, .int .u32 2]) := Lib.hid (by rw [hW0]; exact (by with_reducible (repeat first | assumption | exact ho (by assumption) | (refine Blk.newAt ?z; case z => first | rfl | (first | omega | (simp <;> omega))) | apply Blk.three | apply Blk.seven | apply Blk.nine | (refine Blk.far ?_ ?z _; case z => ((try dsimp only); (first | omega | (simp <;> omega)))) | refine Blk.alloc ?_ _ | refine Blk.drew ?_ | refine Blk.turnTo ?_ (ho (by assumption)) ?_ | refine Blk.belowB ?_ (ho (by assumption)) ?_) <;> (first | omega | (simp <;> omega))))
  have KC0 : Hid (Blk W0 w3.heap.size 28 #[.int .i64 1, .int .i64 1, .slice (some ⟨g1, 0, none⟩) 2 2]) := Lib.hid (by rw [hW0]; exact (by with_reducible (repeat first | assumption | exact ho (by assumption) | (refine Blk.newAt ?z; case z => first | rfl | (first | omega | (simp <;> omega))) | apply Blk.three | apply Blk.seven | apply Blk.nine | (refine Blk.far ?_ ?z _; case z => ((try dsimp only); (first | omega | (simp <;> omega)))) | refine Blk.alloc ?_ _ | refine Blk.drew ?_ | refine Blk.turnTo ?_ (ho (by assumption)) ?_ | refine Blk.belowB ?_ (ho (by assumption)) ?_) <;> (first | omega | (simp <;> omega))))
  have KD0 : Hid (Blk W0 w4.heap.size 28 #[.int .i64 1, .int .i64 1, .slice (some ⟨g2, 0, none⟩) 3 3]) := Lib.hid (by rw [hW0]; exact (by with_reducible (repeat first | assumption | exact ho (by assumption) | (refine Blk.newAt ?z; case z => first | rfl | (first | omega | (simp <;> omega))) | apply Blk.three | apply Blk.seven | apply Blk.nine | (refine Blk.far ?_ ?z _; case z => ((try dsimp only); (first | omega | (simp <;> omega)))) | refine Blk.alloc ?_ _ | refine Blk.drew ?_ | refine Blk.turnTo ?_ (ho (by assumption)) ?_ | refine Blk.belowB ?_ (ho (by assumption)) ?_) <;> (first | omega | (simp <;> omega))))
  have HB10 : Hid (Below w1.heap.size w1 W0) := Lib.hid (by rw [hW0]; exact (by with_reducible (repeat first | exact bR _ _ | assumption | exact ho (by assumption) | refine bD ?_ | refine bA ?_ ?_ _ | refine bS ?_ ?_ _ | refine bC ?_ (ho (by assumption)) ?_) <;> (first | omega | (simp <;> omega))))
  have HB30 : Hid (Below w3.heap.size w3 W0) := Lib.hid (by rw [hW0]; exact (by with_reducible (repeat first | exact bR _ _ | assumption | exact ho (by assumption) | refine bD ?_ | refine bA ?_ ?_ _ | refine bS ?_ ?_ _ | refine bC ?_ (ho (by assumption)) ?_) <;> (first | omega | (simp <;> omega))))
  have HB40 : Hid (Below w4.heap.size w4 W0) := Lib.hid (by rw [hW0]; exact (by with_reducible (repeat first | exact bR _ _ | assumption | exact ho (by assumption) | refine bD ?_ | refine bA ?_ ?_ _ | refine bS ?_ ?_ _ | refine bC ?_ (ho (by assumption)) ?_) <;> (first | omega | (simp <;> omega))))
  have t1 : ∀ {a : Addr} {v : Value}, w1.cell? a = some v → W0.cell? a = some v := fun {a v} h => (HB10.out.cell (World.block_lt_of_cell? w1 _ h)).trans h
  have t3 : ∀ {a : Addr} {v : Value}, w3.cell? a = some v → W0.cell? a = some v := fun {a v} h => (HB30.out.cell (World.block_lt_of_cell? w3 _ h)).trans h
  have t4 : ∀ {a : Addr} {v : Value}, w4.cell? a = some v → W0.cell? a = some v := fun {a v} h => (HB40.out.cell (World.block_lt_of_cell? w4 _ h)).trans h
  replace x0 := t3 x0
  replace x1 := t3 x1
  replace x2 := t3 x2
  replace y0 := t3 y0
  replace y1 := t3 y1
  replace y2 := t3 y2
  replace u0 := t4 u0
  replace u1 := t4 u1
  replace u2 := t4 u2
  replace v0 := t4 v0
  replace v1 := t4 v1
  replace v2 := t4 v2
  replace z0 := t4 z0
  replace z1 := t4 z1
  replace z2 := t4 z2
  replace hq0 := t1 hq0
  have HW0 : Hid (∀ (w' : World) (g : Nat), Below W0.heap.size W0 w' → Blk w' g 22 #[.int .u32 6, .int .u32 2, .int .u32 3, .int .u32 4] → Calls Tryz.prog 33 #[.agg #[.int .i64 1, .bool false, .slice b0 1 d0], .slice (some ⟨g, 0, none⟩) 4 4] w' fun e w2 => e = .returned (.bool true) ∧ Below w'.heap.size w' w2) := Lib.hid (fun w' g hb h => HX.out b0 d0 g [6, 2, 3, 4] w' ((HX3.out.1.below HB30.out).below hb) rfl (rd_lit h))
  have HW1 : Hid (∀ (w' : World) (g : Nat), Below W0.heap.size W0 w' → Blk w' g 22 #[.int .u32 0, .int .u32 1, .int .u32 0, .int .u32 0] → Calls Tryz.prog 33 #[.agg #[.int .i64 1, .bool false, .slice b1 1 d1], .slice (some ⟨g, 0, none⟩) 4 4] w' fun e w2 => e = .returned (.bool true) ∧ Below w'.heap.size w' w2) := Lib.hid (fun w' g hb h => HX.out b1 d1 g [0, 1, 0, 0] w' ((HX3.out.2.below HB30.out).below hb) rfl (rd_lit h))
  have HW2 : Hid (∀ (w' : World) (g : Nat), Below W0.heap.size W0 w' → Blk w' g 22 #[.int .u32 5, .int .u32 10, .int .u32 15, .int .u32 20] → Calls Tryz.prog 33 #[.agg #[.int .i64 1, .bool false, .slice p0 1 e0], .slice (some ⟨g, 0, none⟩) 4 4] w' fun e w2 => e = .returned (.bool true) ∧ Below w'.heap.size w' w2) := Lib.hid (fun w' g hb h => HX.out p0 e0 g [5, 10, 15, 20] w' ((HX4.out.1.below HB40.out).below hb) rfl (rd_lit h))
  have HW3 : Hid (∀ (w' : World) (g : Nat), Below W0.heap.size W0 w' → Blk w' g 22 #[.int .u32 2147481205, .int .u32 1, .int .u32 2, .int .u32 3] → Calls Tryz.prog 33 #[.agg #[.int .i64 1, .bool false, .slice p1 1 e1], .slice (some ⟨g, 0, none⟩) 4 4] w' fun e w2 => e = .returned (.bool true) ∧ Below w'.heap.size w' w2) := Lib.hid (fun w' g hb h => HX.out p1 e1 g [2147481205, 1, 2, 3] w' ((HX4.out.2.1.below HB40.out).below hb) rfl (rd_lit h))
  have HW4 : Hid (∀ (w' : World) (g : Nat), Below W0.heap.size W0 w' → Blk w' g 22 #[.int .u32 0, .int .u32 0, .int .u32 0, .int .u32 0] → Calls Tryz.prog 33 #[.agg #[.int .i64 1, .bool false, .slice p2 1 e2], .slice (some ⟨g, 0, none⟩) 4 4] w' fun e w2 => e = .returned (.bool true) ∧ Below w'.heap.size w' w2) := Lib.hid (fun w' g hb h => HX.out p2 e2 g [0, 0, 0, 0] w' ((HX4.out.2.2.below HB40.out).below hb) rfl (rd_lit h))
  have l0 : w1.heap.size < W0.heap.size := KP0.out.lt
  have l1 : w3.heap.size < W0.heap.size := KC0.out.lt
  have l2 : w4.heap.size < W0.heap.size := KD0.out.lt
  have l3 : g1 < W0.heap.size := World.block_lt_of_cell? W0 _ x0
  have l4 : g2 < W0.heap.size := World.block_lt_of_cell? W0 _ u0
  have l5 : bq < W0.heap.size := World.block_lt_of_cell? W0 _ hq0
  have hw : IntKind.u32.wrap ((2147481209 : Int) - 4) = 2147481205 := by decide
  clear t1 t3 t4 hW0 HB_w1 HK_w1 HC_w1 HB_w2 HK_w2 HC_w2 HB_w3 HK_w3 HC_w3 HB_w4 HK_w4 HC_w4 hc_w1 hf_w1 hc_w2 hf_w2 hc_w3 hf_w3 hc_w4 hf_w4 HS HP HA HT HX HR HC
  obtain ⟨c0, c1', c2', c3, c4, c5, c6⟩ := par_cells KP0.out
  obtain ⟨r0, r1, r2⟩ := el_cells KC0.out
  obtain ⟨o0, o1, o2⟩ := el_cells KD0.out
  have hS : (fun w' : World => Below W0.heap.size W0 w') W0.drew := (Below.refl _ _).drew
  refine wp_region_L (fun w' : World => Below W0.heap.size W0 w') 43 (by kernel_rfl) (by kernel_rfl) (by kernel_rfl) ?_
  refine tK 0 (v := ?_) (by assumption) ?_ ?_
  rotate_left
  · (intro _ _; go_simp; try with_reducible rfl)
  try simp only [Act.put, gA, gB, gC, sA, sB, sC]
  refine tK 1 (v := ?_) (by assumption) ?_ ?_
  rotate_left
  · (intro _ _; go_simp; try with_reducible rfl)
  try simp only [Act.put, gA, gB, gC, sA, sB, sC]
  refine tK 2 (v := ?_) (by assumption) ?_ ?_
  rotate_left
  · (intro _ _; go_simp; try with_reducible rfl)
  try simp only [Act.put, gA, gB, gC, sA, sB, sC]
  refine tK 3 (v := ?_) (by assumption) ?_ ?_
  rotate_left
  · (intro _ _; go_simp; try with_reducible rfl)
  try simp only [Act.put, gA, gB, gC, sA, sB, sC]
  refine wpL.eff 4 rfl (by kernel_rfl) rfl ?_
  intro K hK
  go_wp2
  refine hK _ _ (by with_reducible (repeat first | exact bR _ _ | assumption | exact ho (by assumption) | refine bD ?_ | refine bA ?_ ?_ _ | refine bS ?_ ?_ _ | refine bC ?_ (ho (by assumption)) ?_) <;> (first | omega | (simp <;> omega))) (fun hS => ?_)
  clear hK
  try simp only [Act.put, gA, gB, gC, sA, sB, sC]
  refine wpL.eff 5 rfl (by kernel_rfl) rfl ?_
  intro K hK
  go_wp2_with fail
  (with_reducible refine Calls.mono (HW0.out _ _ (by with_reducible (repeat first | exact bR _ _ | assumption | exact ho (by assumption) | refine bD ?_ | refine bA ?_ ?_ _ | refine bS ?_ ?_ _ | refine bC ?_ (ho (by assumption)) ?_) <;> (first | omega | (simp <;> omega))) (by with_reducible (repeat first | assumption | exact ho (by assumption) | (refine Blk.newAt ?z; case z => first | rfl | (first | omega | (simp <;> omega))) | apply Blk.three | apply Blk.seven | apply Blk.nine | (refine Blk.far ?_ ?z _; case z => ((try dsimp only); (first | omega | (simp <;> omega)))) | refine Blk.alloc ?_ _ | refine Blk.drew ?_ | refine Blk.turnTo ?_ (ho (by assumption)) ?_ | refine Blk.belowB ?_ (ho (by assumption)) ?_) <;> (first | omega | (simp <;> omega)))) ?_)
  rintro e v0' ⟨rfl, hb⟩
  obtain ⟨hc_v0', hf_v0'⟩ := bcell hb
  have HB_v0' : Hid (Below W0.heap.size W0 v0') := Lib.hid (below_step (by with_reducible (repeat first | exact bR _ _ | assumption | exact ho (by assumption) | refine bD ?_ | refine bN ?_ _ | refine bA ?_ ?_ _ | refine bS ?_ ?_ _) <;> (first | omega | (simp <;> omega))) hb)
  have hs_v0' := hb.size
  try simp only [World.size_alloc, sz_set, sz_drew, sz_drewN] at hs_v0'
  have HK_v0' := Lib.hid hb
  have HC_v0' := Lib.hid (callTo hb)
  clear hb
  refine hK _ _ (by with_reducible (repeat first | exact bR _ _ | assumption | exact ho (by assumption) | refine bD ?_ | refine bA ?_ ?_ _ | refine bS ?_ ?_ _ | refine bC ?_ (ho (by assumption)) ?_) <;> (first | omega | (simp <;> omega))) (fun hS => ?_)
  clear hK
  try simp only [Act.put, gA, gB, gC, sA, sB, sC]
  refine tK 6 (v := ?_) (by assumption) ?_ ?_
  rotate_left
  · (intro _ _; go_simp; try with_reducible rfl)
  try simp only [Act.put, gA, gB, gC, sA, sB, sC]
  refine tK 7 (v := ?_) (by assumption) ?_ ?_
  rotate_left
  · (intro _ _; go_simp; try with_reducible rfl)
  try simp only [Act.put, gA, gB, gC, sA, sB, sC]
  refine tK 8 (v := ?_) (by assumption) ?_ ?_
  rotate_left
  · (intro _ _; go_simp; try with_reducible rfl)
  try simp only [Act.put, gA, gB, gC, sA, sB, sC]
  refine tK 9 (v := ?_) (by assumption) ?_ ?_
  rotate_left
  · (intro _ _; go_simp; try with_reducible rfl)
  try simp only [Act.put, gA, gB, gC, sA, sB, sC]
  refine tK 10 (v := ?_) (by assumption) ?_ ?_
  rotate_left
  · (intro _ _; go_simp; try with_reducible rfl)
  try simp only [Act.put, gA, gB, gC, sA, sB, sC]
  refine wpL.eff 11 rfl (by kernel_rfl) rfl ?_
  intro K hK
  go_wp2
  refine hK _ _ (by with_reducible (repeat first | exact bR _ _ | assumption | exact ho (by assumption) | refine bD ?_ | refine bA ?_ ?_ _ | refine bS ?_ ?_ _ | refine bC ?_ (ho (by assumption)) ?_) <;> (first | omega | (simp <;> omega))) (fun hS => ?_)
  clear hK
  try simp only [Act.put, gA, gB, gC, sA, sB, sC]
  refine wpL.eff 12 rfl (by kernel_rfl) rfl ?_
  intro K hK
  go_wp2_with fail
  (with_reducible refine Calls.mono (HW1.out _ _ (by with_reducible (repeat first | exact bR _ _ | assumption | exact ho (by assumption) | refine bD ?_ | refine bA ?_ ?_ _ | refine bS ?_ ?_ _ | refine bC ?_ (ho (by assumption)) ?_) <;> (first | omega | (simp <;> omega))) (by with_reducible (repeat first | assumption | exact ho (by assumption) | (refine Blk.newAt ?z; case z => first | rfl | (first | omega | (simp <;> omega))) | apply Blk.three | apply Blk.seven | apply Blk.nine | (refine Blk.far ?_ ?z _; case z => ((try dsimp only); (first | omega | (simp <;> omega)))) | refine Blk.alloc ?_ _ | refine Blk.drew ?_ | refine Blk.turnTo ?_ (ho (by assumption)) ?_ | refine Blk.belowB ?_ (ho (by assumption)) ?_) <;> (first | omega | (simp <;> omega)))) ?_)
  rintro e v1' ⟨rfl, hb⟩
  obtain ⟨hc_v1', hf_v1'⟩ := bcell hb
  have HB_v1' : Hid (Below W0.heap.size W0 v1') := Lib.hid (below_step (by with_reducible (repeat first | exact bR _ _ | assumption | exact ho (by assumption) | refine bD ?_ | refine bN ?_ _ | refine bA ?_ ?_ _ | refine bS ?_ ?_ _) <;> (first | omega | (simp <;> omega))) hb)
  have hs_v1' := hb.size
  try simp only [World.size_alloc, sz_set, sz_drew, sz_drewN] at hs_v1'
  have HK_v1' := Lib.hid hb
  have HC_v1' := Lib.hid (callTo hb)
  clear hb
  refine hK _ _ (by with_reducible (repeat first | exact bR _ _ | assumption | exact ho (by assumption) | refine bD ?_ | refine bA ?_ ?_ _ | refine bS ?_ ?_ _ | refine bC ?_ (ho (by assumption)) ?_) <;> (first | omega | (simp <;> omega))) (fun hS => ?_)
  clear hK
  try simp only [Act.put, gA, gB, gC, sA, sB, sC]
  refine tK 13 (v := ?_) (by assumption) ?_ ?_
  rotate_left
  · (intro _ _; go_simp; try with_reducible rfl)
  try simp only [Act.put, gA, gB, gC, sA, sB, sC]
  refine tK 14 (v := ?_) (by assumption) ?_ ?_
  rotate_left
  · (intro _ _; go_simp; try with_reducible rfl)
  try simp only [Act.put, gA, gB, gC, sA, sB, sC]
  refine tK 15 (v := ?_) (by assumption) ?_ ?_
  rotate_left
  · (intro _ _; go_simp; try with_reducible rfl)
  try simp only [Act.put, gA, gB, gC, sA, sB, sC]
  refine tK 16 (v := ?_) (by assumption) ?_ ?_
  rotate_left
  · (intro _ _; go_simp; try with_reducible rfl)
  try simp only [Act.put, gA, gB, gC, sA, sB, sC]
  refine tK 17 (v := ?_) (by assumption) ?_ ?_
  rotate_left
  · (intro _ _; go_simp; try with_reducible rfl)
  try simp only [Act.put, gA, gB, gC, sA, sB, sC]
  refine tK 18 (v := ?_) (by assumption) ?_ ?_
  rotate_left
  · (intro _ _; go_simp; try with_reducible rfl)
  try simp only [Act.put, gA, gB, gC, sA, sB, sC]
  refine wpL.eff 19 rfl (by kernel_rfl) rfl ?_
  intro K hK
  go_wp2
  refine hK _ _ (by with_reducible (repeat first | exact bR _ _ | assumption | exact ho (by assumption) | refine bD ?_ | refine bA ?_ ?_ _ | refine bS ?_ ?_ _ | refine bC ?_ (ho (by assumption)) ?_) <;> (first | omega | (simp <;> omega))) (fun hS => ?_)
  clear hK
  try simp only [Act.put, gA, gB, gC, sA, sB, sC]
  refine wpL.eff 20 rfl (by kernel_rfl) rfl ?_
  intro K hK
  go_wp2_with fail
  (with_reducible refine Calls.mono (HW2.out _ _ (by with_reducible (repeat first | exact bR _ _ | assumption | exact ho (by assumption) | refine bD ?_ | refine bA ?_ ?_ _ | refine bS ?_ ?_ _ | refine bC ?_ (ho (by assumption)) ?_) <;> (first | omega | (simp <;> omega))) (by with_reducible (repeat first | assumption | exact ho (by assumption) | (refine Blk.newAt ?z; case z => first | rfl | (first | omega | (simp <;> omega))) | apply Blk.three | apply Blk.seven | apply Blk.nine | (refine Blk.far ?_ ?z _; case z => ((try dsimp only); (first | omega | (simp <;> omega)))) | refine Blk.alloc ?_ _ | refine Blk.drew ?_ | refine Blk.turnTo ?_ (ho (by assumption)) ?_ | refine Blk.belowB ?_ (ho (by assumption)) ?_) <;> (first | omega | (simp <;> omega)))) ?_)
  rintro e v2' ⟨rfl, hb⟩
  obtain ⟨hc_v2', hf_v2'⟩ := bcell hb
  have HB_v2' : Hid (Below W0.heap.size W0 v2') := Lib.hid (below_step (by with_reducible (repeat first | exact bR _ _ | assumption | exact ho (by assumption) | refine bD ?_ | refine bN ?_ _ | refine bA ?_ ?_ _ | refine bS ?_ ?_ _) <;> (first | omega | (simp <;> omega))) hb)
  have hs_v2' := hb.size
  try simp only [World.size_alloc, sz_set, sz_drew, sz_drewN] at hs_v2'
  have HK_v2' := Lib.hid hb
  have HC_v2' := Lib.hid (callTo hb)
  clear hb
  refine hK _ _ (by with_reducible (repeat first | exact bR _ _ | assumption | exact ho (by assumption) | refine bD ?_ | refine bA ?_ ?_ _ | refine bS ?_ ?_ _ | refine bC ?_ (ho (by assumption)) ?_) <;> (first | omega | (simp <;> omega))) (fun hS => ?_)
  clear hK
  try simp only [Act.put, gA, gB, gC, sA, sB, sC]
  refine tK 21 (v := ?_) (by assumption) ?_ ?_
  rotate_left
  · (intro _ _; go_simp; try with_reducible rfl)
  try simp only [Act.put, gA, gB, gC, sA, sB, sC]
  refine tK 22 (v := ?_) (by assumption) ?_ ?_
  rotate_left
  · (intro _ _; go_simp; try with_reducible rfl)
  try simp only [Act.put, gA, gB, gC, sA, sB, sC]
  refine tK 23 (v := ?_) (by assumption) ?_ ?_
  rotate_left
  · (intro _ _; go_simp; try with_reducible rfl)
  try simp only [Act.put, gA, gB, gC, sA, sB, sC]
  refine tK 24 (v := ?_) (by assumption) ?_ ?_
  rotate_left
  · (intro _ _; go_simp; try with_reducible rfl)
  try simp only [Act.put, gA, gB, gC, sA, sB, sC]
  refine tK 25 (v := ?_) (by assumption) ?_ ?_
  rotate_left
  · (intro _ _; go_simp; try with_reducible rfl)
  try simp only [Act.put, gA, gB, gC, sA, sB, sC]
  refine tK 26 (v := ?_) (by assumption) ?_ ?_
  rotate_left
  · (intro _ _; go_simp; try with_reducible rfl)
  try simp only [Act.put, gA, gB, gC, sA, sB, sC]
  refine tK 27 (v := ?_) (by assumption) ?_ ?_
  rotate_left
  · (intro _ _; go_simp; try with_reducible rfl)
  try simp only [Act.put, gA, gB, gC, sA, sB, sC]
  refine tK 28 (v := ?_) (by assumption) ?_ ?_
  rotate_left
  · (intro _ _; go_simp; try with_reducible rfl)
  try simp only [Act.put, gA, gB, gC, sA, sB, sC]
  refine tK 29 (v := ?_) (by assumption) ?_ ?_
  rotate_left
  · (intro _ _; go_simp; try with_reducible rfl)
  try simp only [Act.put, gA, gB, gC, sA, sB, sC]
  refine tK 30 (v := ?_) (by assumption) ?_ ?_
  rotate_left
  · (intro _ _; go_simp; try with_reducible rfl)
  try simp only [Act.put, gA, gB, gC, sA, sB, sC]
  refine tK 31 (v := ?_) (by assumption) ?_ ?_
  rotate_left
  · (intro _ _; go_simp; try with_reducible rfl)
  try simp only [Act.put, gA, gB, gC, sA, sB, sC]
  refine wpL.eff 32 rfl (by kernel_rfl) rfl ?_
  intro K hK
  go_wp2
  refine hK _ _ (by with_reducible (repeat first | exact bR _ _ | assumption | exact ho (by assumption) | refine bD ?_ | refine bA ?_ ?_ _ | refine bS ?_ ?_ _ | refine bC ?_ (ho (by assumption)) ?_) <;> (first | omega | (simp <;> omega))) (fun hS => ?_)
  clear hK
  try simp only [Act.put, gA, gB, gC, sA, sB, sC]
  refine wpL.eff 33 rfl (by kernel_rfl) rfl ?_
  intro K hK
  go_wp2_with fail
  (with_reducible refine Calls.mono (HW3.out _ _ (by with_reducible (repeat first | exact bR _ _ | assumption | exact ho (by assumption) | refine bD ?_ | refine bA ?_ ?_ _ | refine bS ?_ ?_ _ | refine bC ?_ (ho (by assumption)) ?_) <;> (first | omega | (simp <;> omega))) (by with_reducible (repeat first | assumption | exact ho (by assumption) | (refine Blk.newAt ?z; case z => first | rfl | (first | omega | (simp <;> omega))) | apply Blk.three | apply Blk.seven | apply Blk.nine | (refine Blk.far ?_ ?z _; case z => ((try dsimp only); (first | omega | (simp <;> omega)))) | refine Blk.alloc ?_ _ | refine Blk.drew ?_ | refine Blk.turnTo ?_ (ho (by assumption)) ?_ | refine Blk.belowB ?_ (ho (by assumption)) ?_) <;> (first | omega | (simp <;> omega)))) ?_)
  rintro e v3' ⟨rfl, hb⟩
  obtain ⟨hc_v3', hf_v3'⟩ := bcell hb
  have HB_v3' : Hid (Below W0.heap.size W0 v3') := Lib.hid (below_step (by with_reducible (repeat first | exact bR _ _ | assumption | exact ho (by assumption) | refine bD ?_ | refine bN ?_ _ | refine bA ?_ ?_ _ | refine bS ?_ ?_ _) <;> (first | omega | (simp <;> omega))) hb)
  have hs_v3' := hb.size
  try simp only [World.size_alloc, sz_set, sz_drew, sz_drewN] at hs_v3'
  have HK_v3' := Lib.hid hb
  have HC_v3' := Lib.hid (callTo hb)
  clear hb
  refine hK _ _ (by with_reducible (repeat first | exact bR _ _ | assumption | exact ho (by assumption) | refine bD ?_ | refine bA ?_ ?_ _ | refine bS ?_ ?_ _ | refine bC ?_ (ho (by assumption)) ?_) <;> (first | omega | (simp <;> omega))) (fun hS => ?_)
  clear hK
  try simp only [Act.put, gA, gB, gC, sA, sB, sC]
  refine tK 34 (v := ?_) (by assumption) ?_ ?_
  rotate_left
  · (intro _ _; go_simp; try with_reducible rfl)
  try simp only [Act.put, gA, gB, gC, sA, sB, sC]
  refine tK 35 (v := ?_) (by assumption) ?_ ?_
  rotate_left
  · (intro _ _; go_simp; try with_reducible rfl)
  try simp only [Act.put, gA, gB, gC, sA, sB, sC]
  refine tK 36 (v := ?_) (by assumption) ?_ ?_
  rotate_left
  · (intro _ _; go_simp; try with_reducible rfl)
  try simp only [Act.put, gA, gB, gC, sA, sB, sC]
  refine tK 37 (v := ?_) (by assumption) ?_ ?_
  rotate_left
  · (intro _ _; go_simp; try with_reducible rfl)
  try simp only [Act.put, gA, gB, gC, sA, sB, sC]
  refine tK 38 (v := ?_) (by assumption) ?_ ?_
  rotate_left
  · (intro _ _; go_simp; try with_reducible rfl)
  try simp only [Act.put, gA, gB, gC, sA, sB, sC]
  refine tK 39 (v := ?_) (by assumption) ?_ ?_
  rotate_left
  · (intro _ _; go_simp; try with_reducible rfl)
  try simp only [Act.put, gA, gB, gC, sA, sB, sC]
  refine wpL.eff 40 rfl (by kernel_rfl) rfl ?_
  intro K hK
  go_wp2
  refine hK _ _ (by with_reducible (repeat first | exact bR _ _ | assumption | exact ho (by assumption) | refine bD ?_ | refine bA ?_ ?_ _ | refine bS ?_ ?_ _ | refine bC ?_ (ho (by assumption)) ?_) <;> (first | omega | (simp <;> omega))) (fun hS => ?_)
  clear hK
  try simp only [Act.put, gA, gB, gC, sA, sB, sC]
  refine wpL.eff 41 rfl (by kernel_rfl) rfl ?_
  intro K hK
  go_wp2_with fail
  (with_reducible refine Calls.mono (HW4.out _ _ (by with_reducible (repeat first | exact bR _ _ | assumption | exact ho (by assumption) | refine bD ?_ | refine bA ?_ ?_ _ | refine bS ?_ ?_ _ | refine bC ?_ (ho (by assumption)) ?_) <;> (first | omega | (simp <;> omega))) (by with_reducible (repeat first | assumption | exact ho (by assumption) | (refine Blk.newAt ?z; case z => first | rfl | (first | omega | (simp <;> omega))) | apply Blk.three | apply Blk.seven | apply Blk.nine | (refine Blk.far ?_ ?z _; case z => ((try dsimp only); (first | omega | (simp <;> omega)))) | refine Blk.alloc ?_ _ | refine Blk.drew ?_ | refine Blk.turnTo ?_ (ho (by assumption)) ?_ | refine Blk.belowB ?_ (ho (by assumption)) ?_) <;> (first | omega | (simp <;> omega)))) ?_)
  rintro e v4' ⟨rfl, hb⟩
  obtain ⟨hc_v4', hf_v4'⟩ := bcell hb
  have HB_v4' : Hid (Below W0.heap.size W0 v4') := Lib.hid (below_step (by with_reducible (repeat first | exact bR _ _ | assumption | exact ho (by assumption) | refine bD ?_ | refine bN ?_ _ | refine bA ?_ ?_ _ | refine bS ?_ ?_ _) <;> (first | omega | (simp <;> omega))) hb)
  have hs_v4' := hb.size
  try simp only [World.size_alloc, sz_set, sz_drew, sz_drewN] at hs_v4'
  have HK_v4' := Lib.hid hb
  have HC_v4' := Lib.hid (callTo hb)
  clear hb
  refine hK _ _ (by with_reducible (repeat first | exact bR _ _ | assumption | exact ho (by assumption) | refine bD ?_ | refine bA ?_ ?_ _ | refine bS ?_ ?_ _ | refine bC ?_ (ho (by assumption)) ?_) <;> (first | omega | (simp <;> omega))) (fun hS => ?_)
  clear hK
  try simp only [Act.put, gA, gB, gC, sA, sB, sC]
  refine tK 42 (v := ?_) (by assumption) ?_ ?_
  rotate_left
  · (intro _ _; go_simp; try with_reducible rfl)
  try simp only [Act.put, gA, gB, gC, sA, sB, sC]
  refine tK 43 (v := ?_) (by assumption) ?_ ?_
  rotate_left
  · (intro _ _; go_simp; try with_reducible rfl)
  try simp only [Act.put, gA, gB, gC, sA, sB, sC]
  refine wpL.done (by kernel_rfl) ?_
  go_wp2
  go_ret
  exact ⟨rfl, (by with_reducible (repeat first | exact bR _ _ | assumption | exact ho (by assumption) | refine bD ?_ | refine bA ?_ ?_ _ | refine bS ?_ ?_ _ | refine bC ?_ (ho (by assumption)) ?_) <;> (first | omega | (simp <;> omega)))⟩
end Go.Proofs.YtcipjbckcnkfaaaGreat
