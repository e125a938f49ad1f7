/- Parts that match. No walk.
Sums and differences of ciphertexts: the parts one by one. (Printed by genarc.py.) -/
import Derived.Test.YtcipjbckcnkfaaaGreatPs47
set_option linter.unusedSimpArgs false
set_option linter.unusedVariables false
namespace Go.Proofs.YtcipjbckcnkfaaaGreat
open Go.RowKit Go.Shelf

theorem partZ_match {p : Par} {A B : Ci} (h : CiMatch p A B) {i : Nat} (hi : i < 3) : Match p (partZ p A i) (partZ p B i) := by
  have hg := h.1.1.1
  have hpl : PlaceOk p A.level false := PlaceOk.of h.1.1.2.1 h.1.1.2.2.1
  have hz : ∀ C : Ci, CiOk p C → C.level = A.level → ∀ i, ElOk p (partZ p C i) ∧ (partZ p C i).level = A.level ∧ (partZ p C i).special = false := fun C hC hl i => by
    by_cases hi : i < C.parts.length
    · rw [partZ_lt hi]
      have := hC.2.2 i hi
      exact ⟨this.1, this.2.1.trans hl, this.2.2⟩
    · rw [partZ_ge hi, hl]
      exact ⟨mkEl_ok hg hpl (fun i hi j hj => resid_lt (by have := hg.qs hi; omega)), rfl, rfl⟩
  have h1 := hz A h.1 rfl i
  have h2 := hz B h.2.1 (by rw [h.2.2.1]) i
  exact ⟨h1.1, h2.1, h2.2.1.trans h1.2.1.symm, h2.2.2.trans h1.2.2.symm⟩
theorem max_cast (a b : Nat) : max (a : Int) (b : Int) = ((max a b : Nat) : Int) := by omega
end Go.Proofs.YtcipjbckcnkfaaaGreat

namespace Go.Proofs.YtcipjbckcnkfaaaGreat
open Go.RowKit Go.Shelf
attribute [local go_sem ↓] Go.wp_at_zero Go.wp_at_succ

/-- Three elements in an array. -/
def ThreeAt (w : World) (xb : Nat) (E : Nat → El) : Prop := ∃ a0 c0 a1 c1 a2 c2, Blk w xb 88 #[.int .i64 (E 0).level, .bool (E 0).special, .slice a0 (E 0).rows.length c0, .int .i64 (E 1).level, .bool (E 1).special, .slice a1 (E 1).rows.length c1, .int .i64 (E 2).level, .bool (E 2).special, .slice a2 (E 2).rows.length c2] ∧ RdR w a0 (E 0).rows ∧ RdR w a1 (E 1).rows ∧ RdR w a2 (E 2).rows
theorem ThreeAt.below {w w' : World} {xb : Nat} {E : Nat → El} (h : ThreeAt w xb E) (hb : Below w.heap.size w w') : ThreeAt w' xb E := by
  obtain ⟨a0, c0, a1, c1, a2, c2, h1, h2, h3, h4⟩ := h
  exact ⟨a0, c0, a1, c1, a2, c2, h1.below hb, h2.below hb, h3.below hb, h4.below hb⟩
theorem ThreeAt.of {lo base : Nat} {w W : World} {xb : Nat} {E : Nat → El} {a0 a1 a2 : Option Addr} {c0 c1 c2 : Nat} (h : StR lo base w a0 (E 0).rows ∧ StR lo base w a1 (E 1).rows ∧ StR lo base w a2 (E 2).rows) (hb : Below lo w W) (hK : Kp rowT base w W)
    (hB : Blk W xb 88 #[.int .i64 (E 0).level, .bool (E 0).special, .slice a0 (E 0).rows.length c0, .int .i64 (E 1).level, .bool (E 1).special, .slice a1 (E 1).rows.length c1, .int .i64 (E 2).level, .bool (E 2).special, .slice a2 (E 2).rows.length c2]) : ThreeAt W xb E :=
  ⟨a0, c0, a1, c1, a2, c2, hB, h.1 W hb hK, h.2.1 W hb hK, h.2.2 W hb hK⟩
theorem ThreeAt.at {w : World} {xb : Nat} {E : Nat → El} (h : ThreeAt w xb E) {i : Nat} (hi : i < 3) : ∃ r k, xb < w.heap.size ∧ w.cell? ⟨xb, i * 3, none⟩ = some (.int .i64 (E i).level) ∧ w.cell? ⟨xb, i * 3 + 1, none⟩ = some (.bool (E i).special) ∧ w.cell? ⟨xb, i * 3 + 2, none⟩ = some (.slice r (E i).rows.length k) ∧ RdR w r (E i).rows := by
  obtain ⟨a0, c0, a1, c1, a2, c2, h1, h2, h3, h4⟩ := h
  rcases (show i = 0 ∨ i = 1 ∨ i = 2 by omega) with rfl | rfl | rfl
  · exact ⟨a0, c0, h1.lt, h1.cell 0, h1.cell 1, h1.cell 2, h2⟩
  · exact ⟨a1, c1, h1.lt, h1.cell 3, h1.cell 4, h1.cell 5, h3⟩
  · exact ⟨a2, c2, h1.lt, h1.cell 6, h1.cell 7, h1.cell 8, h4⟩

set_option maxHeartbeats 12800000 in
set_option maxRecDepth 100000 in
theorem arComb1_walk (fn : FuncId) (op : El → El → El) (cb pb xb yb i : Nat) (p : Par) (ca : Option Addr) (cc : Nat) (X Y : Nat → El) (w : World) (hen : ∀ args w, (callFunc fn args).run Tryz.prog w = .ok (.enter fn args) w) (hf : ∀ (w' : World) (A B : El) (a1 a2 : Option Addr) (k1 k2 : Nat), Below w.heap.size w w' → Match p A B → RdR w' a1 A.rows → RdR w' a2 B.rows → Calls Tryz.prog fn #[.agg (p.cells ca cc), A.val a1 k1, B.val a2 k2] w' fun e w2 => PutEl w'.heap.size (op A B) e w2 ∧ Below w'.heap.size w' w2) (hC : Blk w cb 67 #[.func (.func fn) #[] #[]]) (hP : Blk w pb 25 (p.cells ca cc)) (hX : ThreeAt w xb X) (hY : ThreeAt w yb Y) (hi : i < 3) (hM : Match p (X i) (Y i)) :
    Calls Tryz.prog 78 #[.int .i64 (i : Int), .pointer (some ⟨cb, 0, none⟩), .pointer (some ⟨pb, 0, none⟩), .pointer (some ⟨xb, 0, none⟩), .pointer (some ⟨yb, 0, none⟩)] w fun e w' => PutEl w.heap.size (op (X i) (Y i)) e w' ∧ Below w.heap.size w w' := by
  obtain ⟨r1, k1, lx, x0, x1, x2, x3⟩ := hX.at hi
  obtain ⟨r2, k2, ly, y0, y1, y2, y3⟩ := hY.at hi
  have H1 := Lib.hid (fun (w' : World) (hb : Below w.heap.size w w') => hf w' (X i) (Y i) r1 r2 k1 k2 hb hM (x3.below hb) (y3.below hb))
  obtain ⟨E, hE⟩ : ∃ E, op (X i) (Y i) = E := ⟨_, rfl⟩
  rw [hE] at H1 ⊢
  have lc := hC.lt
  have lp := hP.lt
  have k0 := hC.cell 0
  obtain ⟨c0, c1, c2, c3, c4, c5, c6⟩ := par_cells hP
  unfold PutEl El.val Par.cells at *
  have i0 : (0 : Int) ≤ (i : Int) := Int.natCast_nonneg _
  have i1 : (i : Int) < 3 := by omega
  simp only [List.getElem?_toArray, List.getElem?_cons_zero] at k0
  clear hC hP hX hY hM x3 y3 hE hf
  go_enter Tryz.func78, Tryz.ntmps78
  go_upto_region 1 with fail
  refine gen_w _ _ (fun W0 hW0 => ?_)
  have HB0 : Hid (Below w.heap.size w W0) := Lib.hid (by rw [hW0]; exact (by with_reducible (repeat first | exact bR _ _ | assumption | exact ho (by assumption) | refine bD ?_ | refine bN ?_ _ | refine bA ?_ ?_ _ | refine bS ?_ ?_ _) <;> (first | omega | (simp <;> omega))))
  have hz0 : W0.heap.size = w.heap.size + 1 := by rw [hW0]; simp
  have HO0 : Hid (Blk W0 w.heap.size 54 #[.int .i64 0, .bool false, .slice none 0 0]) := Lib.hid (by rw [hW0]; exact (by repeat (first | exact Blk.newAt (by (first | omega | (simp only [World.size_alloc, sz_set, sz_drew, sz_drewN]; done) | (simp only [World.size_alloc, sz_set, sz_drew, sz_drewN]; omega))) | (with_reducible refine Blk.alloc ?_ _) | (with_reducible refine Blk.drew ?_) | (with_reducible refine Blk.drewN ?_ _) | (with_reducible refine Blk.belowB ?_ (Hid.out (by assumption)) ?szk; case szk => (first | omega | (simp only [World.size_alloc, sz_set, sz_drew, sz_drewN]; done) | (simp only [World.size_alloc, sz_set, sz_drew, sz_drewN]; omega))))))
  obtain ⟨hcw, hfw⟩ := bcellB HB0.out
  have q0 : w.heap.size < W0.heap.size := by omega
  have HZ0 := Lib.hid hz0
  have f0 := HO0.out.free 0
  have f1 := HO0.out.free 1
  have f2 := HO0.out.free 2
  obtain ⟨d0, d1, d2⟩ := el_cells HO0.out
  clear hW0 hz0
  have hS : (fun w' : World => Below (w.heap.size) W0 w') W0.drew := (Below.refl _ _).drew
  refine wp_region_L (fun w' : World => Below (w.heap.size) W0 w') 13 (by kernel_rfl) (by kernel_rfl) (by kernel_rfl) ?_
  refine tK 0 (v := ?_) (by assumption) ?_ ?_
  rotate_left
  · (intro _ _; go_simp; try with_reducible rfl)
  try simp only [Act.put, gA, gB, gC, sA, sB, sC]
  refine tK 1 (v := ?_) (by assumption) ?_ ?_
  rotate_left
  · (intro _ _; go_simp; try with_reducible rfl)
  try simp only [Act.put, gA, gB, gC, sA, sB, sC]
  refine tK 2 (v := ?_) (by assumption) ?_ ?_
  rotate_left
  · (intro _ _; go_simp; try with_reducible rfl)
  try simp only [Act.put, gA, gB, gC, sA, sB, sC]
  refine tK 3 (v := ?_) (by assumption) ?_ ?_
  rotate_left
  · (intro _ _; go_simp; try with_reducible rfl)
  try simp only [Act.put, gA, gB, gC, sA, sB, sC]
  refine tK 4 (v := ?_) (by assumption) ?_ ?_
  rotate_left
  · (intro _ _; go_simp; try with_reducible rfl)
  try simp only [Act.put, gA, gB, gC, sA, sB, sC]
  refine tK 5 (v := ?_) (by assumption) ?_ ?_
  rotate_left
  · (intro _ _; go_simp; try with_reducible rfl)
  try simp only [Act.put, gA, gB, gC, sA, sB, sC]
  refine tK 6 (v := ?_) (by assumption) ?_ ?_
  rotate_left
  · (intro _ _; go_simp; try with_reducible rfl)
  try simp only [Act.put, gA, gB, gC, sA, sB, sC]
  refine tK 7 (v := ?_) (by assumption) ?_ ?_
  rotate_left
  · (intro _ _; go_simp; try with_reducible rfl)
  try simp only [Act.put, gA, gB, gC, sA, sB, sC]
  refine tK 8 (v := ?_) (by assumption) ?_ ?_
  rotate_left
  · (intro _ _; go_simp; try with_reducible rfl)
  try simp only [Act.put, gA, gB, gC, sA, sB, sC]
  refine wpL.eff 9 rfl (by kernel_rfl) rfl ?_
  intro K hK
  go_wp2_with fail
  (with_reducible refine Calls.mono (H1.out _ (by with_reducible (repeat first | exact bR _ _ | assumption | exact ho (by assumption) | refine bD ?_ | refine bN ?_ _ | refine bA ?_ ?_ _ | refine bS ?_ ?_ _) <;> (first | omega | (simp <;> omega)))) ?_)
  rintro e w5 ⟨⟨az, cz, rfl, hO⟩, hb⟩
  have HO5 := Lib.hid hO
  have hk5 := Blk.below (Blk.drew HO0.out) hb
  obtain ⟨k0, k1, k2⟩ := el_cells hk5
  have j0 := hk5.free 0
  have j1 := hk5.free 1
  have j2 := hk5.free 2
  obtain ⟨hc_w5, hf_w5⟩ := bcell hb
  have HB_w5 : Hid (Below (w.heap.size) W0 w5) := Lib.hid (below_step' (by with_reducible (repeat first | exact bR _ _ | assumption | exact ho (by assumption) | refine bD ?_ | refine bN ?_ _ | refine bA ?_ ?_ _ | refine bS ?_ ?_ _) <;> (first | omega | (simp <;> omega))) hb (by (first | omega | (simp only [World.size_alloc, sz_set, sz_drew, sz_drewN]; done) | (simp only [World.size_alloc, sz_set, sz_drew, sz_drewN]; omega))))
  have hs_w5 := hb.size
  try simp only [World.size_alloc, sz_set, sz_drew, sz_drewN] at hs_w5
  have HK_w5 := Lib.hid hb
  have HC_w5 := Lib.hid (callTo hb)
  clear hb
  clear hO hk5
  refine hK _ _ (by with_reducible (repeat first | exact bR _ _ | assumption | exact ho (by assumption) | refine bD ?_ | refine bA ?_ ?_ _ | refine bS ?_ ?_ _ | refine bC ?_ (ho (by assumption)) ?_) <;> (first | omega | (simp <;> omega))) (fun hS => ?_)
  clear hK
  try simp only [Act.put, gA, gB, gC, sA, sB, sC]
  refine tK 10 (v := ?_) (by assumption) ?_ ?_
  rotate_left
  · (intro _ _; go_simp; try with_reducible rfl)
  try simp only [Act.put, gA, gB, gC, sA, sB, sC]
  refine tK 11 (v := ?_) (by assumption) ?_ ?_
  rotate_left
  · (intro _ _; go_simp; try with_reducible rfl)
  try simp only [Act.put, gA, gB, gC, sA, sB, sC]
  refine wpL.eff 12 rfl (by kernel_rfl) rfl ?_
  intro K hK
  go_wp2
  refine hK _ _ (by with_reducible (repeat first | exact bR _ _ | assumption | exact ho (by assumption) | refine bD ?_ | refine bA ?_ ?_ _ | refine bS ?_ ?_ _ | refine bC ?_ (ho (by assumption)) ?_) <;> (first | omega | (simp <;> omega))) (fun hS => ?_)
  clear hK
  try simp only [Act.put, gA, gB, gC, sA, sB, sC]
  refine tK 13 (v := ?_) (by assumption) ?_ ?_
  rotate_left
  · (intro _ _; go_simp; try with_reducible rfl)
  try simp only [Act.put, gA, gB, gC, sA, sB, sC]
  refine wpL.done (by kernel_rfl) ?_
  go_wp2
  refine bodyPost_ret (v := .tuple #[.agg #[.int .i64 E.level, .bool E.special, .slice az E.rows.length cz], .int .i64 0]) (by simp [results, Tryz.results78, go_sem, k0, k1, k2]) rfl ⟨⟨_, _, rfl, ?_⟩, (by with_reducible (repeat first | exact bR _ _ | assumption | exact ho (by assumption) | refine bD ?_ | refine bA ?_ ?_ _ | refine bS ?_ ?_ _ | refine bC ?_ (ho (by assumption)) ?_) <;> (first | omega | (simp <;> omega)))⟩
  exact (HO5.out.kp (by with_reducible (repeat first | exact kR _ _ _ | assumption | exact ho (by assumption) | refine kD ?_ | refine kA ?_ _ | refine kS ?_ ?_ _ | refine kC ?_ (ho (by assumption))) <;> (first | omega | (simp <;> omega)))).mono (by (first | omega | (simp only [World.size_alloc, sz_set, sz_drew, sz_drewN]; done) | (simp only [World.size_alloc, sz_set, sz_drew, sz_drewN]; omega)))
theorem enters_comb1 : ∀ args w, (callFunc 78 args).run Tryz.prog w = .ok (.enter 78 args) w := enters_of Tryz.func78 (by kernel_rfl) rfl

end Go.Proofs.YtcipjbckcnkfaaaGreat
