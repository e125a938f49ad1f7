/- The reference's part, Add, Sub. (Printed by genr16.py.) -/
import Derived.Test.YtcipjbckcnkfaaaGreatPs48
import Derived.Test.YtcipjbckcnkfaaaGreatPs39
set_option linter.unusedSimpArgs false
set_option linter.unusedVariables false
namespace Go.Proofs.YtcipjbckcnkfaaaGreat
open Go.RowKit Go.Shelf
attribute [local go_sem ↓] Go.wp_at_zero Go.wp_at_succ

/-- An element that a call returns: it can be read. -/
def ReadEl (E : El) (e : Ending) (w' : World) : Prop := ∃ a c, e = .returned (E.val a c) ∧ RdR w' a E.rows

set_option maxHeartbeats 6400000 in
set_option maxRecDepth 100000 in
theorem r16part_walk (p : Par) (ca : Option Addr) (cc : Nat) (A : Ci) (aa : Option Addr) (cA i : Nat) (w : World) (hin : ParIn w p ca cc) (hA : CiOk p A) (hrd : RdE w aa A.parts) (hi : i < 3) :
    Calls Tryz.prog 45 #[.agg (p.cells ca cc), A.val aa cA, .int .i64 (i : Int)] w fun e w' => ReadEl (partZ p A i) e w' ∧ Below w.heap.size w w' := by
  have hg := hA.1.1
  have hpl : PlaceOk p A.level false := PlaceOk.of hA.1.2.1 hA.1.2.2.1
  have hl := hA.2.1
  by_cases hlt : i < A.parts.length
  case pos =>
    rw [partZ_lt hlt]
    obtain ⟨b, o, r0, k0, rfl, lb, x0, x1, x2, x3, _⟩ := hrd.at hlt
    rw [show A.parts.getD i ⟨0, false, []⟩ = A.part i from rfl] at x0 x1 x2 x3
    obtain ⟨E, hE⟩ : ∃ E, A.part i = E := ⟨_, rfl⟩
    rw [hE] at x0 x1 x2 x3 ⊢
    have HX := Lib.hid x3
    unfold ReadEl Ci.val Par.cells
    obtain ⟨la, hla⟩ : ∃ la, A.parts.length = la := ⟨_, rfl⟩
    rw [hla] at hlt ⊢
    have i0 : (0 : Int) ≤ (i : Int) := Int.natCast_nonneg _
    have i1 : (i : Int) < (la : Int) := by omega
    unfold El.val
    clear hin hA hrd hg hpl hl hE x3 hla
    go_enter Tryz.func45, Tryz.ntmps45
    go_upto_region 1 with fail
    refine gen_w _ _ (fun W0 hW_W0 => ?_)
    have HB_W0 : Hid (Below w.heap.size w W0) := Lib.hid (by rw [hW_W0]; exact (by with_reducible (repeat first | exact bR _ _ | assumption | exact ho (by assumption) | refine bD ?_ | refine bA ?_ ?_ _ | refine bS ?_ ?_ _ | refine bC ?_ (ho (by assumption)) ?_) <;> (first | omega | (simp <;> omega))))
    obtain ⟨hw_W0, hwf_W0⟩ := bcellB HB_W0.out
    have K0_W0 : Hid (Blk W0 w.heap.size 25 #[.int .i64 p.n, .int .u32 (p.prime : Int), .int .i64 p.power, .slice ca p.chain.length cc, .int .u32 (p.special : Int), .int .i64 p.weight, .int .u32 (p.err : Int)]) := Lib.hid (by rw [hW_W0]; exact (by repeat (first | exact Blk.newAt (by (first | omega | (simp only [World.size_alloc, sz_set, sz_drew, sz_drewN]; done) | (simp only [World.size_alloc, sz_set, sz_drew, sz_drewN]; omega))) | (with_reducible refine Blk.alloc ?_ _) | (with_reducible refine Blk.drew ?_) | (with_reducible refine Blk.drewN ?_ _) | (with_reducible refine Blk.belowB ?_ (Hid.out (by assumption)) ?szk; case szk => (first | omega | (simp only [World.size_alloc, sz_set, sz_drew, sz_drewN]; done) | (simp only [World.size_alloc, sz_set, sz_drew, sz_drewN]; omega))))))
    have q0_W0 : w.heap.size < W0.heap.size := K0_W0.out.lt
    have k0_0_W0 := K0_W0.out.cell 0
    have f0_0_W0 := K0_W0.out.free 0
    have k0_1_W0 := K0_W0.out.cell 1
    have f0_1_W0 := K0_W0.out.free 1
    have k0_2_W0 := K0_W0.out.cell 2
    have f0_2_W0 := K0_W0.out.free 2
    have k0_3_W0 := K0_W0.out.cell 3
    have f0_3_W0 := K0_W0.out.free 3
    have k0_4_W0 := K0_W0.out.cell 4
    have f0_4_W0 := K0_W0.out.free 4
    have k0_5_W0 := K0_W0.out.cell 5
    have f0_5_W0 := K0_W0.out.free 5
    have k0_6_W0 := K0_W0.out.cell 6
    have f0_6_W0 := K0_W0.out.free 6
    simp only [List.getElem?_toArray, List.getElem?_cons_zero, List.getElem?_cons_succ] at k0_0_W0 k0_1_W0 k0_2_W0 k0_3_W0 k0_4_W0 k0_5_W0 k0_6_W0
    have K1_W0 : Hid (Blk W0 (w.heap.size + 1) 28 #[.int .i64 A.level, .int .i64 A.exponent, .slice (some ⟨b, o, none⟩) la cA]) := Lib.hid (by rw [hW_W0]; exact (by repeat (first | exact Blk.newAt (by (first | omega | (simp only [World.size_alloc, sz_set, sz_drew, sz_drewN]; done) | (simp only [World.size_alloc, sz_set, sz_drew, sz_drewN]; omega))) | (with_reducible refine Blk.alloc ?_ _) | (with_reducible refine Blk.drew ?_) | (with_reducible refine Blk.drewN ?_ _) | (with_reducible refine Blk.belowB ?_ (Hid.out (by assumption)) ?szk; case szk => (first | omega | (simp only [World.size_alloc, sz_set, sz_drew, sz_drewN]; done) | (simp only [World.size_alloc, sz_set, sz_drew, sz_drewN]; omega))))))
    have q1_W0 : w.heap.size + 1 < W0.heap.size := K1_W0.out.lt
    have k1_0_W0 := K1_W0.out.cell 0
    have f1_0_W0 := K1_W0.out.free 0
    have k1_1_W0 := K1_W0.out.cell 1
    have f1_1_W0 := K1_W0.out.free 1
    have k1_2_W0 := K1_W0.out.cell 2
    have f1_2_W0 := K1_W0.out.free 2
    simp only [List.getElem?_toArray, List.getElem?_cons_zero, List.getElem?_cons_succ] at k1_0_W0 k1_1_W0 k1_2_W0
    have K2_W0 : Hid (Blk W0 (w.heap.size + 1 + 1) 54 #[.int .i64 0, .bool false, .slice none 0 0]) := Lib.hid (by rw [hW_W0]; exact (by repeat (first | exact Blk.newAt (by (first | omega | (simp only [World.size_alloc, sz_set, sz_drew, sz_drewN]; done) | (simp only [World.size_alloc, sz_set, sz_drew, sz_drewN]; omega))) | (with_reducible refine Blk.alloc ?_ _) | (with_reducible refine Blk.drew ?_) | (with_reducible refine Blk.drewN ?_ _) | (with_reducible refine Blk.belowB ?_ (Hid.out (by assumption)) ?szk; case szk => (first | omega | (simp only [World.size_alloc, sz_set, sz_drew, sz_drewN]; done) | (simp only [World.size_alloc, sz_set, sz_drew, sz_drewN]; omega))))))
    have q2_W0 : w.heap.size + 1 + 1 < W0.heap.size := K2_W0.out.lt
    have k2_0_W0 := K2_W0.out.cell 0
    have f2_0_W0 := K2_W0.out.free 0
    have k2_1_W0 := K2_W0.out.cell 1
    have f2_1_W0 := K2_W0.out.free 1
    have k2_2_W0 := K2_W0.out.cell 2
    have f2_2_W0 := K2_W0.out.free 2
    simp only [List.getElem?_toArray, List.getElem?_cons_zero, List.getElem?_cons_succ] at k2_0_W0 k2_1_W0 k2_2_W0
    clear hW_W0
    go_wp2
    refine bodyPost_ret (v := .agg #[.int .i64 E.level, .bool E.special, .slice r0 E.rows.length k0]) (by simp [results, Tryz.results45, go_sem, k2_0_W0, k2_1_W0, k2_2_W0]) rfl ⟨⟨r0, k0, rfl, HX.out.below (by with_reducible (repeat first | exact bR _ _ | assumption | exact ho (by assumption) | refine bD ?_ | refine bA ?_ ?_ _ | refine bS ?_ ?_ _ | refine bC ?_ (ho (by assumption)) ?_) <;> (first | omega | (simp <;> omega)))⟩, (by with_reducible (repeat first | exact bR _ _ | assumption | exact ho (by assumption) | refine bD ?_ | refine bA ?_ ?_ _ | refine bS ?_ ?_ _ | refine bC ?_ (ho (by assumption)) ?_) <;> (first | omega | (simp <;> omega)))⟩
  rw [partZ_ge hlt]
  obtain ⟨lv, m, n, hlv, hpn, hqm, hlv1, hlv2, hn0, hn32, hs0, hs1, hm25, hqb⟩ := hpl.shape hg
  obtain ⟨b, o, r0, k0, rfl, lb, x0, x1, x2, x3, _⟩ := hrd.at (i := 0) (by omega)
  rw [show A.parts.getD 0 ⟨0, false, []⟩ = A.part 0 from rfl] at x0 x1 x2
  have hP0 := hA.2.2 0 (by omega)
  have H1 : Hid (∀ (w' : World) (g : Nat), Below w.heap.size w w' → Blk w' g 2 (zeroLs n) → Calls Tryz.prog 79 #[.agg (p.cells ca cc), (A.part 0).val r0 k0, .slice (some ⟨g, 0, none⟩) n n] w' fun e w2 => (∃ v, e = .returned v ∧ GiveEl w'.heap.size (ofEl p A.level false (List.replicate n 0)) v w2) ∧ Below w'.heap.size w' w2) := Lib.hid (fun w' g hb hB => by
    have := r13Of_walk p ca cc (A.part 0) r0 k0 (List.replicate n 0) (some ⟨g, 0, none⟩) n w' (hin.below hb) hg (by rw [hP0.2.1, hP0.2.2]; exact hpl) (by simp [hpn]) (fun j hj => by simp at hj; simp [List.getD_eq_getElem?_getD, hj]) (rdI_zeros hB)
    rw [List.length_replicate, hP0.2.1, hP0.2.2] at this
    exact this)
  have hZn : p.n.toNat = n := by omega
  rw [hZn]
  have hmk := makeLs n (by omega)
  obtain ⟨Z, hZ⟩ : ∃ Z, ofEl p A.level false (List.replicate n 0) = Z := ⟨_, rfl⟩
  rw [hZ] at H1 ⊢
  simp only [Nat.zero_mul, Nat.add_zero] at x0 x1 x2
  obtain ⟨E, hE⟩ : ∃ E, A.part 0 = E := ⟨_, rfl⟩
  rw [hE] at H1 x0 x1 x2
  unfold ReadEl
  unfold GiveEl El.val Ci.val Par.cells at *
  obtain ⟨la, hla⟩ : ∃ la, A.parts.length = la := ⟨_, rfl⟩
  rw [hla] at hlt hl ⊢
  rw [hpn] at H1 ⊢
  have i1 : ¬ (i : Int) < (la : Int) := by omega
  have h0 : (0 : Int) < (la : Int) := by omega
  have h0' : 0 < la := by omega
  clear hin hA hrd hg hpl hpn hqm hs0 hs1 hqb hZ hE x3 hP0 hZn hla hlv hlt hl
  go_enter Tryz.func45, Tryz.ntmps45
  go_upto_region 3 with fail
  refine gen_w _ _ (fun W0 hW0 => ?_)
  have HB0 : Hid (Below w.heap.size w W0) := Lib.hid (by rw [hW0]; exact (by with_reducible (repeat first | exact bR _ _ | assumption | exact ho (by assumption) | refine bD ?_ | refine bN ?_ _ | refine bA ?_ ?_ _ | refine bS ?_ ?_ _) <;> (first | omega | (simp <;> omega))))
  have hz0 : W0.heap.size = w.heap.size + 1 + 1 + 1 := by rw [hW0]; simp
  have HP0 : Hid (Blk W0 w.heap.size 25 #[.int .i64 (n : Int), .int .u32 (p.prime : Int), .int .i64 p.power, .slice ca p.chain.length cc, .int .u32 (p.special : Int), .int .i64 p.weight, .int .u32 (p.err : Int)]) := Lib.hid (by rw [hW0]; exact (by repeat (first | exact Blk.newAt (by (first | omega | (simp only [World.size_alloc, sz_set, sz_drew, sz_drewN]; done) | (simp only [World.size_alloc, sz_set, sz_drew, sz_drewN]; omega))) | (with_reducible refine Blk.alloc ?_ _) | (with_reducible refine Blk.drew ?_) | (with_reducible refine Blk.drewN ?_ _) | (with_reducible refine Blk.belowB ?_ (Hid.out (by assumption)) ?szk; case szk => (first | omega | (simp only [World.size_alloc, sz_set, sz_drew, sz_drewN]; done) | (simp only [World.size_alloc, sz_set, sz_drew, sz_drewN]; omega))))))
  have HC0 : Hid (Blk W0 (w.heap.size + 1) 28 #[.int .i64 A.level, .int .i64 A.exponent, .slice (some ⟨b, o, none⟩) la cA]) := Lib.hid (by rw [hW0]; exact (by repeat (first | exact Blk.newAt (by (first | omega | (simp only [World.size_alloc, sz_set, sz_drew, sz_drewN]; done) | (simp only [World.size_alloc, sz_set, sz_drew, sz_drewN]; omega))) | (with_reducible refine Blk.alloc ?_ _) | (with_reducible refine Blk.drew ?_) | (with_reducible refine Blk.drewN ?_ _) | (with_reducible refine Blk.belowB ?_ (Hid.out (by assumption)) ?szk; case szk => (first | omega | (simp only [World.size_alloc, sz_set, sz_drew, sz_drewN]; done) | (simp only [World.size_alloc, sz_set, sz_drew, sz_drewN]; omega))))))
  have HO0 : Hid (Blk W0 (w.heap.size + 1 + 1) 54 #[.int .i64 0, .bool false, .slice none 0 0]) := Lib.hid (by rw [hW0]; exact (by repeat (first | exact Blk.newAt (by (first | omega | (simp only [World.size_alloc, sz_set, sz_drew, sz_drewN]; done) | (simp only [World.size_alloc, sz_set, sz_drew, sz_drewN]; omega))) | (with_reducible refine Blk.alloc ?_ _) | (with_reducible refine Blk.drew ?_) | (with_reducible refine Blk.drewN ?_ _) | (with_reducible refine Blk.belowB ?_ (Hid.out (by assumption)) ?szk; case szk => (first | omega | (simp only [World.size_alloc, sz_set, sz_drew, sz_drewN]; done) | (simp only [World.size_alloc, sz_set, sz_drew, sz_drewN]; omega))))))
  have q0 : w.heap.size < W0.heap.size := by omega
  have q1 : w.heap.size + 1 < W0.heap.size := by omega
  have q2 : w.heap.size + 1 + 1 < W0.heap.size := by omega
  have q3 : w.heap.size < w.heap.size + 1 + 1 := by omega
  have q4 : w.heap.size + 1 < w.heap.size + 1 + 1 := by omega
  have lb' : b < w.heap.size + 1 + 1 := by omega
  have HZ0 := Lib.hid hz0
  obtain ⟨hcw, hfw⟩ := bcellB HB0.out
  clear hW0 hz0
  obtain ⟨c0, c1, c2, c3, c4, c5, c6⟩ := par_cells HP0.out
  obtain ⟨d0, d1, d2⟩ := el_cells HC0.out
  obtain ⟨e0, e1, e2⟩ := el_cells HO0.out
  have f0 := HO0.out.free 0
  have f1 := HO0.out.free 1
  have f2 := HO0.out.free 2
  have hS : (fun w' : World => Below (w.heap.size + 1 + 1) W0 w') W0.drew := (Below.refl _ _).drew
  refine wp_region_L (fun w' : World => Below (w.heap.size + 1 + 1) W0 w') 9 (by kernel_rfl) (by kernel_rfl) (by kernel_rfl) ?_
  refine tK 0 (v := ?_) (by assumption) ?_ ?_
  rotate_left
  · (intro _ _; go_simp; try with_reducible rfl)
  try simp only [Act.put, gA, gB, gC, sA, sB, sC]
  refine tK 1 (v := ?_) (by assumption) ?_ ?_
  rotate_left
  · (intro _ _; go_simp; try with_reducible rfl)
  try simp only [Act.put, gA, gB, gC, sA, sB, sC]
  refine tK 2 (v := ?_) (by assumption) ?_ ?_
  rotate_left
  · (intro _ _; go_simp; try with_reducible rfl)
  try simp only [Act.put, gA, gB, gC, sA, sB, sC]
  refine tK 3 (v := ?_) (by assumption) ?_ ?_
  rotate_left
  · (intro _ _; go_simp; try with_reducible rfl)
  try simp only [Act.put, gA, gB, gC, sA, sB, sC]
  refine tK 4 (v := ?_) (by assumption) ?_ ?_
  rotate_left
  · (intro _ _; go_simp; try with_reducible rfl)
  try simp only [Act.put, gA, gB, gC, sA, sB, sC]
  refine tK 5 (v := ?_) (by assumption) ?_ ?_
  rotate_left
  · (intro _ _; go_simp; try with_reducible rfl)
  try simp only [Act.put, gA, gB, gC, sA, sB, sC]
  refine tK 6 (v := ?_) (by assumption) ?_ ?_
  rotate_left
  · (intro _ _; go_simp; try with_reducible rfl)
  try simp only [Act.put, gA, gB, gC, sA, sB, sC]
  refine wpL.eff 7 rfl (by kernel_rfl) rfl ?_
  intro K hK
  go_wp2
  refine hK _ _ (by with_reducible (repeat first | exact bR _ _ | assumption | exact ho (by assumption) | refine bD ?_ | refine bA ?_ ?_ _ | refine bS ?_ ?_ _ | refine bC ?_ (ho (by assumption)) ?_) <;> (first | omega | (simp <;> omega))) (fun hS => ?_)
  clear hK
  try simp only [Act.put, gA, gB, gC, sA, sB, sC]
  refine wpL.eff 8 rfl (by kernel_rfl) rfl ?_
  intro K hK
  go_wp2_with fail
  (with_reducible refine Calls.mono (H1.out _ _ (by with_reducible (repeat first | exact bR _ _ | assumption | exact ho (by assumption) | refine bD ?_ | refine bN ?_ _ | refine bA ?_ ?_ _ | refine bS ?_ ?_ _) <;> (first | omega | (simp <;> omega))) (by repeat (first | exact Blk.newAt (by (first | omega | (simp only [World.size_alloc, sz_set, sz_drew, sz_drewN]; done) | (simp only [World.size_alloc, sz_set, sz_drew, sz_drewN]; omega))) | (with_reducible refine Blk.alloc ?_ _) | (with_reducible refine Blk.drew ?_) | (with_reducible refine Blk.drewN ?_ _) | (with_reducible refine Blk.belowB ?_ (Hid.out (by assumption)) ?szk; case szk => (first | omega | (simp only [World.size_alloc, sz_set, sz_drew, sz_drewN]; done) | (simp only [World.size_alloc, sz_set, sz_drew, sz_drewN]; omega)))))) ?_)
  rintro e w5 ⟨⟨v5, rfl, az, cz, rfl, hO, _, _⟩, hb⟩
  have HO5 := Lib.hid hO
  have hk5 : Blk w5 (w.heap.size + 1 + 1) 54 #[.int .i64 0, .bool false, .slice none 0 0] := HO0.out.belowB (below_step' (by with_reducible (repeat first | exact bR _ _ | assumption | exact ho (by assumption) | refine bD ?_ | refine bN ?_ _ | refine bA ?_ ?_ _ | refine bS ?_ ?_ _) <;> (first | omega | (simp <;> omega))) hb (Nat.le_refl _)) (by omega)
  obtain ⟨k0, k1, k2⟩ := el_cells hk5
  have j0 := hk5.free 0
  have j1 := hk5.free 1
  have j2 := hk5.free 2
  obtain ⟨hc_w5, hf_w5⟩ := bcell hb
  have HB_w5 : Hid (Below (w.heap.size + 1 + 1) W0 w5) := Lib.hid (below_step' (by with_reducible (repeat first | exact bR _ _ | assumption | exact ho (by assumption) | refine bD ?_ | refine bN ?_ _ | refine bA ?_ ?_ _ | refine bS ?_ ?_ _) <;> (first | omega | (simp <;> omega))) hb (by (first | omega | (simp only [World.size_alloc, sz_set, sz_drew, sz_drewN]; done) | (simp only [World.size_alloc, sz_set, sz_drew, sz_drewN]; omega))))
  have hs_w5 := hb.size
  try simp only [World.size_alloc, sz_set, sz_drew, sz_drewN] at hs_w5
  have HK_w5 := Lib.hid hb
  have HC_w5 := Lib.hid (callTo hb)
  clear hb
  clear hO hk5
  refine hK _ _ (by with_reducible (repeat first | exact bR _ _ | assumption | exact ho (by assumption) | refine bD ?_ | refine bA ?_ ?_ _ | refine bS ?_ ?_ _ | refine bC ?_ (ho (by assumption)) ?_) <;> (first | omega | (simp <;> omega))) (fun hS => ?_)
  clear hK
  try simp only [Act.put, gA, gB, gC, sA, sB, sC]
  refine wpL.last 9 rfl (by kernel_rfl) rfl (by kernel_rfl) rfl ?_
  go_wp2
  refine bodyPost_ret (v := .agg #[.int .i64 Z.level, .bool Z.special, .slice az Z.rows.length cz]) (by simp [results, Tryz.results45, go_sem, k0, k1, k2]) rfl ⟨⟨_, _, rfl, ?_⟩, (by with_reducible (repeat first | exact bR _ _ | assumption | exact ho (by assumption) | refine bD ?_ | refine bA ?_ ?_ _ | refine bS ?_ ?_ _ | refine bC ?_ (ho (by assumption)) ?_) <;> (first | omega | (simp <;> omega)))⟩
  exact (HO5.out.kp (by with_reducible (repeat first | exact kR _ _ _ | assumption | exact ho (by assumption) | refine kD ?_ | refine kA ?_ _ | refine kS ?_ ?_ _ | refine kC ?_ (ho (by assumption))) <;> (first | omega | (simp <;> omega)))).rd

set_option maxHeartbeats 6400000 in
set_option maxRecDepth 100000 in
theorem r16Add_no (p : Par) (ca : Option Addr) (cc : Nat) (A B : Ci) (aa ab : Option Addr) (cA cB : Nat) (w : World) (hin : ParIn w p ca cc) (hA : CiIn w A aa cA) (hB : CiIn w B ab cB) (hno : ¬ CiMatch p A B) :
    Calls Tryz.prog 14 #[.agg (p.cells ca cc), A.val aa cA, B.val ab cB] w fun e w' => e = .returned (.tuple #[.agg #[.int .i64 0, .int .i64 0, .slice none 0 0], .int .i64 2]) ∧ Below w.heap.size w w' := by
  have H1 := Lib.hid (fun (w' : World) (hb : Below w.heap.size w w') => r16match_walk p ca cc A B aa ab cA cB w' (hin.below hb) (hA.below hb) (hB.below hb))
  rw [tr_neg hno] at H1
  unfold Ci.val Par.cells at *
  clear hin hA hB hno
  go_enter Tryz.func14, Tryz.ntmps14
  go_wp2_with fail
  (with_reducible refine Calls.mono (H1.out _ (by with_reducible (repeat first | exact bR _ _ | assumption | exact ho (by assumption) | refine bD ?_ | refine bN ?_ _ | refine bA ?_ ?_ _ | refine bS ?_ ?_ _) <;> (first | omega | (simp <;> omega)))) ?_)
  rintro e w2 ⟨rfl, hb⟩
  obtain ⟨hc_w2, hf_w2⟩ := bcell hb
  have HB_w2 : Hid (Below w.heap.size w w2) := Lib.hid (below_step (by with_reducible (repeat first | exact bR _ _ | assumption | exact ho (by assumption) | refine bD ?_ | refine bN ?_ _ | refine bA ?_ ?_ _ | refine bS ?_ ?_ _) <;> (first | omega | (simp <;> omega))) hb)
  have hs_w2 := hb.size
  try simp only [World.size_alloc, sz_set, sz_drew, sz_drewN] at hs_w2
  have q0_w2 : w.heap.size < w2.heap.size := by omega
  have q1_w2 : w.heap.size + 1 < w2.heap.size := by omega
  have q2_w2 : w.heap.size + 1 + 1 < w2.heap.size := by omega
  have q3_w2 : w.heap.size + 1 + 1 + 1 < w2.heap.size := by omega
  have HK_w2 := Lib.hid hb
  have HC_w2 := Lib.hid (callTo hb)
  clear hb
  go_wp2
  refine bodyPost_ret (v := .tuple #[.agg #[.int .i64 0, .int .i64 0, .slice none 0 0], .int .i64 2]) (by simp [results, Tryz.results14, go_sem, hc_w2, q3_w2]) rfl ⟨rfl, (by with_reducible (repeat first | exact bR _ _ | assumption | exact ho (by assumption) | refine bD ?_ | refine bN ?_ _ | refine bA ?_ ?_ _ | refine bS ?_ ?_ _) <;> (first | omega | (simp <;> omega)))⟩

set_option maxHeartbeats 25600000 in
set_option maxRecDepth 100000 in
theorem r16Add_yes (p : Par) (ca : Option Addr) (cc : Nat) (A B : Ci) (aa ab : Option Addr) (cA cB : Nat) (w : World) (hin : ParIn w p ca cc) (hA : CiIn w A aa cA) (hB : CiIn w B ab cB) (hok : CiMatch p A B) :
    Calls Tryz.prog 14 #[.agg (p.cells ca cc), A.val aa cA, B.val ab cB] w fun e w' => (∃ v, e = .returned (.tuple #[v, .int .i64 0]) ∧ GiveCi w.heap.size ⟨A.level, A.exponent, (List.range (max A.parts.length B.parts.length)).map fun i => sumEl p (partZ p A i) (partZ p B i) 1⟩ v w') ∧ Below w.heap.size w w' := by
  have hg := hok.1.1.1
  have H1 := Lib.hid (fun (w' : World) (hb : Below w.heap.size w w') => r16match_walk p ca cc A B aa ab cA cB w' (hin.below hb) (hA.below hb) (hB.below hb))
  rw [tr_pos hok] at H1
  have hm3 : max A.parts.length B.parts.length ≤ 3 := by have := hok.1.2.1; have := hok.2.1.2.1; omega
  have H2 := Lib.hid (fun (i : Nat) (hi : i < 3) (w' : World) (hb : Below w.heap.size w w') => r16part_walk p ca cc A aa cA i w' (hin.below hb) hok.1 (hA.rd.below hb) hi)
  have H3 := Lib.hid (fun (i : Nat) (hi : i < 3) (w' : World) (hb : Below w.heap.size w w') => r16part_walk p ca cc B ab cB i w' (hin.below hb) hok.2.1 (hB.rd.below hb) hi)
  have H4 := Lib.hid (fun (i : Nat) (hi : i < 3) (a1 a2 : Option Addr) (k1 k2 : Nat) (w' : World) (hb : Below w.heap.size w w') (h1 : RdR w' a1 (partZ p A i).rows) (h2 : RdR w' a2 (partZ p B i).rows) => r13Add_give p ca cc (partZ p A i) (partZ p B i) a1 a2 k1 k2 w' (hin.below hb) hg (partZ_match hok hi) h1 h2)
  have hM := max_cast A.parts.length B.parts.length
  obtain ⟨M, hM'⟩ : ∃ M, max A.parts.length B.parts.length = M := ⟨_, rfl⟩
  rw [hM'] at hM hm3 ⊢
  unfold Ci.val at *
  obtain ⟨la, hla⟩ : ∃ la, A.parts.length = la := ⟨_, rfl⟩
  obtain ⟨lb, hlb⟩ : ∃ lb, B.parts.length = lb := ⟨_, rfl⟩
  rw [hla] at H1 H2 hM ⊢
  rw [hlb] at H1 H3 hM ⊢
  obtain ⟨XA, hXA⟩ : ∃ XA, partZ p A = XA := ⟨_, rfl⟩
  obtain ⟨XB, hXB⟩ : ∃ XB, partZ p B = XB := ⟨_, rfl⟩
  rw [hXA] at H2 H4 ⊢
  rw [hXB] at H3 H4 ⊢
  obtain ⟨F, hF⟩ : ∃ F : Nat → El, (fun i => sumEl p (XA i) (XB i) 1) = F := ⟨_, rfl⟩
  have hFi : ∀ i, sumEl p (XA i) (XB i) 1 = F i := fun i => by rw [← hF]
  rw [hF]
  simp only [hFi] at H4
  obtain ⟨L, hL⟩ : ∃ L, A.level = L := ⟨_, rfl⟩
  obtain ⟨X, hX⟩ : ∃ X, A.exponent = X := ⟨_, rfl⟩
  rw [hL, hX] at H1 H2 ⊢
  have HM := Lib.hid hM
  unfold ReadEl at H2 H3
  unfold GiveEl at H4
  unfold El.val Par.cells at *
  clear hin hA hB hok hg hM' hF hFi hla hlb hXA hXB hM hL hX
  go_enter Tryz.func14, Tryz.ntmps14
  go_wp2_with fail
  (with_reducible refine Calls.mono (H1.out _ (by with_reducible (repeat first | exact bR _ _ | assumption | exact ho (by assumption) | refine bD ?_ | refine bN ?_ _ | refine bA ?_ ?_ _ | refine bS ?_ ?_ _) <;> (first | omega | (simp <;> omega)))) ?_)
  rintro e w2 ⟨rfl, hb⟩
  obtain ⟨hc_w2, hf_w2⟩ := bcell hb
  have HB_w2 : Hid (Below w.heap.size w w2) := Lib.hid (below_step (by with_reducible (repeat first | exact bR _ _ | assumption | exact ho (by assumption) | refine bD ?_ | refine bN ?_ _ | refine bA ?_ ?_ _ | refine bS ?_ ?_ _) <;> (first | omega | (simp <;> omega))) hb)
  have hs_w2 := hb.size
  try simp only [World.size_alloc, sz_set, sz_drew, sz_drewN] at hs_w2
  have q0_w2 : w.heap.size < w2.heap.size := by omega
  have q1_w2 : w.heap.size + 1 < w2.heap.size := by omega
  have q2_w2 : w.heap.size + 1 + 1 < w2.heap.size := by omega
  have q3_w2 : w.heap.size + 1 + 1 + 1 < w2.heap.size := by omega
  have HK_w2 := Lib.hid hb
  have HC_w2 := Lib.hid (callTo hb)
  clear hb
  go_wp2
  refine gen_w _ _ (fun W0 hW0 => ?_)
  have HB0 : Hid (Below w.heap.size w W0) := Lib.hid (by rw [hW0]; exact (by with_reducible (repeat first | exact bR _ _ | assumption | exact ho (by assumption) | refine bD ?_ | refine bN ?_ _ | refine bA ?_ ?_ _ | refine bS ?_ ?_ _) <;> (first | omega | (simp <;> omega))))
  have HPb : Hid (Blk W0 w.heap.size 25 #[.int .i64 p.n, .int .u32 (p.prime : Int), .int .i64 p.power, .slice ca p.chain.length cc, .int .u32 (p.special : Int), .int .i64 p.weight, .int .u32 (p.err : Int)]) := Lib.hid (by rw [hW0]; exact (by repeat (first | exact Blk.newAt (by (first | omega | (simp only [World.size_alloc, sz_set, sz_drew, sz_drewN]; done) | (simp only [World.size_alloc, sz_set, sz_drew, sz_drewN]; omega))) | (with_reducible refine Blk.alloc ?_ _) | (with_reducible refine Blk.drew ?_) | (with_reducible refine Blk.drewN ?_ _) | (with_reducible refine Blk.belowB ?_ (Hid.out (by assumption)) ?szk; case szk => (first | omega | (simp only [World.size_alloc, sz_set, sz_drew, sz_drewN]; done) | (simp only [World.size_alloc, sz_set, sz_drew, sz_drewN]; omega))))))
  have HAb : Hid (Blk W0 (w.heap.size + 1) 28 #[.int .i64 L, .int .i64 X, .slice aa la cA]) := Lib.hid (by rw [hW0]; exact (by repeat (first | exact Blk.newAt (by (first | omega | (simp only [World.size_alloc, sz_set, sz_drew, sz_drewN]; done) | (simp only [World.size_alloc, sz_set, sz_drew, sz_drewN]; omega))) | (with_reducible refine Blk.alloc ?_ _) | (with_reducible refine Blk.drew ?_) | (with_reducible refine Blk.drewN ?_ _) | (with_reducible refine Blk.belowB ?_ (Hid.out (by assumption)) ?szk; case szk => (first | omega | (simp only [World.size_alloc, sz_set, sz_drew, sz_drewN]; done) | (simp only [World.size_alloc, sz_set, sz_drew, sz_drewN]; omega))))))
  have HBb : Hid (Blk W0 (w.heap.size + 1 + 1) 28 #[.int .i64 B.level, .int .i64 B.exponent, .slice ab lb cB]) := Lib.hid (by rw [hW0]; exact (by repeat (first | exact Blk.newAt (by (first | omega | (simp only [World.size_alloc, sz_set, sz_drew, sz_drewN]; done) | (simp only [World.size_alloc, sz_set, sz_drew, sz_drewN]; omega))) | (with_reducible refine Blk.alloc ?_ _) | (with_reducible refine Blk.drew ?_) | (with_reducible refine Blk.drewN ?_ _) | (with_reducible refine Blk.belowB ?_ (Hid.out (by assumption)) ?szk; case szk => (first | omega | (simp only [World.size_alloc, sz_set, sz_drew, sz_drewN]; done) | (simp only [World.size_alloc, sz_set, sz_drew, sz_drewN]; omega))))))
  have HRb : Hid (Blk W0 (w.heap.size + 1 + 1 + 1) 28 #[.int .i64 0, .int .i64 0, .slice none 0 0]) := Lib.hid (by rw [hW0]; exact (by repeat (first | exact Blk.newAt (by (first | omega | (simp only [World.size_alloc, sz_set, sz_drew, sz_drewN]; done) | (simp only [World.size_alloc, sz_set, sz_drew, sz_drewN]; omega))) | (with_reducible refine Blk.alloc ?_ _) | (with_reducible refine Blk.drew ?_) | (with_reducible refine Blk.drewN ?_ _) | (with_reducible refine Blk.belowB ?_ (Hid.out (by assumption)) ?szk; case szk => (first | omega | (simp only [World.size_alloc, sz_set, sz_drew, sz_drewN]; done) | (simp only [World.size_alloc, sz_set, sz_drew, sz_drewN]; omega))))))
  have HOb : Hid (Blk W0 w2.heap.size 28 #[.int .i64 L, .int .i64 X, .slice none 0 0]) := Lib.hid (by rw [hW0]; exact (by repeat (first | exact Blk.newAt (by (first | omega | (simp only [World.size_alloc, sz_set, sz_drew, sz_drewN]; done) | (simp only [World.size_alloc, sz_set, sz_drew, sz_drewN]; omega))) | (with_reducible refine Blk.alloc ?_ _) | (with_reducible refine Blk.drew ?_) | (with_reducible refine Blk.drewN ?_ _) | (with_reducible refine Blk.belowB ?_ (Hid.out (by assumption)) ?szk; case szk => (first | omega | (simp only [World.size_alloc, sz_set, sz_drew, sz_drewN]; done) | (simp only [World.size_alloc, sz_set, sz_drew, sz_drewN]; omega))))))
  obtain ⟨d, hd⟩ : ∃ d, w2.heap.size = d := ⟨_, rfl⟩
  rw [hd] at HOb ⊢
  have dlt : d < W0.heap.size := HOb.out.lt
  have z3 : w.heap.size + 1 + 1 + 1 < d := by omega
  have z2 : w.heap.size + 1 + 1 < d := by omega
  have z1 : w.heap.size + 1 < d := by omega
  have z0 : w.heap.size < d := by omega
  have y3 : w.heap.size + 1 + 1 + 1 < W0.heap.size := by omega
  have y2 : w.heap.size + 1 + 1 < W0.heap.size := by omega
  have y1 : w.heap.size + 1 < W0.heap.size := by omega
  have y0 : w.heap.size < W0.heap.size := by omega
  clear hW0 HB_w2 HK_w2 HC_w2 hc_w2 hf_w2 hs_w2 q0_w2 q1_w2 q2_w2 q3_w2 H1 hd
  go_loopg [9] M (fun fu v9 wr => ∃ (i : Nat) (oo : Option Addr) (oc : Nat), v9 = .int .i64 i ∧ i ≤ M ∧ M - i ≤ fu ∧ Hid (Blk wr d 28 #[.int .i64 L, .int .i64 X, .slice oo i oc]) ∧ Hid (OwE wr W0.heap.size (.slice oo i oc) ((List.range i).map F)) ∧ Hid (Turn W0 wr [d]))
  case atStart => exact ⟨0, none, 0, rfl, by omega, by omega, HOb, Lib.hid (OwE.nil _ _), Lib.hid (Turn.refl _ _)⟩
  case round =>
    obtain ⟨i, oo, oc, rfl, hi, hfu, HO, HE, HT⟩ := hrel
    have hsr := HT.out.size
    have HBr : Hid (Below w.heap.size w wr) := Lib.hid (HB0.out.trans (HT.out.belowN HB0.out.size (fun y hy => by simp at hy; omega)))
    obtain ⟨c0, c1, c2, c3, c4, c5, c6⟩ := par_cells (HPb.out.turn HT.out (by simp <;> omega))
    obtain ⟨a0, a1, a2⟩ := el_cells (HAb.out.turn HT.out (by simp <;> omega))
    obtain ⟨b0, b1, b2⟩ := el_cells (HBb.out.turn HT.out (by simp <;> omega))
    obtain ⟨e0, e1, e2⟩ := el_cells HO.out
    have g2 := HO.out.free 2
    have hMx := HM.out
    by_cases hlt : i < M
    case neg =>
      obtain rfl : i = M := by omega
      have hbR := HRb.out.turn HT.out (by simp <;> omega)
      obtain ⟨k0, k1, k2⟩ := el_cells hbR
      have f0 := hbR.free 0
      have f1 := hbR.free 1
      have f2 := hbR.free 2
      clear hbR
      go_wp2
      refine bodyPost_ret (v := .tuple #[.agg #[.int .i64 L, .int .i64 X, .slice oo i oc], .int .i64 0]) (by simp [results, Tryz.results14, go_sem, k0, k1, k2]) rfl ⟨⟨_, rfl, ?_⟩, (by with_reducible (repeat first | exact bR _ _ | assumption | exact ho (by assumption) | refine bD ?_ | refine bN ?_ _ | refine bA ?_ ?_ _ | refine bS ?_ ?_ _) <;> (first | omega | (simp <;> omega)))⟩
      obtain ⟨ao', c', e', r1, r2, r3⟩ := (HE.out.kp (w' := ((wr.setCell ⟨w.heap.size + 1 + 1 + 1, 0, none⟩ (.int .i64 L)).setCell ⟨w.heap.size + 1 + 1 + 1, 1, none⟩ (.int .i64 X)).setCell ⟨w.heap.size + 1 + 1 + 1, 2, none⟩ (.slice oo i oc)) (by with_reducible (repeat first | exact kR _ _ _ | assumption | exact ho (by assumption) | refine kD ?_ | refine kA ?_ _ | refine kS ?_ ?_ _ | refine kC ?_ (ho (by assumption))) <;> (first | omega | (simp <;> omega)))).give
      simp only [List.length_map, List.length_range] at e' r2
      cases e'
      exact ⟨oo, oc, by unfold Ci.val; simp only [List.length_map, List.length_range], r1.mono (by omega), by simpa using r2, r3⟩
    have hi3 : i < 3 := by omega
    have HPA := Lib.hid (H2.out i hi3)
    have HPB := Lib.hid (H3.out i hi3)
    have HSM := Lib.hid (H4.out i hi3)
    obtain ⟨EA, hEA⟩ : ∃ EA, XA i = EA := ⟨_, rfl⟩
    obtain ⟨EB, hEB⟩ : ∃ EB, XB i = EB := ⟨_, rfl⟩
    obtain ⟨EF, hEF⟩ : ∃ EF, F i = EF := ⟨_, rfl⟩
    rw [hEA] at HPA HSM
    rw [hEB] at HPB HSM
    rw [hEF] at HSM
    have HEF := Lib.hid hEF
    have i1 : (i : Int) < (M : Int) := by omega
    clear hEA hEB hEF
    go_wp2
    have hS : (fun w' : World => Below (W0.heap.size) wr w') wr.drew := (Below.refl _ _).drew
    refine wp_region_L (fun w' : World => Below (W0.heap.size) wr w') 15 (by kernel_rfl) (by kernel_rfl) (by kernel_rfl) ?_
    refine tK 0 (v := ?_) (by assumption) ?_ ?_
    rotate_left
    · (intro _ _; go_simp; try with_reducible rfl)
    try simp only [Act.put, gA, gB, gC, sA, sB, sC]
    refine tK 1 (v := ?_) (by assumption) ?_ ?_
    rotate_left
    · (intro _ _; go_simp; try with_reducible rfl)
    try simp only [Act.put, gA, gB, gC, sA, sB, sC]
    refine tK 2 (v := ?_) (by assumption) ?_ ?_
    rotate_left
    · (intro _ _; go_simp; try with_reducible rfl)
    try simp only [Act.put, gA, gB, gC, sA, sB, sC]
    refine tK 3 (v := ?_) (by assumption) ?_ ?_
    rotate_left
    · (intro _ _; go_simp; try with_reducible rfl)
    try simp only [Act.put, gA, gB, gC, sA, sB, sC]
    refine tK 4 (v := ?_) (by assumption) ?_ ?_
    rotate_left
    · (intro _ _; go_simp; try with_reducible rfl)
    try simp only [Act.put, gA, gB, gC, sA, sB, sC]
    refine tK 5 (v := ?_) (by assumption) ?_ ?_
    rotate_left
    · (intro _ _; go_simp; try with_reducible rfl)
    try simp only [Act.put, gA, gB, gC, sA, sB, sC]
    refine tK 7 (v := ?_) (by assumption) ?_ ?_
    rotate_left
    · (intro _ _; go_simp; try with_reducible rfl)
    try simp only [Act.put, gA, gB, gC, sA, sB, sC]
    refine tK 8 (v := ?_) (by assumption) ?_ ?_
    rotate_left
    · (intro _ _; go_simp; try with_reducible rfl)
    try simp only [Act.put, gA, gB, gC, sA, sB, sC]
    refine tK 9 (v := ?_) (by assumption) ?_ ?_
    rotate_left
    · (intro _ _; go_simp; try with_reducible rfl)
    try simp only [Act.put, gA, gB, gC, sA, sB, sC]
    refine wpL.eff 6 rfl (by kernel_rfl) rfl ?_
    intro K hK
    go_wp2_with fail
    (with_reducible refine Calls.mono (HPA.out _ (by with_reducible (repeat first | exact bR _ _ | assumption | exact ho (by assumption) | refine bD ?_ | refine bN ?_ _ | refine bA ?_ ?_ _ | refine bS ?_ ?_ _) <;> (first | omega | (simp <;> omega)))) ?_)
    rintro e w4 ⟨⟨a4, c4', rfl, hr⟩, hb⟩
    have HR4 := Lib.hid hr
    obtain ⟨hc_w4, hf_w4⟩ := bcell hb
    have HB_w4 : Hid (Below (W0.heap.size) wr w4) := Lib.hid (below_step' (by with_reducible (repeat first | exact bR _ _ | assumption | exact ho (by assumption) | refine bD ?_ | refine bN ?_ _ | refine bA ?_ ?_ _ | refine bS ?_ ?_ _) <;> (first | omega | (simp <;> omega))) hb (by (first | omega | (simp only [World.size_alloc, sz_set, sz_drew, sz_drewN]; done) | (simp only [World.size_alloc, sz_set, sz_drew, sz_drewN]; omega))))
    have hs_w4 := hb.size
    try simp only [World.size_alloc, sz_set, sz_drew, sz_drewN] at hs_w4
    have HK_w4 := Lib.hid hb
    have HC_w4 := Lib.hid (callTo hb)
    clear hb
    have HW4 : Hid (Below w.heap.size w w4) := Lib.hid (by with_reducible (repeat first | exact bR _ _ | assumption | exact ho (by assumption) | refine bD ?_ | refine bA ?_ ?_ _ | refine bS ?_ ?_ _ | refine bC ?_ (ho (by assumption)) ?_) <;> (first | omega | (simp <;> omega)))
    clear hr
    refine hK _ _ (by with_reducible (repeat first | exact bR _ _ | assumption | exact ho (by assumption) | refine bD ?_ | refine bA ?_ ?_ _ | refine bS ?_ ?_ _ | refine bC ?_ (ho (by assumption)) ?_) <;> (first | omega | (simp <;> omega))) (fun hS => ?_)
    clear hK
    try simp only [Act.put, gA, gB, gC, sA, sB, sC]
    refine wpL.eff 10 rfl (by kernel_rfl) rfl ?_
    intro K hK
    go_wp2_with fail
    (with_reducible refine Calls.mono (HPB.out _ (by with_reducible (repeat first | exact bR _ _ | assumption | exact ho (by assumption) | refine bD ?_ | refine bN ?_ _ | refine bA ?_ ?_ _ | refine bS ?_ ?_ _) <;> (first | omega | (simp <;> omega)))) ?_)
    rintro e w5 ⟨⟨a5, c5', rfl, hr⟩, hb⟩
    have HR5 := Lib.hid hr
    obtain ⟨hc_w5, hf_w5⟩ := bcell hb
    have HB_w5 : Hid (Below (W0.heap.size) wr w5) := Lib.hid (below_step' (by with_reducible (repeat first | exact bR _ _ | assumption | exact ho (by assumption) | refine bD ?_ | refine bN ?_ _ | refine bA ?_ ?_ _ | refine bS ?_ ?_ _) <;> (first | omega | (simp <;> omega))) hb (by (first | omega | (simp only [World.size_alloc, sz_set, sz_drew, sz_drewN]; done) | (simp only [World.size_alloc, sz_set, sz_drew, sz_drewN]; omega))))
    have hs_w5 := hb.size
    try simp only [World.size_alloc, sz_set, sz_drew, sz_drewN] at hs_w5
    have HK_w5 := Lib.hid hb
    have HC_w5 := Lib.hid (callTo hb)
    clear hb
    have HW5 : Hid (Below w.heap.size w w5) := Lib.hid (by with_reducible (repeat first | exact bR _ _ | assumption | exact ho (by assumption) | refine bD ?_ | refine bA ?_ ?_ _ | refine bS ?_ ?_ _ | refine bC ?_ (ho (by assumption)) ?_) <;> (first | omega | (simp <;> omega)))
    clear hr
    refine hK _ _ (by with_reducible (repeat first | exact bR _ _ | assumption | exact ho (by assumption) | refine bD ?_ | refine bA ?_ ?_ _ | refine bS ?_ ?_ _ | refine bC ?_ (ho (by assumption)) ?_) <;> (first | omega | (simp <;> omega))) (fun hS => ?_)
    clear hK
    try simp only [Act.put, gA, gB, gC, sA, sB, sC]
    refine wpL.eff 11 rfl (by kernel_rfl) rfl ?_
    intro K hK
    go_wp2_with fail
    (with_reducible refine Calls.mono (HSM.out _ _ _ _ _ (by with_reducible (repeat first | exact bR _ _ | assumption | exact ho (by assumption) | refine bD ?_ | refine bN ?_ _ | refine bA ?_ ?_ _ | refine bS ?_ ?_ _) <;> (first | omega | (simp <;> omega))) (HR4.out.below HK_w5.out) HR5.out) ?_)
    rintro e w6 ⟨⟨v6, rfl, a6, c6', rfl, hr, hl1, hl2⟩, hb⟩
    have HR6 := Lib.hid (And.intro hr (And.intro hl1 hl2))
    obtain ⟨hc_w6, hf_w6⟩ := bcell hb
    have HB_w6 : Hid (Below (W0.heap.size) wr w6) := Lib.hid (below_step' (by with_reducible (repeat first | exact bR _ _ | assumption | exact ho (by assumption) | refine bD ?_ | refine bN ?_ _ | refine bA ?_ ?_ _ | refine bS ?_ ?_ _) <;> (first | omega | (simp <;> omega))) hb (by (first | omega | (simp only [World.size_alloc, sz_set, sz_drew, sz_drewN]; done) | (simp only [World.size_alloc, sz_set, sz_drew, sz_drewN]; omega))))
    have hs_w6 := hb.size
    try simp only [World.size_alloc, sz_set, sz_drew, sz_drewN] at hs_w6
    have HK_w6 := Lib.hid hb
    have HC_w6 := Lib.hid (callTo hb)
    clear hb
    have HE6 : Hid (OwE w6 W0.heap.size (.slice oo i oc) ((List.range i).map F)) := Lib.hid (HE.out.kp (by with_reducible (repeat first | exact kR _ _ _ | assumption | exact ho (by assumption) | refine kD ?_ | refine kA ?_ _ | refine kS ?_ ?_ _ | refine kC ?_ (ho (by assumption))) <;> (first | omega | (simp <;> omega))))
    have HPU := Lib.hid (OwE.push HE6.out (by simp) (by omega) (by omega) EF a6 c6' (HR6.out.1.mono (by omega)) HR6.out.2.1 HR6.out.2.2)
    clear hr hl1 hl2
    refine hK _ _ (by with_reducible (repeat first | exact bR _ _ | assumption | exact ho (by assumption) | refine bD ?_ | refine bA ?_ ?_ _ | refine bS ?_ ?_ _ | refine bC ?_ (ho (by assumption)) ?_) <;> (first | omega | (simp <;> omega))) (fun hS => ?_)
    clear hK
    try simp only [Act.put, gA, gB, gC, sA, sB, sC]
    refine wpL.eff 12 rfl (by kernel_rfl) rfl ?_
    intro K hK
    go_wp2
    refine hK _ _ (by with_reducible (repeat first | exact bR _ _ | assumption | exact ho (by assumption) | refine bD ?_ | refine bA ?_ ?_ _ | refine bS ?_ ?_ _ | refine bC ?_ (ho (by assumption)) ?_) <;> (first | omega | (simp <;> omega))) (fun hS => ?_)
    clear hK
    try simp only [Act.put, gA, gB, gC, sA, sB, sC]
    refine wpL.eff 13 rfl (by kernel_rfl) rfl ?_
    intro K hK
    obtain ⟨oo7, oc7, w7, hrun, hO7, hB7⟩ := HPU.out
    refine wp_append_run (.tmp 33) (.tmp 44) 26 rfl _ _ rfl rfl _ _ hrun ?_
    have HO7 := Lib.hid hO7
    have HB7 : Hid (Below W0.heap.size wr w7) := Lib.hid (HB_w6.out.trans hB7)
    clear hrun hO7 hB7
    refine hK _ _ (by with_reducible (repeat first | exact bR _ _ | assumption | exact ho (by assumption) | refine bD ?_ | refine bA ?_ ?_ _ | refine bS ?_ ?_ _ | refine bC ?_ (ho (by assumption)) ?_) <;> (first | omega | (simp <;> omega))) (fun hS => ?_)
    clear hK
    try simp only [Act.put, gA, gB, gC, sA, sB, sC]
    refine tK 14 (v := ?_) (by assumption) ?_ ?_
    rotate_left
    · (intro _ _; go_simp; try with_reducible rfl)
    try simp only [Act.put, gA, gB, gC, sA, sB, sC]
    refine wpL.last 15 rfl (by kernel_rfl) rfl (by kernel_rfl) rfl ?_
    obtain ⟨hc7, hf7⟩ := bcellB HB7.out
    go_wp2
    go_roundg (M - (i + 1))
    case measure => omega
    case rel =>
      refine ⟨i + 1, oo7, oc7, by go_num, by omega, Nat.le_refl _, Lib.hid ((HO.out.belowB HB7.out dlt).set 2 _), Lib.hid ?_, Lib.hid ((HT.out.low HB7.out (Nat.le_refl _)).setCell (p := ⟨d, 2, none⟩) (.inl (by simp)) _)⟩
      have h := HO7.out.kp (w' := w7.setCell ⟨d, 2, none⟩ (.slice oo7 (i + 1) oc7)) (by with_reducible (repeat first | exact kR _ _ _ | assumption | exact ho (by assumption) | refine kD ?_ | refine kA ?_ _ | refine kS ?_ ?_ _ | refine kC ?_ (ho (by assumption))) <;> (first | omega | (simp <;> omega)))
      rw [← HEF.out] at h
      rw [List.range_succ, List.map_append]
      exact h

set_option maxHeartbeats 6400000 in
set_option maxRecDepth 100000 in
theorem r16Sub_no (p : Par) (ca : Option Addr) (cc : Nat) (A B : Ci) (aa ab : Option Addr) (cA cB : Nat) (w : World) (hin : ParIn w p ca cc) (hA : CiIn w A aa cA) (hB : CiIn w B ab cB) (hno : ¬ CiMatch p A B) :
    Calls Tryz.prog 17 #[.agg (p.cells ca cc), A.val aa cA, B.val ab cB] w fun e w' => e = .returned (.tuple #[.agg #[.int .i64 0, .int .i64 0, .slice none 0 0], .int .i64 2]) ∧ Below w.heap.size w w' := by
  have H1 := Lib.hid (fun (w' : World) (hb : Below w.heap.size w w') => r16match_walk p ca cc A B aa ab cA cB w' (hin.below hb) (hA.below hb) (hB.below hb))
  rw [tr_neg hno] at H1
  unfold Ci.val Par.cells at *
  clear hin hA hB hno
  go_enter Tryz.func17, Tryz.ntmps17
  go_wp2_with fail
  (with_reducible refine Calls.mono (H1.out _ (by with_reducible (repeat first | exact bR _ _ | assumption | exact ho (by assumption) | refine bD ?_ | refine bN ?_ _ | refine bA ?_ ?_ _ | refine bS ?_ ?_ _) <;> (first | omega | (simp <;> omega)))) ?_)
  rintro e w2 ⟨rfl, hb⟩
  obtain ⟨hc_w2, hf_w2⟩ := bcell hb
  have HB_w2 : Hid (Below w.heap.size w w2) := Lib.hid (below_step (by with_reducible (repeat first | exact bR _ _ | assumption | exact ho (by assumption) | refine bD ?_ | refine bN ?_ _ | refine bA ?_ ?_ _ | refine bS ?_ ?_ _) <;> (first | omega | (simp <;> omega))) hb)
  have hs_w2 := hb.size
  try simp only [World.size_alloc, sz_set, sz_drew, sz_drewN] at hs_w2
  have q0_w2 : w.heap.size < w2.heap.size := by omega
  have q1_w2 : w.heap.size + 1 < w2.heap.size := by omega
  have q2_w2 : w.heap.size + 1 + 1 < w2.heap.size := by omega
  have q3_w2 : w.heap.size + 1 + 1 + 1 < w2.heap.size := by omega
  have HK_w2 := Lib.hid hb
  have HC_w2 := Lib.hid (callTo hb)
  clear hb
  go_wp2
  refine bodyPost_ret (v := .tuple #[.agg #[.int .i64 0, .int .i64 0, .slice none 0 0], .int .i64 2]) (by simp [results, Tryz.results17, go_sem, hc_w2, q3_w2]) rfl ⟨rfl, (by with_reducible (repeat first | exact bR _ _ | assumption | exact ho (by assumption) | refine bD ?_ | refine bN ?_ _ | refine bA ?_ ?_ _ | refine bS ?_ ?_ _) <;> (first | omega | (simp <;> omega)))⟩

set_option maxHeartbeats 25600000 in
set_option maxRecDepth 100000 in
theorem r16Sub_yes (p : Par) (ca : Option Addr) (cc : Nat) (A B : Ci) (aa ab : Option Addr) (cA cB : Nat) (w : World) (hin : ParIn w p ca cc) (hA : CiIn w A aa cA) (hB : CiIn w B ab cB) (hok : CiMatch p A B) :
    Calls Tryz.prog 17 #[.agg (p.cells ca cc), A.val aa cA, B.val ab cB] w fun e w' => (∃ v, e = .returned (.tuple #[v, .int .i64 0]) ∧ GiveCi w.heap.size ⟨A.level, A.exponent, (List.range (max A.parts.length B.parts.length)).map fun i => sumEl p (partZ p A i) (partZ p B i) (-1)⟩ v w') ∧ Below w.heap.size w w' := by
  have hg := hok.1.1.1
  have H1 := Lib.hid (fun (w' : World) (hb : Below w.heap.size w w') => r16match_walk p ca cc A B aa ab cA cB w' (hin.below hb) (hA.below hb) (hB.below hb))
  rw [tr_pos hok] at H1
  have hm3 : max A.parts.length B.parts.length ≤ 3 := by have := hok.1.2.1; have := hok.2.1.2.1; omega
  have H2 := Lib.hid (fun (i : Nat) (hi : i < 3) (w' : World) (hb : Below w.heap.size w w') => r16part_walk p ca cc A aa cA i w' (hin.below hb) hok.1 (hA.rd.below hb) hi)
  have H3 := Lib.hid (fun (i : Nat) (hi : i < 3) (w' : World) (hb : Below w.heap.size w w') => r16part_walk p ca cc B ab cB i w' (hin.below hb) hok.2.1 (hB.rd.below hb) hi)
  have H4 := Lib.hid (fun (i : Nat) (hi : i < 3) (a1 a2 : Option Addr) (k1 k2 : Nat) (w' : World) (hb : Below w.heap.size w w') (h1 : RdR w' a1 (partZ p A i).rows) (h2 : RdR w' a2 (partZ p B i).rows) => r13Sub_give p ca cc (partZ p A i) (partZ p B i) a1 a2 k1 k2 w' (hin.below hb) hg (partZ_match hok hi) h1 h2)
  have hM := max_cast A.parts.length B.parts.length
  obtain ⟨M, hM'⟩ : ∃ M, max A.parts.length B.parts.length = M := ⟨_, rfl⟩
  rw [hM'] at hM hm3 ⊢
  unfold Ci.val at *
  obtain ⟨la, hla⟩ : ∃ la, A.parts.length = la := ⟨_, rfl⟩
  obtain ⟨lb, hlb⟩ : ∃ lb, B.parts.length = lb := ⟨_, rfl⟩
  rw [hla] at H1 H2 hM ⊢
  rw [hlb] at H1 H3 hM ⊢
  obtain ⟨XA, hXA⟩ : ∃ XA, partZ p A = XA := ⟨_, rfl⟩
  obtain ⟨XB, hXB⟩ : ∃ XB, partZ p B = XB := ⟨_, rfl⟩
  rw [hXA] at H2 H4 ⊢
  rw [hXB] at H3 H4 ⊢
  obtain ⟨F, hF⟩ : ∃ F : Nat → El, (fun i => sumEl p (XA i) (XB i) (-1)) = F := ⟨_, rfl⟩
  have hFi : ∀ i, sumEl p (XA i) (XB i) (-1) = F i := fun i => by rw [← hF]
  rw [hF]
  simp only [hFi] at H4
  obtain ⟨L, hL⟩ : ∃ L, A.level = L := ⟨_, rfl⟩
  obtain ⟨X, hX⟩ : ∃ X, A.exponent = X := ⟨_, rfl⟩
  rw [hL, hX] at H1 H2 ⊢
  have HM := Lib.hid hM
  unfold ReadEl at H2 H3
  unfold GiveEl at H4
  unfold El.val Par.cells at *
  clear hin hA hB hok hg hM' hF hFi hla hlb hXA hXB hM hL hX
  go_enter Tryz.func17, Tryz.ntmps17
  go_wp2_with fail
  (with_reducible refine Calls.mono (H1.out _ (by with_reducible (repeat first | exact bR _ _ | assumption | exact ho (by assumption) | refine bD ?_ | refine bN ?_ _ | refine bA ?_ ?_ _ | refine bS ?_ ?_ _) <;> (first | omega | (simp <;> omega)))) ?_)
  rintro e w2 ⟨rfl, hb⟩
  obtain ⟨hc_w2, hf_w2⟩ := bcell hb
  have HB_w2 : Hid (Below w.heap.size w w2) := Lib.hid (below_step (by with_reducible (repeat first | exact bR _ _ | assumption | exact ho (by assumption) | refine bD ?_ | refine bN ?_ _ | refine bA ?_ ?_ _ | refine bS ?_ ?_ _) <;> (first | omega | (simp <;> omega))) hb)
  have hs_w2 := hb.size
  try simp only [World.size_alloc, sz_set, sz_drew, sz_drewN] at hs_w2
  have q0_w2 : w.heap.size < w2.heap.size := by omega
  have q1_w2 : w.heap.size + 1 < w2.heap.size := by omega
  have q2_w2 : w.heap.size + 1 + 1 < w2.heap.size := by omega
  have q3_w2 : w.heap.size + 1 + 1 + 1 < w2.heap.size := by omega
  have HK_w2 := Lib.hid hb
  have HC_w2 := Lib.hid (callTo hb)
  clear hb
  go_wp2
  refine gen_w _ _ (fun W0 hW0 => ?_)
  have HB0 : Hid (Below w.heap.size w W0) := Lib.hid (by rw [hW0]; exact (by with_reducible (repeat first | exact bR _ _ | assumption | exact ho (by assumption) | refine bD ?_ | refine bN ?_ _ | refine bA ?_ ?_ _ | refine bS ?_ ?_ _) <;> (first | omega | (simp <;> omega))))
  have HPb : Hid (Blk W0 w.heap.size 25 #[.int .i64 p.n, .int .u32 (p.prime : Int), .int .i64 p.power, .slice ca p.chain.length cc, .int .u32 (p.special : Int), .int .i64 p.weight, .int .u32 (p.err : Int)]) := Lib.hid (by rw [hW0]; exact (by repeat (first | exact Blk.newAt (by (first | omega | (simp only [World.size_alloc, sz_set, sz_drew, sz_drewN]; done) | (simp only [World.size_alloc, sz_set, sz_drew, sz_drewN]; omega))) | (with_reducible refine Blk.alloc ?_ _) | (with_reducible refine Blk.drew ?_) | (with_reducible refine Blk.drewN ?_ _) | (with_reducible refine Blk.belowB ?_ (Hid.out (by assumption)) ?szk; case szk => (first | omega | (simp only [World.size_alloc, sz_set, sz_drew, sz_drewN]; done) | (simp only [World.size_alloc, sz_set, sz_drew, sz_drewN]; omega))))))
  have HAb : Hid (Blk W0 (w.heap.size + 1) 28 #[.int .i64 L, .int .i64 X, .slice aa la cA]) := Lib.hid (by rw [hW0]; exact (by repeat (first | exact Blk.newAt (by (first | omega | (simp only [World.size_alloc, sz_set, sz_drew, sz_drewN]; done) | (simp only [World.size_alloc, sz_set, sz_drew, sz_drewN]; omega))) | (with_reducible refine Blk.alloc ?_ _) | (with_reducible refine Blk.drew ?_) | (with_reducible refine Blk.drewN ?_ _) | (with_reducible refine Blk.belowB ?_ (Hid.out (by assumption)) ?szk; case szk => (first | omega | (simp only [World.size_alloc, sz_set, sz_drew, sz_drewN]; done) | (simp only [World.size_alloc, sz_set, sz_drew, sz_drewN]; omega))))))
  have HBb : Hid (Blk W0 (w.heap.size + 1 + 1) 28 #[.int .i64 B.level, .int .i64 B.exponent, .slice ab lb cB]) := Lib.hid (by rw [hW0]; exact (by repeat (first | exact Blk.newAt (by (first | omega | (simp only [World.size_alloc, sz_set, sz_drew, sz_drewN]; done) | (simp only [World.size_alloc, sz_set, sz_drew, sz_drewN]; omega))) | (with_reducible refine Blk.alloc ?_ _) | (with_reducible refine Blk.drew ?_) | (with_reducible refine Blk.drewN ?_ _) | (with_reducible refine Blk.belowB ?_ (Hid.out (by assumption)) ?szk; case szk => (first | omega | (simp only [World.size_alloc, sz_set, sz_drew, sz_drewN]; done) | (simp only [World.size_alloc, sz_set, sz_drew, sz_drewN]; omega))))))
  have HRb : Hid (Blk W0 (w.heap.size + 1 + 1 + 1) 28 #[.int .i64 0, .int .i64 0, .slice none 0 0]) := Lib.hid (by rw [hW0]; exact (by repeat (first | exact Blk.newAt (by (first | omega | (simp only [World.size_alloc, sz_set, sz_drew, sz_drewN]; done) | (simp only [World.size_alloc, sz_set, sz_drew, sz_drewN]; omega))) | (with_reducible refine Blk.alloc ?_ _) | (with_reducible refine Blk.drew ?_) | (with_reducible refine Blk.drewN ?_ _) | (with_reducible refine Blk.belowB ?_ (Hid.out (by assumption)) ?szk; case szk => (first | omega | (simp only [World.size_alloc, sz_set, sz_drew, sz_drewN]; done) | (simp only [World.size_alloc, sz_set, sz_drew, sz_drewN]; omega))))))
  have HOb : Hid (Blk W0 w2.heap.size 28 #[.int .i64 L, .int .i64 X, .slice none 0 0]) := Lib.hid (by rw [hW0]; exact (by repeat (first | exact Blk.newAt (by (first | omega | (simp only [World.size_alloc, sz_set, sz_drew, sz_drewN]; done) | (simp only [World.size_alloc, sz_set, sz_drew, sz_drewN]; omega))) | (with_reducible refine Blk.alloc ?_ _) | (with_reducible refine Blk.drew ?_) | (with_reducible refine Blk.drewN ?_ _) | (with_reducible refine Blk.belowB ?_ (Hid.out (by assumption)) ?szk; case szk => (first | omega | (simp only [World.size_alloc, sz_set, sz_drew, sz_drewN]; done) | (simp only [World.size_alloc, sz_set, sz_drew, sz_drewN]; omega))))))
  obtain ⟨d, hd⟩ : ∃ d, w2.heap.size = d := ⟨_, rfl⟩
  rw [hd] at HOb ⊢
  have dlt : d < W0.heap.size := HOb.out.lt
  have z3 : w.heap.size + 1 + 1 + 1 < d := by omega
  have z2 : w.heap.size + 1 + 1 < d := by omega
  have z1 : w.heap.size + 1 < d := by omega
  have z0 : w.heap.size < d := by omega
  have y3 : w.heap.size + 1 + 1 + 1 < W0.heap.size := by omega
  have y2 : w.heap.size + 1 + 1 < W0.heap.size := by omega
  have y1 : w.heap.size + 1 < W0.heap.size := by omega
  have y0 : w.heap.size < W0.heap.size := by omega
  clear hW0 HB_w2 HK_w2 HC_w2 hc_w2 hf_w2 hs_w2 q0_w2 q1_w2 q2_w2 q3_w2 H1 hd
  go_loopg [9] M (fun fu v9 wr => ∃ (i : Nat) (oo : Option Addr) (oc : Nat), v9 = .int .i64 i ∧ i ≤ M ∧ M - i ≤ fu ∧ Hid (Blk wr d 28 #[.int .i64 L, .int .i64 X, .slice oo i oc]) ∧ Hid (OwE wr W0.heap.size (.slice oo i oc) ((List.range i).map F)) ∧ Hid (Turn W0 wr [d]))
  case atStart => exact ⟨0, none, 0, rfl, by omega, by omega, HOb, Lib.hid (OwE.nil _ _), Lib.hid (Turn.refl _ _)⟩
  case round =>
    obtain ⟨i, oo, oc, rfl, hi, hfu, HO, HE, HT⟩ := hrel
    have hsr := HT.out.size
    have HBr : Hid (Below w.heap.size w wr) := Lib.hid (HB0.out.trans (HT.out.belowN HB0.out.size (fun y hy => by simp at hy; omega)))
    obtain ⟨c0, c1, c2, c3, c4, c5, c6⟩ := par_cells (HPb.out.turn HT.out (by simp <;> omega))
    obtain ⟨a0, a1, a2⟩ := el_cells (HAb.out.turn HT.out (by simp <;> omega))
    obtain ⟨b0, b1, b2⟩ := el_cells (HBb.out.turn HT.out (by simp <;> omega))
    obtain ⟨e0, e1, e2⟩ := el_cells HO.out
    have g2 := HO.out.free 2
    have hMx := HM.out
    by_cases hlt : i < M
    case neg =>
      obtain rfl : i = M := by omega
      have hbR := HRb.out.turn HT.out (by simp <;> omega)
      obtain ⟨k0, k1, k2⟩ := el_cells hbR
      have f0 := hbR.free 0
      have f1 := hbR.free 1
      have f2 := hbR.free 2
      clear hbR
      go_wp2
      refine bodyPost_ret (v := .tuple #[.agg #[.int .i64 L, .int .i64 X, .slice oo i oc], .int .i64 0]) (by simp [results, Tryz.results17, go_sem, k0, k1, k2]) rfl ⟨⟨_, rfl, ?_⟩, (by with_reducible (repeat first | exact bR _ _ | assumption | exact ho (by assumption) | refine bD ?_ | refine bN ?_ _ | refine bA ?_ ?_ _ | refine bS ?_ ?_ _) <;> (first | omega | (simp <;> omega)))⟩
      obtain ⟨ao', c', e', r1, r2, r3⟩ := (HE.out.kp (w' := ((wr.setCell ⟨w.heap.size + 1 + 1 + 1, 0, none⟩ (.int .i64 L)).setCell ⟨w.heap.size + 1 + 1 + 1, 1, none⟩ (.int .i64 X)).setCell ⟨w.heap.size + 1 + 1 + 1, 2, none⟩ (.slice oo i oc)) (by with_reducible (repeat first | exact kR _ _ _ | assumption | exact ho (by assumption) | refine kD ?_ | refine kA ?_ _ | refine kS ?_ ?_ _ | refine kC ?_ (ho (by assumption))) <;> (first | omega | (simp <;> omega)))).give
      simp only [List.length_map, List.length_range] at e' r2
      cases e'
      exact ⟨oo, oc, by unfold Ci.val; simp only [List.length_map, List.length_range], r1.mono (by omega), by simpa using r2, r3⟩
    have hi3 : i < 3 := by omega
    have HPA := Lib.hid (H2.out i hi3)
    have HPB := Lib.hid (H3.out i hi3)
    have HSM := Lib.hid (H4.out i hi3)
    obtain ⟨EA, hEA⟩ : ∃ EA, XA i = EA := ⟨_, rfl⟩
    obtain ⟨EB, hEB⟩ : ∃ EB, XB i = EB := ⟨_, rfl⟩
    obtain ⟨EF, hEF⟩ : ∃ EF, F i = EF := ⟨_, rfl⟩
    rw [hEA] at HPA HSM
    rw [hEB] at HPB HSM
    rw [hEF] at HSM
    have HEF := Lib.hid hEF
    have i1 : (i : Int) < (M : Int) := by omega
    clear hEA hEB hEF
    go_wp2
    have hS : (fun w' : World => Below (W0.heap.size) wr w') wr.drew := (Below.refl _ _).drew
    refine wp_region_L (fun w' : World => Below (W0.heap.size) wr w') 15 (by kernel_rfl) (by kernel_rfl) (by kernel_rfl) ?_
    refine tK 0 (v := ?_) (by assumption) ?_ ?_
    rotate_left
    · (intro _ _; go_simp; try with_reducible rfl)
    try simp only [Act.put, gA, gB, gC, sA, sB, sC]
    refine tK 1 (v := ?_) (by assumption) ?_ ?_
    rotate_left
    · (intro _ _; go_simp; try with_reducible rfl)
    try simp only [Act.put, gA, gB, gC, sA, sB, sC]
    refine tK 2 (v := ?_) (by assumption) ?_ ?_
    rotate_left
    · (intro _ _; go_simp; try with_reducible rfl)
    try simp only [Act.put, gA, gB, gC, sA, sB, sC]
    refine tK 3 (v := ?_) (by assumption) ?_ ?_
    rotate_left
    · (intro _ _; go_simp; try with_reducible rfl)
    try simp only [Act.put, gA, gB, gC, sA, sB, sC]
    refine tK 4 (v := ?_) (by assumption) ?_ ?_
    rotate_left
    · (intro _ _; go_simp; try with_reducible rfl)
    try simp only [Act.put, gA, gB, gC, sA, sB, sC]
    refine tK 5 (v := ?_) (by assumption) ?_ ?_
    rotate_left
    · (intro _ _; go_simp; try with_reducible rfl)
    try simp only [Act.put, gA, gB, gC, sA, sB, sC]
    refine tK 7 (v := ?_) (by assumption) ?_ ?_
    rotate_left
    · (intro _ _; go_simp; try with_reducible rfl)
    try simp only [Act.put, gA, gB, gC, sA, sB, sC]
    refine tK 8 (v := ?_) (by assumption) ?_ ?_
    rotate_left
    · (intro _ _; go_simp; try with_reducible rfl)
    try simp only [Act.put, gA, gB, gC, sA, sB, sC]
    refine tK 9 (v := ?_) (by assumption) ?_ ?_
    rotate_left
    · (intro _ _; go_simp; try with_reducible rfl)
    try simp only [Act.put, gA, gB, gC, sA, sB, sC]
    refine wpL.eff 6 rfl (by kernel_rfl) rfl ?_
    intro K hK
    go_wp2_with fail
    (with_reducible refine Calls.mono (HPA.out _ (by with_reducible (repeat first | exact bR _ _ | assumption | exact ho (by assumption) | refine bD ?_ | refine bN ?_ _ | refine bA ?_ ?_ _ | refine bS ?_ ?_ _) <;> (first | omega | (simp <;> omega)))) ?_)
    rintro e w4 ⟨⟨a4, c4', rfl, hr⟩, hb⟩
    have HR4 := Lib.hid hr
    obtain ⟨hc_w4, hf_w4⟩ := bcell hb
    have HB_w4 : Hid (Below (W0.heap.size) wr w4) := Lib.hid (below_step' (by with_reducible (repeat first | exact bR _ _ | assumption | exact ho (by assumption) | refine bD ?_ | refine bN ?_ _ | refine bA ?_ ?_ _ | refine bS ?_ ?_ _) <;> (first | omega | (simp <;> omega))) hb (by (first | omega | (simp only [World.size_alloc, sz_set, sz_drew, sz_drewN]; done) | (simp only [World.size_alloc, sz_set, sz_drew, sz_drewN]; omega))))
    have hs_w4 := hb.size
    try simp only [World.size_alloc, sz_set, sz_drew, sz_drewN] at hs_w4
    have HK_w4 := Lib.hid hb
    have HC_w4 := Lib.hid (callTo hb)
    clear hb
    have HW4 : Hid (Below w.heap.size w w4) := Lib.hid (by with_reducible (repeat first | exact bR _ _ | assumption | exact ho (by assumption) | refine bD ?_ | refine bA ?_ ?_ _ | refine bS ?_ ?_ _ | refine bC ?_ (ho (by assumption)) ?_) <;> (first | omega | (simp <;> omega)))
    clear hr
    refine hK _ _ (by with_reducible (repeat first | exact bR _ _ | assumption | exact ho (by assumption) | refine bD ?_ | refine bA ?_ ?_ _ | refine bS ?_ ?_ _ | refine bC ?_ (ho (by assumption)) ?_) <;> (first | omega | (simp <;> omega))) (fun hS => ?_)
    clear hK
    try simp only [Act.put, gA, gB, gC, sA, sB, sC]
    refine wpL.eff 10 rfl (by kernel_rfl) rfl ?_
    intro K hK
    go_wp2_with fail
    (with_reducible refine Calls.mono (HPB.out _ (by with_reducible (repeat first | exact bR _ _ | assumption | exact ho (by assumption) | refine bD ?_ | refine bN ?_ _ | refine bA ?_ ?_ _ | refine bS ?_ ?_ _) <;> (first | omega | (simp <;> omega)))) ?_)
    rintro e w5 ⟨⟨a5, c5', rfl, hr⟩, hb⟩
    have HR5 := Lib.hid hr
    obtain ⟨hc_w5, hf_w5⟩ := bcell hb
    have HB_w5 : Hid (Below (W0.heap.size) wr w5) := Lib.hid (below_step' (by with_reducible (repeat first | exact bR _ _ | assumption | exact ho (by assumption) | refine bD ?_ | refine bN ?_ _ | refine bA ?_ ?_ _ | refine bS ?_ ?_ _) <;> (first | omega | (simp <;> omega))) hb (by (first | omega | (simp only [World.size_alloc, sz_set, sz_drew, sz_drewN]; done) | (simp only [World.size_alloc, sz_set, sz_drew, sz_drewN]; omega))))
    have hs_w5 := hb.size
    try simp only [World.size_alloc, sz_set, sz_drew, sz_drewN] at hs_w5
    have HK_w5 := Lib.hid hb
    have HC_w5 := Lib.hid (callTo hb)
    clear hb
    have HW5 : Hid (Below w.heap.size w w5) := Lib.hid (by with_reducible (repeat first | exact bR _ _ | assumption | exact ho (by assumption) | refine bD ?_ | refine bA ?_ ?_ _ | refine bS ?_ ?_ _ | refine bC ?_ (ho (by assumption)) ?_) <;> (first | omega | (simp <;> omega)))
    clear hr
    refine hK _ _ (by with_reducible (repeat first | exact bR _ _ | assumption | exact ho (by assumption) | refine bD ?_ | refine bA ?_ ?_ _ | refine bS ?_ ?_ _ | refine bC ?_ (ho (by assumption)) ?_) <;> (first | omega | (simp <;> omega))) (fun hS => ?_)
    clear hK
    try simp only [Act.put, gA, gB, gC, sA, sB, sC]
    refine wpL.eff 11 rfl (by kernel_rfl) rfl ?_
    intro K hK
    go_wp2_with fail
    (with_reducible refine Calls.mono (HSM.out _ _ _ _ _ (by with_reducible (repeat first | exact bR _ _ | assumption | exact ho (by assumption) | refine bD ?_ | refine bN ?_ _ | refine bA ?_ ?_ _ | refine bS ?_ ?_ _) <;> (first | omega | (simp <;> omega))) (HR4.out.below HK_w5.out) HR5.out) ?_)
    rintro e w6 ⟨⟨v6, rfl, a6, c6', rfl, hr, hl1, hl2⟩, hb⟩
    have HR6 := Lib.hid (And.intro hr (And.intro hl1 hl2))
    obtain ⟨hc_w6, hf_w6⟩ := bcell hb
    have HB_w6 : Hid (Below (W0.heap.size) wr w6) := Lib.hid (below_step' (by with_reducible (repeat first | exact bR _ _ | assumption | exact ho (by assumption) | refine bD ?_ | refine bN ?_ _ | refine bA ?_ ?_ _ | refine bS ?_ ?_ _) <;> (first | omega | (simp <;> omega))) hb (by (first | omega | (simp only [World.size_alloc, sz_set, sz_drew, sz_drewN]; done) | (simp only [World.size_alloc, sz_set, sz_drew, sz_drewN]; omega))))
    have hs_w6 := hb.size
    try simp only [World.size_alloc, sz_set, sz_drew, sz_drewN] at hs_w6
    have HK_w6 := Lib.hid hb
    have HC_w6 := Lib.hid (callTo hb)
    clear hb
    have HE6 : Hid (OwE w6 W0.heap.size (.slice oo i oc) ((List.range i).map F)) := Lib.hid (HE.out.kp (by with_reducible (repeat first | exact kR _ _ _ | assumption | exact ho (by assumption) | refine kD ?_ | refine kA ?_ _ | refine kS ?_ ?_ _ | refine kC ?_ (ho (by assumption))) <;> (first | omega | (simp <;> omega))))
    have HPU := Lib.hid (OwE.push HE6.out (by simp) (by omega) (by omega) EF a6 c6' (HR6.out.1.mono (by omega)) HR6.out.2.1 HR6.out.2.2)
    clear hr hl1 hl2
    refine hK _ _ (by with_reducible (repeat first | exact bR _ _ | assumption | exact ho (by assumption) | refine bD ?_ | refine bA ?_ ?_ _ | refine bS ?_ ?_ _ | refine bC ?_ (ho (by assumption)) ?_) <;> (first | omega | (simp <;> omega))) (fun hS => ?_)
    clear hK
    try simp only [Act.put, gA, gB, gC, sA, sB, sC]
    refine wpL.eff 12 rfl (by kernel_rfl) rfl ?_
    intro K hK
    go_wp2
    refine hK _ _ (by with_reducible (repeat first | exact bR _ _ | assumption | exact ho (by assumption) | refine bD ?_ | refine bA ?_ ?_ _ | refine bS ?_ ?_ _ | refine bC ?_ (ho (by assumption)) ?_) <;> (first | omega | (simp <;> omega))) (fun hS => ?_)
    clear hK
    try simp only [Act.put, gA, gB, gC, sA, sB, sC]
    refine wpL.eff 13 rfl (by kernel_rfl) rfl ?_
    intro K hK
    obtain ⟨oo7, oc7, w7, hrun, hO7, hB7⟩ := HPU.out
    refine wp_append_run (.tmp 33) (.tmp 44) 26 rfl _ _ rfl rfl _ _ hrun ?_
    have HO7 := Lib.hid hO7
    have HB7 : Hid (Below W0.heap.size wr w7) := Lib.hid (HB_w6.out.trans hB7)
    clear hrun hO7 hB7
    refine hK _ _ (by with_reducible (repeat first | exact bR _ _ | assumption | exact ho (by assumption) | refine bD ?_ | refine bA ?_ ?_ _ | refine bS ?_ ?_ _ | refine bC ?_ (ho (by assumption)) ?_) <;> (first | omega | (simp <;> omega))) (fun hS => ?_)
    clear hK
    try simp only [Act.put, gA, gB, gC, sA, sB, sC]
    refine tK 14 (v := ?_) (by assumption) ?_ ?_
    rotate_left
    · (intro _ _; go_simp; try with_reducible rfl)
    try simp only [Act.put, gA, gB, gC, sA, sB, sC]
    refine wpL.last 15 rfl (by kernel_rfl) rfl (by kernel_rfl) rfl ?_
    obtain ⟨hc7, hf7⟩ := bcellB HB7.out
    go_wp2
    go_roundg (M - (i + 1))
    case measure => omega
    case rel =>
      refine ⟨i + 1, oo7, oc7, by go_num, by omega, Nat.le_refl _, Lib.hid ((HO.out.belowB HB7.out dlt).set 2 _), Lib.hid ?_, Lib.hid ((HT.out.low HB7.out (Nat.le_refl _)).setCell (p := ⟨d, 2, none⟩) (.inl (by simp)) _)⟩
      have h := HO7.out.kp (w' := w7.setCell ⟨d, 2, none⟩ (.slice oo7 (i + 1) oc7)) (by with_reducible (repeat first | exact kR _ _ _ | assumption | exact ho (by assumption) | refine kD ?_ | refine kA ?_ _ | refine kS ?_ ?_ _ | refine kC ?_ (ho (by assumption))) <;> (first | omega | (simp <;> omega)))
      rw [← HEF.out] at h
      rw [List.range_succ, List.map_append]
      exact h
end Go.Proofs.YtcipjbckcnkfaaaGreat
