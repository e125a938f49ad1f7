/- The reference's Tensor. (Printed by genr16t.py.) -/
import Derived.Test.YtcipjbckcnkfaaaGreatPa44
set_option linter.unusedSimpArgs false
set_option linter.unusedVariables false
namespace Go.Proofs.YtcipjbckcnkfaaaGreat
open Go.RowKit Go.Shelf
attribute [local go_sem ↓] Go.wp_at_zero Go.wp_at_succ

/-- Three elements are appended to none. -/
theorem app_three (w : World) (g : Nat) (l : List Value) (hl : l.length = 9) (h1 : ∀ u ∈ l, u.oneCell' = true) (hB : Blk w g 54 l.toArray) :
    ∃ h cap cs rest w', (Builtin.append_ #[26, 26] 26 #[.slice none 0 0, .slice (some ⟨g, 0, none⟩) 3 3]).run Tryz.prog w = .ok (.slice (some ⟨h, 0, none⟩) 3 cap) w' ∧ Blk w' h 54 cs ∧ cs.toList = l ++ rest ∧ w.heap.size ≤ h ∧ 3 ≤ cap ∧ cap ≤ 9223372036854775807 ∧ Below w.heap.size w w' := by
  obtain ⟨i0, hi, hz0, hz1, hz2⟩ := info_parts info_elem
  have hnews : ∀ j u, l[j]? = some u → w.cell? ((⟨g, 0, none⟩ : Addr).add j) = some u := by
    intro j u hj
    have e : ((⟨g, 0, none⟩ : Addr).add j) = ⟨g, j, none⟩ := by simp [Addr.add]; omega
    rw [e, hB.cell j]
    simpa using hj
  obtain ⟨v', w', hrun, ho, hgr, hz, hat⟩ := run_append_own_at (P := Tryz.prog) w w.heap.size 26 26 54 i0 (.agg #[.int .i64 0, .bool false, .slice none 0 0]) 3 40 Tryz.underlying26 hi hz0 hz1 hz2 rfl (by decide) (.slice none 0 0) 0 [] (World.ownsRow_nil w _ _ _) ⟨g, 0, none⟩ 3 3 l hl hnews h1
    (by unfold maxLen; omega) (by omega) (Nat.le_refl _)
  have hT : Turn w w' (match (Value.slice none 0 0).ownBlock with | some g => [g] | none => []) := Turn.of_grown hgr (fun k hk => .inl (by rw [hk]; simp))
  rcases ho.2 with ⟨rfl, h0⟩ | ⟨h, cap, cur, rfl, k1, k2, k3, k4, k5, k6⟩
  · omega
  · refine ⟨h, cap, cur, cur.toList.drop 9, w', hrun, k2, ?_, k1, by omega, by unfold maxLen at k4; omega, hT.belowN (Nat.le_refl _) (fun x hx => by simp [Value.ownBlock] at hx)⟩
    have e := List.take_append_drop 9 cur.toList
    rw [k6] at e
    simpa using e.symm

set_option maxHeartbeats 6400000 in
set_option maxRecDepth 100000 in
theorem r16Tensor_no (p : Par) (ca : Option Addr) (cc : Nat) (A B : Ci) (aa ab : Option Addr) (cA cB : Nat) (w : World) (hin : ParIn w p ca cc) (hA : CiIn w A aa cA) (hB : CiIn w B ab cB) (hno : ¬ TensOk p A B) :
    Calls Tryz.prog 11 #[.agg (p.cells ca cc), A.val aa cA, B.val ab cB] w fun e w' => (∃ v, e = .returned (.tuple #[v, .int .i64 2]) ∧ GiveCi w.heap.size noCi v w') ∧ Below w.heap.size w w' := by
  have H1 := Lib.hid (fun (w' : World) (hb : Below w.heap.size w w') => r16match_walk p ca cc A B aa ab cA cB w' (hin.below hb) (hA.below hb) (hB.below hb))
  have HG := Lib.hid (fun (b : Nat) (w' : World) => noCi_give b w')
  have hma := hA.len
  have hmb := hB.len
  obtain ⟨ma, hma'⟩ : ∃ ma, A.parts.length = ma := ⟨_, rfl⟩
  obtain ⟨mb, hmb'⟩ : ∃ mb, B.parts.length = mb := ⟨_, rfl⟩
  have HNO : Hid (¬ (CiMatch p A B ∧ ma = 2 ∧ mb = 2)) := Lib.hid (by rw [← hma', ← hmb']; exact hno)
  unfold Ci.val Par.cells at *
  rw [hma', hmb'] at H1 ⊢
  rw [hma'] at hma
  rw [hmb'] at hmb
  clear hin hA hB hno hma' hmb'
  by_cases hM : CiMatch p A B
  case' neg =>
    rw [tr_neg hM] at H1
    clear hM
  case' pos =>
    rw [tr_pos hM] at H1
    by_cases h1 : ma = 2
    case' neg =>
      have g1 : ((ma : Int) != 2) = true := by simp; omega
      clear hM h1
    case' pos =>
      have h2 : mb ≠ 2 := fun h => HNO.out ⟨hM, h1, h⟩
      have g1 : ((ma : Int) != 2) = false := by simp; omega
      have g2 : ((mb : Int) != 2) = true := by simp; omega
      clear hM h1 h2
  all_goals (
    go_enter Tryz.func11, Tryz.ntmps11
    go_wp2_with fail
    (with_reducible refine Calls.mono (H1.out _ (by with_reducible (repeat first | exact bR _ _ | assumption | exact ho (by assumption) | refine bD ?_ | refine bN ?_ _ | refine bA ?_ ?_ _ | refine bS ?_ ?_ _) <;> (first | omega | (simp <;> omega)))) ?_)
    rintro e w2 ⟨rfl, hb⟩
    obtain ⟨hc_w2, hf_w2⟩ := bcell hb
    have HB_w2 : Hid (Below w.heap.size w w2) := Lib.hid (below_step (by with_reducible (repeat first | exact bR _ _ | assumption | exact ho (by assumption) | refine bD ?_ | refine bN ?_ _ | refine bA ?_ ?_ _ | refine bS ?_ ?_ _) <;> (first | omega | (simp <;> omega))) hb)
    have hs_w2 := hb.size
    try simp only [World.size_alloc, sz_set, sz_drew, sz_drewN] at hs_w2
    have q0_w2 : w.heap.size < w2.heap.size := by omega
    have q1_w2 : w.heap.size + 1 < w2.heap.size := by omega
    have q2_w2 : w.heap.size + 1 + 1 < w2.heap.size := by omega
    have q3_w2 : w.heap.size + 1 + 1 + 1 < w2.heap.size := by omega
    have HK_w2 := Lib.hid hb
    clear hb
    go_wp2
    refine bodyPost_ret (v := .tuple #[.agg #[.int .i64 0, .int .i64 0, .slice none 0 0], .int .i64 2]) (by simp [results, Tryz.results11, go_sem, hc_w2, q3_w2]) rfl ⟨⟨_, rfl, HG.out _ _⟩, (by with_reducible (repeat first | exact bR _ _ | assumption | exact ho (by assumption) | refine bD ?_ | refine bN ?_ _ | refine bA ?_ ?_ _ | refine bS ?_ ?_ _) <;> (first | omega | (simp <;> omega)))⟩)

set_option maxHeartbeats 25600000 in
set_option maxRecDepth 100000 in
theorem r16Tensor_yes (p : Par) (ca : Option Addr) (cc : Nat) (A B : Ci) (aa ab : Option Addr) (cA cB : Nat) (w : World) (hin : ParIn w p ca cc) (hA : CiIn w A aa cA) (hB : CiIn w B ab cB) (hok : TensOk p A B) :
    Calls Tryz.prog 11 #[.agg (p.cells ca cc), A.val aa cA, B.val ab cB] w fun e w' => (∃ v, e = .returned (.tuple #[v, .int .i64 0]) ∧ GiveCi w.heap.size ⟨A.level, A.exponent, [tensF p A B 0, tensF p A B 1, tensF p A B 2]⟩ v w') ∧ Below w.heap.size w w' := by
  obtain ⟨hM, ha2, hb2⟩ := hok
  have hg := hM.1.1.1
  have HM := Lib.hid (fun (w' : World) (hb : Below w.heap.size w w') => r16match_walk p ca cc A B aa ab cA cB w' (hin.below hb) (hA.below hb) (hB.below hb))
  rw [tr_pos hM] at HM
  obtain ⟨b1, o1, rfl, hA'⟩ := hA.rd 0 (by omega)
  obtain ⟨r1, c1, x0, x1, x2, x3, _⟩ := hA' 0 (by omega)
  obtain ⟨r3, c3, u0, u1, u2, u3, _⟩ := hA' 1 (by omega)
  obtain ⟨b2, o2, rfl, hB'⟩ := hB.rd 0 (by omega)
  obtain ⟨r2, c2, y0, y1, y2, y3, _⟩ := hB' 0 (by omega)
  obtain ⟨r4, c4, z0, z1, z2, z3, _⟩ := hB' 1 (by omega)
  rw [show A.parts.getD 0 ⟨0, false, []⟩ = A.part 0 from rfl] at x0 x1 x2 x3
  rw [show A.parts.getD 1 ⟨0, false, []⟩ = A.part 1 from rfl] at u0 u1 u2 u3
  rw [show B.parts.getD 0 ⟨0, false, []⟩ = B.part 0 from rfl] at y0 y1 y2 y3
  rw [show B.parts.getD 1 ⟨0, false, []⟩ = B.part 1 from rfl] at z0 z1 z2 z3
  simp only [Nat.zero_mul, Nat.one_mul, Nat.add_zero] at x0 x1 x2 u0 u1 u2 y0 y1 y2 z0 z1 z2
  have hM1 := hM.part (i := 0) (j := 1) (by omega) (by omega)
  have hM2 := hM.part (i := 1) (j := 0) (by omega) (by omega)
  have hM4 := hM.part (i := 0) (j := 0) (by omega) (by omega)
  have hM5 := hM.part (i := 1) (j := 1) (by omega) (by omega)
  have H1 := Lib.hid (fun (w' : World) (hb : Below w.heap.size w w') => r13Mul_walk p ca cc (A.part 0) (B.part 1) r1 r4 c1 c4 w' (hin.below hb) hg hM1 (x3.below hb) (z3.below hb))
  have H2 := Lib.hid (fun (w' : World) (hb : Below w.heap.size w w') => r13Mul_walk p ca cc (A.part 1) (B.part 0) r3 r2 c3 c2 w' (hin.below hb) hg hM2 (u3.below hb) (y3.below hb))
  have H4 := Lib.hid (fun (w' : World) (hb : Below w.heap.size w w') => r13Mul_walk p ca cc (A.part 0) (B.part 0) r1 r2 c1 c2 w' (hin.below hb) hg hM4 (x3.below hb) (y3.below hb))
  have H5 := Lib.hid (fun (w' : World) (hb : Below w.heap.size w w') => r13Mul_walk p ca cc (A.part 1) (B.part 1) r3 r4 c3 c4 w' (hin.below hb) hg hM5 (u3.below hb) (z3.below hb))
  have hM3 : Match p (mulEl p (A.part 0) (B.part 1)) (mulEl p (A.part 1) (B.part 0)) := by
    have e1 : (A.part 1).level = (A.part 0).level := by rw [(hM.1.2.2 1 (by omega)).2.1, (hM.1.2.2 0 (by omega)).2.1]
    have e2 : (A.part 1).special = (A.part 0).special := by rw [(hM.1.2.2 1 (by omega)).2.2, (hM.1.2.2 0 (by omega)).2.2]
    exact ⟨mulEl_ok hg hM1, mulEl_ok hg hM2, e1, e2⟩
  have H3 := Lib.hid (fun (w' : World) (hb : Below w.heap.size w w') (a1 a2 : Option Addr) (k1 k2 : Nat) (h1 : RdR w' a1 (mulEl p (A.part 0) (B.part 1)).rows) (h2 : RdR w' a2 (mulEl p (A.part 1) (B.part 0)).rows) => r13Add_give p ca cc _ _ a1 a2 k1 k2 w' (hin.below hb) hg hM3 h1 h2)
  have HSK0 : Hid (∀ w', Below w.heap.size w w' → w'.cell? ⟨b1, o1, none⟩ = some (.int .i64 (A.part 0).level) ∧ w'.cell? ⟨b1, o1 + 1, none⟩ = some (.bool (A.part 0).special) ∧ w'.cell? ⟨b1, o1 + 2, none⟩ = some (.slice r1 (A.part 0).rows.length c1) ∧ w'.cell? ⟨b1, o1 + 3, none⟩ = some (.int .i64 (A.part 1).level) ∧ w'.cell? ⟨b1, o1 + 3 + 1, none⟩ = some (.bool (A.part 1).special) ∧ w'.cell? ⟨b1, o1 + 3 + 2, none⟩ = some (.slice r3 (A.part 1).rows.length c3) ∧ w'.cell? ⟨b2, o2, none⟩ = some (.int .i64 (B.part 0).level) ∧ w'.cell? ⟨b2, o2 + 1, none⟩ = some (.bool (B.part 0).special) ∧ w'.cell? ⟨b2, o2 + 2, none⟩ = some (.slice r2 (B.part 0).rows.length c2) ∧ w'.cell? ⟨b2, o2 + 3, none⟩ = some (.int .i64 (B.part 1).level) ∧ w'.cell? ⟨b2, o2 + 3 + 1, none⟩ = some (.bool (B.part 1).special) ∧ w'.cell? ⟨b2, o2 + 3 + 2, none⟩ = some (.slice r4 (B.part 1).rows.length c4)) := Lib.hid (fun w' hb => by
    have t : ∀ {a : Addr} {v : Value}, w.cell? a = some v → w'.cell? a = some v := fun {a v} h => (hb.cell (World.block_lt_of_cell? w _ h)).trans h
    exact ⟨t x0, t x1, t x2, t u0, t u1, t u2, t y0, t y1, t y2, t z0, t z1, t z2⟩)
  have t0 : tensF p A B 0 = mulEl p (A.part 0) (B.part 0) := rfl
  have t1 : tensF p A B 1 = sumEl p (mulEl p (A.part 0) (B.part 1)) (mulEl p (A.part 1) (B.part 0)) 1 := rfl
  have t2 : tensF p A B 2 = mulEl p (A.part 1) (B.part 1) := rfl
  rw [t0, t1, t2]
  obtain ⟨EA, hEA⟩ : ∃ E, mulEl p (A.part 0) (B.part 1) = E := ⟨_, rfl⟩
  obtain ⟨EB, hEB⟩ : ∃ E, mulEl p (A.part 1) (B.part 0) = E := ⟨_, rfl⟩
  obtain ⟨E0, hE0⟩ : ∃ E, mulEl p (A.part 0) (B.part 0) = E := ⟨_, rfl⟩
  obtain ⟨E2, hE2⟩ : ∃ E, mulEl p (A.part 1) (B.part 1) = E := ⟨_, rfl⟩
  rw [hEA, hEB] at H3
  rw [hEA, hEB, hE0, hE2]
  rw [hEA] at H1
  rw [hEB] at H2
  rw [hE0] at H4
  rw [hE2] at H5
  obtain ⟨E1, hE1⟩ : ∃ E, sumEl p EA EB 1 = E := ⟨_, rfl⟩
  rw [hE1] at H3 ⊢
  unfold GiveEl El.val Ci.val Par.cells at *
  rw [ha2, hb2] at HM ⊢
  clear hin hA hB hg hM ha2 hb2 hA' hB' x0 x1 x2 x3 y0 y1 y2 y3 u0 u1 u2 u3 z0 z1 z2 z3 hM1 hM2 hM3 hM4 hM5 hEA hEB hE0 hE1 hE2 t0 t1 t2
  go_enter Tryz.func11, Tryz.ntmps11
  go_wp2_with fail
  (with_reducible refine Calls.mono (HM.out _ (by with_reducible (repeat first | exact bR _ _ | assumption | exact ho (by assumption) | refine bD ?_ | refine bN ?_ _ | refine bA ?_ ?_ _ | refine bS ?_ ?_ _) <;> (first | omega | (simp <;> omega)))) ?_)
  rintro e w2 ⟨rfl, hb⟩
  have hP0 : Blk w2 w.heap.size 25 #[.int .i64 p.n, .int .u32 (p.prime : Int), .int .i64 p.power, .slice ca p.chain.length cc, .int .u32 (p.special : Int), .int .i64 p.weight, .int .u32 (p.err : Int)] := Blk.below (by repeat (first | exact Blk.newAt (by (first | omega | (simp only [World.size_alloc, sz_set, sz_drew, sz_drewN]; done) | (simp only [World.size_alloc, sz_set, sz_drew, sz_drewN]; omega))) | (with_reducible refine Blk.alloc ?_ _) | (with_reducible refine Blk.drew ?_) | (with_reducible refine Blk.drewN ?_ _) | (with_reducible refine Blk.belowB ?_ (Hid.out (by assumption)) ?szk; case szk => (first | omega | (simp only [World.size_alloc, sz_set, sz_drew, sz_drewN]; done) | (simp only [World.size_alloc, sz_set, sz_drew, sz_drewN]; omega))))) hb
  have hC1 : Blk w2 (w.heap.size + 1) 28 #[.int .i64 A.level, .int .i64 A.exponent, .slice (some ⟨b1, o1, none⟩) 2 cA] := Blk.below (by repeat (first | exact Blk.newAt (by (first | omega | (simp only [World.size_alloc, sz_set, sz_drew, sz_drewN]; done) | (simp only [World.size_alloc, sz_set, sz_drew, sz_drewN]; omega))) | (with_reducible refine Blk.alloc ?_ _) | (with_reducible refine Blk.drew ?_) | (with_reducible refine Blk.drewN ?_ _) | (with_reducible refine Blk.belowB ?_ (Hid.out (by assumption)) ?szk; case szk => (first | omega | (simp only [World.size_alloc, sz_set, sz_drew, sz_drewN]; done) | (simp only [World.size_alloc, sz_set, sz_drew, sz_drewN]; omega))))) hb
  have hC2 : Blk w2 (w.heap.size + 1 + 1) 28 #[.int .i64 B.level, .int .i64 B.exponent, .slice (some ⟨b2, o2, none⟩) 2 cB] := Blk.below (by repeat (first | exact Blk.newAt (by (first | omega | (simp only [World.size_alloc, sz_set, sz_drew, sz_drewN]; done) | (simp only [World.size_alloc, sz_set, sz_drew, sz_drewN]; omega))) | (with_reducible refine Blk.alloc ?_ _) | (with_reducible refine Blk.drew ?_) | (with_reducible refine Blk.drewN ?_ _) | (with_reducible refine Blk.belowB ?_ (Hid.out (by assumption)) ?szk; case szk => (first | omega | (simp only [World.size_alloc, sz_set, sz_drew, sz_drewN]; done) | (simp only [World.size_alloc, sz_set, sz_drew, sz_drewN]; omega))))) hb
  have hC3 : Blk w2 (w.heap.size + 1 + 1 + 1) 28 #[.int .i64 0, .int .i64 0, .slice none 0 0] := Blk.below (by repeat (first | exact Blk.newAt (by (first | omega | (simp only [World.size_alloc, sz_set, sz_drew, sz_drewN]; done) | (simp only [World.size_alloc, sz_set, sz_drew, sz_drewN]; omega))) | (with_reducible refine Blk.alloc ?_ _) | (with_reducible refine Blk.drew ?_) | (with_reducible refine Blk.drewN ?_ _) | (with_reducible refine Blk.belowB ?_ (Hid.out (by assumption)) ?szk; case szk => (first | omega | (simp only [World.size_alloc, sz_set, sz_drew, sz_drewN]; done) | (simp only [World.size_alloc, sz_set, sz_drew, sz_drewN]; omega))))) hb
  have HP0 := Lib.hid hP0
  have HC1 := Lib.hid hC1
  have HC2 := Lib.hid hC2
  have HC3 := Lib.hid hC3
  clear hP0 hC1 hC2 hC3
  obtain ⟨hc_w2, hf_w2⟩ := bcell hb
  have HB_w2 : Hid (Below w.heap.size w w2) := Lib.hid (below_step (by with_reducible (repeat first | exact bR _ _ | assumption | exact ho (by assumption) | refine bD ?_ | refine bN ?_ _ | refine bA ?_ ?_ _ | refine bS ?_ ?_ _) <;> (first | omega | (simp <;> omega))) hb)
  have hs_w2 := hb.size
  try simp only [World.size_alloc, sz_set, sz_drew, sz_drewN] at hs_w2
  have q0_w2 : w.heap.size < w2.heap.size := by omega
  have q1_w2 : w.heap.size + 1 < w2.heap.size := by omega
  have q2_w2 : w.heap.size + 1 + 1 < w2.heap.size := by omega
  have q3_w2 : w.heap.size + 1 + 1 + 1 < w2.heap.size := by omega
  have HK_w2 := Lib.hid hb
  clear hb
  go_wp2
  refine gen_w _ _ (fun W0 hW0 => ?_)
  have HB0 : Hid (Below w.heap.size w W0) := Lib.hid (by rw [hW0]; exact (by with_reducible (repeat first | exact bR _ _ | assumption | exact ho (by assumption) | refine bD ?_ | refine bN ?_ _ | refine bA ?_ ?_ _ | refine bS ?_ ?_ _) <;> (first | omega | (simp <;> omega))))
  have HO0 : Hid (Blk W0 (w.heap.size + 1 + 1 + 1) 28 #[.int .i64 0, .int .i64 0, .slice none 0 0]) := Lib.hid (by rw [hW0]; exact HC3.out)
  have hz0 : w.heap.size + 1 + 1 + 1 < W0.heap.size := by rw [hW0]; (first | omega | (simp only [World.size_alloc, sz_set, sz_drew, sz_drewN]; done) | (simp only [World.size_alloc, sz_set, sz_drew, sz_drewN]; omega))
  have HSK : Hid (∀ w', Below W0.heap.size W0 w' → w'.cell? ⟨w.heap.size, 0, none⟩ = some (.int .i64 p.n) ∧ w'.cell? ⟨w.heap.size, 1, none⟩ = some (.int .u32 (p.prime : Int)) ∧ w'.cell? ⟨w.heap.size, 2, none⟩ = some (.int .i64 p.power) ∧ w'.cell? ⟨w.heap.size, 3, none⟩ = some (.slice ca p.chain.length cc) ∧ w'.cell? ⟨w.heap.size, 4, none⟩ = some (.int .u32 (p.special : Int)) ∧ w'.cell? ⟨w.heap.size, 5, none⟩ = some (.int .i64 p.weight) ∧ w'.cell? ⟨w.heap.size, 6, none⟩ = some (.int .u32 (p.err : Int)) ∧ w'.cell? ⟨w.heap.size + 1, 0, none⟩ = some (.int .i64 A.level) ∧ w'.cell? ⟨w.heap.size + 1, 1, none⟩ = some (.int .i64 A.exponent) ∧ w'.cell? ⟨w.heap.size + 1, 2, none⟩ = some (.slice (some ⟨b1, o1, none⟩) 2 cA) ∧ w'.cell? ⟨w.heap.size + 1 + 1, 2, none⟩ = some (.slice (some ⟨b2, o2, none⟩) 2 cB) ∧ w'.cell? ⟨b1, o1, none⟩ = some (.int .i64 (A.part 0).level) ∧ w'.cell? ⟨b1, o1 + 1, none⟩ = some (.bool (A.part 0).special) ∧ w'.cell? ⟨b1, o1 + 2, none⟩ = some (.slice r1 (A.part 0).rows.length c1) ∧ w'.cell? ⟨b1, o1 + 3, none⟩ = some (.int .i64 (A.part 1).level) ∧ w'.cell? ⟨b1, o1 + 3 + 1, none⟩ = some (.bool (A.part 1).special) ∧ w'.cell? ⟨b1, o1 + 3 + 2, none⟩ = some (.slice r3 (A.part 1).rows.length c3) ∧ w'.cell? ⟨b2, o2, none⟩ = some (.int .i64 (B.part 0).level) ∧ w'.cell? ⟨b2, o2 + 1, none⟩ = some (.bool (B.part 0).special) ∧ w'.cell? ⟨b2, o2 + 2, none⟩ = some (.slice r2 (B.part 0).rows.length c2) ∧ w'.cell? ⟨b2, o2 + 3, none⟩ = some (.int .i64 (B.part 1).level) ∧ w'.cell? ⟨b2, o2 + 3 + 1, none⟩ = some (.bool (B.part 1).special) ∧ w'.cell? ⟨b2, o2 + 3 + 2, none⟩ = some (.slice r4 (B.part 1).rows.length c4)) := Lib.hid (fun w' hb => by
    rw [hW0] at hb
    obtain ⟨c0, c1, c2, c3, c4, c5, c6⟩ := par_cells (HP0.out.below hb)
    obtain ⟨d0, d1, d2⟩ := el_cells (HC1.out.below hb)
    exact ⟨c0, c1, c2, c3, c4, c5, c6, d0, d1, d2, (HC2.out.below hb).cell 2, HSK0.out _ (HB_w2.out.trans (hb.mono HB_w2.out.size))⟩)
  have HT : Hid (∀ w', Below W0.heap.size W0 w' → Below w.heap.size w w') := Lib.hid (fun w' hb => HB0.out.trans (hb.mono HB0.out.size))
  have HN : Hid (Below W0.heap.size W0 W0) := Lib.hid (Below.refl _ _)
  clear hW0 HP0 HC1 HC2 HC3 HB_w2 HK_w2 hc_w2 hf_w2 hs_w2 q0_w2 q1_w2 q2_w2 q3_w2 HM HSK0
  have hS : (fun w' : World => w'.cell? ⟨w.heap.size, 0, none⟩ = some (.int .i64 p.n) ∧ w'.cell? ⟨w.heap.size, 1, none⟩ = some (.int .u32 (p.prime : Int)) ∧ w'.cell? ⟨w.heap.size, 2, none⟩ = some (.int .i64 p.power) ∧ w'.cell? ⟨w.heap.size, 3, none⟩ = some (.slice ca p.chain.length cc) ∧ w'.cell? ⟨w.heap.size, 4, none⟩ = some (.int .u32 (p.special : Int)) ∧ w'.cell? ⟨w.heap.size, 5, none⟩ = some (.int .i64 p.weight) ∧ w'.cell? ⟨w.heap.size, 6, none⟩ = some (.int .u32 (p.err : Int)) ∧ w'.cell? ⟨w.heap.size + 1, 0, none⟩ = some (.int .i64 A.level) ∧ w'.cell? ⟨w.heap.size + 1, 1, none⟩ = some (.int .i64 A.exponent) ∧ w'.cell? ⟨w.heap.size + 1, 2, none⟩ = some (.slice (some ⟨b1, o1, none⟩) 2 cA) ∧ w'.cell? ⟨w.heap.size + 1 + 1, 2, none⟩ = some (.slice (some ⟨b2, o2, none⟩) 2 cB) ∧ w'.cell? ⟨b1, o1, none⟩ = some (.int .i64 (A.part 0).level) ∧ w'.cell? ⟨b1, o1 + 1, none⟩ = some (.bool (A.part 0).special) ∧ w'.cell? ⟨b1, o1 + 2, none⟩ = some (.slice r1 (A.part 0).rows.length c1) ∧ w'.cell? ⟨b1, o1 + 3, none⟩ = some (.int .i64 (A.part 1).level) ∧ w'.cell? ⟨b1, o1 + 3 + 1, none⟩ = some (.bool (A.part 1).special) ∧ w'.cell? ⟨b1, o1 + 3 + 2, none⟩ = some (.slice r3 (A.part 1).rows.length c3) ∧ w'.cell? ⟨b2, o2, none⟩ = some (.int .i64 (B.part 0).level) ∧ w'.cell? ⟨b2, o2 + 1, none⟩ = some (.bool (B.part 0).special) ∧ w'.cell? ⟨b2, o2 + 2, none⟩ = some (.slice r2 (B.part 0).rows.length c2) ∧ w'.cell? ⟨b2, o2 + 3, none⟩ = some (.int .i64 (B.part 1).level) ∧ w'.cell? ⟨b2, o2 + 3 + 1, none⟩ = some (.bool (B.part 1).special) ∧ w'.cell? ⟨b2, o2 + 3 + 2, none⟩ = some (.slice r4 (B.part 1).rows.length c4)) W0.drew := HSK.out _ (by with_reducible (repeat first | exact bR _ _ | assumption | exact ho (by assumption) | refine bD ?_ | refine bN ?_ _ | refine bA ?_ ?_ _ | refine bS ?_ ?_ _) <;> (first | omega | (simp <;> omega)))
  refine wp_region_L (fun w' => w'.cell? ⟨w.heap.size, 0, none⟩ = some (.int .i64 p.n) ∧ w'.cell? ⟨w.heap.size, 1, none⟩ = some (.int .u32 (p.prime : Int)) ∧ w'.cell? ⟨w.heap.size, 2, none⟩ = some (.int .i64 p.power) ∧ w'.cell? ⟨w.heap.size, 3, none⟩ = some (.slice ca p.chain.length cc) ∧ w'.cell? ⟨w.heap.size, 4, none⟩ = some (.int .u32 (p.special : Int)) ∧ w'.cell? ⟨w.heap.size, 5, none⟩ = some (.int .i64 p.weight) ∧ w'.cell? ⟨w.heap.size, 6, none⟩ = some (.int .u32 (p.err : Int)) ∧ w'.cell? ⟨w.heap.size + 1, 0, none⟩ = some (.int .i64 A.level) ∧ w'.cell? ⟨w.heap.size + 1, 1, none⟩ = some (.int .i64 A.exponent) ∧ w'.cell? ⟨w.heap.size + 1, 2, none⟩ = some (.slice (some ⟨b1, o1, none⟩) 2 cA) ∧ w'.cell? ⟨w.heap.size + 1 + 1, 2, none⟩ = some (.slice (some ⟨b2, o2, none⟩) 2 cB) ∧ w'.cell? ⟨b1, o1, none⟩ = some (.int .i64 (A.part 0).level) ∧ w'.cell? ⟨b1, o1 + 1, none⟩ = some (.bool (A.part 0).special) ∧ w'.cell? ⟨b1, o1 + 2, none⟩ = some (.slice r1 (A.part 0).rows.length c1) ∧ w'.cell? ⟨b1, o1 + 3, none⟩ = some (.int .i64 (A.part 1).level) ∧ w'.cell? ⟨b1, o1 + 3 + 1, none⟩ = some (.bool (A.part 1).special) ∧ w'.cell? ⟨b1, o1 + 3 + 2, none⟩ = some (.slice r3 (A.part 1).rows.length c3) ∧ w'.cell? ⟨b2, o2, none⟩ = some (.int .i64 (B.part 0).level) ∧ w'.cell? ⟨b2, o2 + 1, none⟩ = some (.bool (B.part 0).special) ∧ w'.cell? ⟨b2, o2 + 2, none⟩ = some (.slice r2 (B.part 0).rows.length c2) ∧ w'.cell? ⟨b2, o2 + 3, none⟩ = some (.int .i64 (B.part 1).level) ∧ w'.cell? ⟨b2, o2 + 3 + 1, none⟩ = some (.bool (B.part 1).special) ∧ w'.cell? ⟨b2, o2 + 3 + 2, none⟩ = some (.slice r4 (B.part 1).rows.length c4)) 24 (by kernel_rfl) (by kernel_rfl) (by kernel_rfl) ?_
  refine tJ 0 (v := ?_) (by assumption) ?_ ?_
  rotate_left
  · (intro w h; (try dsimp only at h); go_simp; try with_reducible rfl)
  try simp only [Act.put, gA, gB, gC, sA, sB, sC]
  refine tJ 1 (v := ?_) (by assumption) ?_ ?_
  rotate_left
  · (intro w h; (try dsimp only at h); go_simp; try with_reducible rfl)
  try simp only [Act.put, gA, gB, gC, sA, sB, sC]
  refine tJ 2 (v := ?_) (by assumption) ?_ ?_
  rotate_left
  · (intro w h; (try dsimp only at h); go_simp; try with_reducible rfl)
  try simp only [Act.put, gA, gB, gC, sA, sB, sC]
  refine tJ 3 (v := ?_) (by assumption) ?_ ?_
  rotate_left
  · (intro w h; (try dsimp only at h); go_simp; try with_reducible rfl)
  try simp only [Act.put, gA, gB, gC, sA, sB, sC]
  refine tJ 4 (v := ?_) (by assumption) ?_ ?_
  rotate_left
  · (intro w h; (try dsimp only at h); go_simp; try with_reducible rfl)
  try simp only [Act.put, gA, gB, gC, sA, sB, sC]
  refine tJ 5 (v := ?_) (by assumption) ?_ ?_
  rotate_left
  · (intro w h; (try dsimp only at h); go_simp; try with_reducible rfl)
  try simp only [Act.put, gA, gB, gC, sA, sB, sC]
  refine tJ 6 (v := ?_) (by assumption) ?_ ?_
  rotate_left
  · (intro w h; (try dsimp only at h); go_simp; try with_reducible rfl)
  try simp only [Act.put, gA, gB, gC, sA, sB, sC]
  refine tJ 7 (v := ?_) (by assumption) ?_ ?_
  rotate_left
  · (intro w h; (try dsimp only at h); go_simp; try with_reducible rfl)
  try simp only [Act.put, gA, gB, gC, sA, sB, sC]
  refine tJ 8 (v := ?_) (by assumption) ?_ ?_
  rotate_left
  · (intro w h; (try dsimp only at h); go_simp; try with_reducible rfl)
  try simp only [Act.put, gA, gB, gC, sA, sB, sC]
  refine tJ 9 (v := ?_) (by assumption) ?_ ?_
  rotate_left
  · (intro w h; (try dsimp only at h); go_simp; try with_reducible rfl)
  try simp only [Act.put, gA, gB, gC, sA, sB, sC]
  refine tJ 11 (v := ?_) (by assumption) ?_ ?_
  rotate_left
  · (intro w h; (try dsimp only at h); go_simp; try with_reducible rfl)
  try simp only [Act.put, gA, gB, gC, sA, sB, sC]
  refine tJ 12 (v := ?_) (by assumption) ?_ ?_
  rotate_left
  · (intro w h; (try dsimp only at h); go_simp; try with_reducible rfl)
  try simp only [Act.put, gA, gB, gC, sA, sB, sC]
  refine tJ 13 (v := ?_) (by assumption) ?_ ?_
  rotate_left
  · (intro w h; (try dsimp only at h); go_simp; try with_reducible rfl)
  try simp only [Act.put, gA, gB, gC, sA, sB, sC]
  refine tJ 14 (v := ?_) (by assumption) ?_ ?_
  rotate_left
  · (intro w h; (try dsimp only at h); go_simp; try with_reducible rfl)
  try simp only [Act.put, gA, gB, gC, sA, sB, sC]
  refine tJ 15 (v := ?_) (by assumption) ?_ ?_
  rotate_left
  · (intro w h; (try dsimp only at h); go_simp; try with_reducible rfl)
  try simp only [Act.put, gA, gB, gC, sA, sB, sC]
  refine tJ 16 (v := ?_) (by assumption) ?_ ?_
  rotate_left
  · (intro w h; (try dsimp only at h); go_simp; try with_reducible rfl)
  try simp only [Act.put, gA, gB, gC, sA, sB, sC]
  refine tJ 17 (v := ?_) (by assumption) ?_ ?_
  rotate_left
  · (intro w h; (try dsimp only at h); go_simp; try with_reducible rfl)
  try simp only [Act.put, gA, gB, gC, sA, sB, sC]
  refine tJ 18 (v := ?_) (by assumption) ?_ ?_
  rotate_left
  · (intro w h; (try dsimp only at h); go_simp; try with_reducible rfl)
  try simp only [Act.put, gA, gB, gC, sA, sB, sC]
  refine tJ 19 (v := ?_) (by assumption) ?_ ?_
  rotate_left
  · (intro w h; (try dsimp only at h); go_simp; try with_reducible rfl)
  try simp only [Act.put, gA, gB, gC, sA, sB, sC]
  refine wpL.two 10 22 rfl rfl (by kernel_rfl) rfl rfl ?_ ?_ <;> intro K hK
  · go_wp2_with fail
    (with_reducible refine Calls.mono (H1.out _ (HT.out _ (by with_reducible (repeat first | exact bR _ _ | assumption | exact ho (by assumption) | refine bD ?_ | refine bN ?_ _ | refine bA ?_ ?_ _ | refine bS ?_ ?_ _) <;> (first | omega | (simp <;> omega))))) ?_)
    rintro e w3 ⟨⟨v, rfl, aA, kA, rfl, hO, hO1, hO2⟩, hb⟩
    have HR_w3 : Hid (RdRN w3 (W0.heap.size) aA EA.rows) := Lib.hid (hO.mono (by (first | omega | (simp only [World.size_alloc, sz_set, sz_drew, sz_drewN]; done) | (simp only [World.size_alloc, sz_set, sz_drew, sz_drewN]; omega))))
    have HV_w3 : Hid (Below W0.heap.size W0 w3) := Lib.hid (below_step' (by with_reducible (repeat first | exact bR _ _ | assumption | exact ho (by assumption) | refine bD ?_ | refine bN ?_ _ | refine bA ?_ ?_ _ | refine bS ?_ ?_ _) <;> (first | omega | (simp <;> omega))) hb)
    have HZ_w3 : Hid (Below W0.heap.size W0 w3) := Lib.hid (below_step' (by with_reducible (repeat first | exact bR _ _ | assumption | exact ho (by assumption) | refine bD ?_ | refine bN ?_ _ | refine bA ?_ ?_ _ | refine bS ?_ ?_ _) <;> (first | omega | (simp <;> omega))) hb)
    have hs_w3 := hb.size
    try simp only [World.size_alloc, sz_set, sz_drew, sz_drewN] at hs_w3
    clear hO hb

    refine hK _ _ (HSK.out _ (by with_reducible (repeat first | exact bR _ _ | assumption | exact ho (by assumption) | refine bD ?_ | refine bN ?_ _ | refine bA ?_ ?_ _ | refine bS ?_ ?_ _) <;> (first | omega | (simp <;> omega)))) (fun hS => ?_)
    clear hK
    try simp only [Act.put, gA, gB, gC, sA, sB, sC]
    refine wpL.two 20 22 rfl rfl (by kernel_rfl) rfl rfl ?_ ?_ <;> intro K hK
    · go_wp2_with fail
      (with_reducible refine Calls.mono (H2.out _ (HT.out _ (by with_reducible (repeat first | exact bR _ _ | assumption | exact ho (by assumption) | refine bD ?_ | refine bN ?_ _ | refine bA ?_ ?_ _ | refine bS ?_ ?_ _) <;> (first | omega | (simp <;> omega))))) ?_)
      rintro e w4 ⟨⟨v, rfl, aB, kB, rfl, hO, hO1, hO2⟩, hb⟩
      have HR_w4 : Hid (RdRN w4 (w3.heap.size) aB EB.rows) := Lib.hid (hO.mono (by (first | omega | (simp only [World.size_alloc, sz_set, sz_drew, sz_drewN]; done) | (simp only [World.size_alloc, sz_set, sz_drew, sz_drewN]; omega))))
      have HV_w4 : Hid (Below w3.heap.size w3 w4) := Lib.hid (below_step' (by with_reducible (repeat first | exact bR _ _ | assumption | exact ho (by assumption) | refine bD ?_ | refine bN ?_ _ | refine bA ?_ ?_ _ | refine bS ?_ ?_ _) <;> (first | omega | (simp <;> omega))) hb)
      have HZ_w4 : Hid (Below W0.heap.size W0 w4) := Lib.hid (below_step' (by with_reducible (repeat first | exact bR _ _ | assumption | exact ho (by assumption) | refine bD ?_ | refine bN ?_ _ | refine bA ?_ ?_ _ | refine bS ?_ ?_ _) <;> (first | omega | (simp <;> omega))) hb)
      have hs_w4 := hb.size
      try simp only [World.size_alloc, sz_set, sz_drew, sz_drewN] at hs_w4
      clear hO hb

      refine hK _ _ (HSK.out _ (by with_reducible (repeat first | exact bR _ _ | assumption | exact ho (by assumption) | refine bD ?_ | refine bN ?_ _ | refine bA ?_ ?_ _ | refine bS ?_ ?_ _) <;> (first | omega | (simp <;> omega)))) (fun hS => ?_)
      clear hK
      try simp only [Act.put, gA, gB, gC, sA, sB, sC]
      refine wpL.two 21 22 rfl rfl (by kernel_rfl) rfl rfl ?_ ?_ <;> intro K hK
      · have HXA : Hid (RdR w4 aA EA.rows) := Lib.hid ((HR_w3.out.below HV_w4.out).below (Below.refl _ w4)).rd
        have HXB : Hid (RdR w4 aB EB.rows) := Lib.hid (HR_w4.out.below (Below.refl _ w4)).rd

        go_wp2_with fail
        (with_reducible refine Calls.mono (H3.out _ (HT.out _ (by with_reducible (repeat first | exact bR _ _ | assumption | exact ho (by assumption) | refine bD ?_ | refine bN ?_ _ | refine bA ?_ ?_ _ | refine bS ?_ ?_ _) <;> (first | omega | (simp <;> omega)))) _ _ _ _ HXA.out HXB.out) ?_)
        rintro e w5 ⟨⟨v, rfl, a1, k1, rfl, hO, hO1, hO2⟩, hb⟩
        have HR_w5 : Hid (RdRN w5 (w4.heap.size) a1 E1.rows) := Lib.hid (hO.mono (by (first | omega | (simp only [World.size_alloc, sz_set, sz_drew, sz_drewN]; done) | (simp only [World.size_alloc, sz_set, sz_drew, sz_drewN]; omega))))
        have HV_w5 : Hid (Below w4.heap.size w4 w5) := Lib.hid (below_step' (by with_reducible (repeat first | exact bR _ _ | assumption | exact ho (by assumption) | refine bD ?_ | refine bN ?_ _ | refine bA ?_ ?_ _ | refine bS ?_ ?_ _) <;> (first | omega | (simp <;> omega))) hb)
        have HZ_w5 : Hid (Below W0.heap.size W0 w5) := Lib.hid (below_step' (by with_reducible (repeat first | exact bR _ _ | assumption | exact ho (by assumption) | refine bD ?_ | refine bN ?_ _ | refine bA ?_ ?_ _ | refine bS ?_ ?_ _) <;> (first | omega | (simp <;> omega))) hb)
        have hs_w5 := hb.size
        try simp only [World.size_alloc, sz_set, sz_drew, sz_drewN] at hs_w5
        have HB_1 := Lib.hid (And.intro hO1 hO2)
        clear hO hb

        refine hK _ _ (HSK.out _ (by with_reducible (repeat first | exact bR _ _ | assumption | exact ho (by assumption) | refine bD ?_ | refine bN ?_ _ | refine bA ?_ ?_ _ | refine bS ?_ ?_ _) <;> (first | omega | (simp <;> omega)))) (fun hS => ?_)
        clear hK
        try simp only [Act.put, gA, gB, gC, sA, sB, sC]
        refine wpL.eff 22 rfl (by kernel_rfl) rfl ?_
        intro K hK

        go_wp2
        refine hK _ _ (HSK.out _ (by with_reducible (repeat first | exact bR _ _ | assumption | exact ho (by assumption) | refine bD ?_ | refine bN ?_ _ | refine bA ?_ ?_ _ | refine bS ?_ ?_ _) <;> (first | omega | (simp <;> omega)))) (fun hS => ?_)
        clear hK
        try simp only [Act.put, gA, gB, gC, sA, sB, sC]
        refine wpL.eff 23 rfl (by kernel_rfl) rfl ?_
        intro K hK

        go_wp2
        refine hK _ _ (HSK.out _ (by with_reducible (repeat first | exact bR _ _ | assumption | exact ho (by assumption) | refine bD ?_ | refine bN ?_ _ | refine bA ?_ ?_ _ | refine bS ?_ ?_ _) <;> (first | omega | (simp <;> omega)))) (fun hS => ?_)
        clear hK
        try simp only [Act.put, gA, gB, gC, sA, sB, sC]
        refine wpL.done (by kernel_rfl) ?_
        refine gen_w _ _ (fun W1 hW1 => ?_)
        obtain ⟨d8, hd8⟩ : ∃ d, w5.heap.size = d := ⟨_, rfl⟩
        rw [hd8]
        have HZ_W1 : Hid (Below W0.heap.size W0 W1) := Lib.hid (by rw [hW1]; exact (by with_reducible (repeat first | exact bR _ _ | assumption | exact ho (by assumption) | refine bD ?_ | refine bN ?_ _ | refine bA ?_ ?_ _ | refine bS ?_ ?_ _) <;> (first | omega | (simp <;> omega))))
        have HD_W1 : Hid (Blk W1 d8 54 #[.int .i64 E1.level, .bool E1.special, .slice a1 E1.rows.length k1]) := Lib.hid (by rw [hW1, ← hd8]; exact Blk.new _ _ _)
        have HR_W1 : Hid (RdRN W1 W0.heap.size a1 E1.rows) := Lib.hid (by rw [hW1]; exact ((HR_w5.out.below ((Below.refl _ _).alloc (Nat.le_refl _) _)).mono (by omega)))
        have hz_W1 : W0.heap.size < W1.heap.size := by rw [hW1]; (first | omega | (simp only [World.size_alloc, sz_set, sz_drew, sz_drewN]; done) | (simp only [World.size_alloc, sz_set, sz_drew, sz_drewN]; omega))
        have hd_W1 : d8 < W1.heap.size := HD_W1.out.lt
        have hd_W0 : W0.heap.size ≤ d8 := by omega
        clear hW1 hd8 hS
        try clear HR_w3
        try clear HR_w4
        try clear HV_w3
        try clear HV_w4
        try clear HV_w5
        try clear HZ_w3
        try clear HZ_w4
        try clear HZ_w5
        try clear hs_w3
        try clear hs_w4
        try clear hs_w5
        try clear HD_w3
        try clear HD_w4
        try clear HD_w5
        try clear HXA
        try clear HXB
        try clear HR_w5

        obtain ⟨_, _, _, _, _, _, _, y0, y1, _⟩ := HSK.out _ HZ_W1.out
        go_wp2
        clear y0 y1
        refine gen_w _ _ (fun W2 hW2 => ?_)
        obtain ⟨g9, hg9⟩ : ∃ d, W1.heap.size = d := ⟨_, rfl⟩
        rw [hg9]
        have HZ_W2 : Hid (Below W0.heap.size W0 W2) := Lib.hid (by rw [hW2]; exact (by with_reducible (repeat first | exact bR _ _ | assumption | exact ho (by assumption) | refine bD ?_ | refine bN ?_ _ | refine bA ?_ ?_ _ | refine bS ?_ ?_ _) <;> (first | omega | (simp <;> omega))))
        have HG_W2 : Hid (Blk W2 g9 28 #[.int .i64 A.level, .int .i64 A.exponent, .slice none 0 0]) := Lib.hid (by rw [hW2, ← hg9]; exact Blk.new _ _ _)
        have HV_W2 : Hid (Below W1.heap.size W1 W2) := Lib.hid (by rw [hW2]; exact (by with_reducible (repeat first | exact bR _ _ | assumption | exact ho (by assumption) | refine bD ?_ | refine bN ?_ _ | refine bA ?_ ?_ _ | refine bS ?_ ?_ _) <;> (first | omega | (simp <;> omega))))
        have hz_W2 : W1.heap.size < W2.heap.size := by rw [hW2]; (first | omega | (simp only [World.size_alloc, sz_set, sz_drew, sz_drewN]; done) | (simp only [World.size_alloc, sz_set, sz_drew, sz_drewN]; omega))
        have HSK2 : Hid (∀ w', Below W2.heap.size W2 w' → w'.cell? ⟨g9, 2, none⟩ = some (.slice none 0 0) ∧ w'.cell? ⟨d8, 0, none⟩ = some (.int .i64 E1.level) ∧ w'.cell? ⟨d8, 1, none⟩ = some (.bool E1.special) ∧ w'.cell? ⟨d8, 2, none⟩ = some (.slice a1 E1.rows.length k1) ∧ w'.cell? ⟨w.heap.size, 0, none⟩ = some (.int .i64 p.n) ∧ w'.cell? ⟨w.heap.size, 1, none⟩ = some (.int .u32 (p.prime : Int)) ∧ w'.cell? ⟨w.heap.size, 2, none⟩ = some (.int .i64 p.power) ∧ w'.cell? ⟨w.heap.size, 3, none⟩ = some (.slice ca p.chain.length cc) ∧ w'.cell? ⟨w.heap.size, 4, none⟩ = some (.int .u32 (p.special : Int)) ∧ w'.cell? ⟨w.heap.size, 5, none⟩ = some (.int .i64 p.weight) ∧ w'.cell? ⟨w.heap.size, 6, none⟩ = some (.int .u32 (p.err : Int)) ∧ w'.cell? ⟨w.heap.size + 1, 0, none⟩ = some (.int .i64 A.level) ∧ w'.cell? ⟨w.heap.size + 1, 1, none⟩ = some (.int .i64 A.exponent) ∧ w'.cell? ⟨w.heap.size + 1, 2, none⟩ = some (.slice (some ⟨b1, o1, none⟩) 2 cA) ∧ w'.cell? ⟨w.heap.size + 1 + 1, 2, none⟩ = some (.slice (some ⟨b2, o2, none⟩) 2 cB) ∧ w'.cell? ⟨b1, o1, none⟩ = some (.int .i64 (A.part 0).level) ∧ w'.cell? ⟨b1, o1 + 1, none⟩ = some (.bool (A.part 0).special) ∧ w'.cell? ⟨b1, o1 + 2, none⟩ = some (.slice r1 (A.part 0).rows.length c1) ∧ w'.cell? ⟨b1, o1 + 3, none⟩ = some (.int .i64 (A.part 1).level) ∧ w'.cell? ⟨b1, o1 + 3 + 1, none⟩ = some (.bool (A.part 1).special) ∧ w'.cell? ⟨b1, o1 + 3 + 2, none⟩ = some (.slice r3 (A.part 1).rows.length c3) ∧ w'.cell? ⟨b2, o2, none⟩ = some (.int .i64 (B.part 0).level) ∧ w'.cell? ⟨b2, o2 + 1, none⟩ = some (.bool (B.part 0).special) ∧ w'.cell? ⟨b2, o2 + 2, none⟩ = some (.slice r2 (B.part 0).rows.length c2) ∧ w'.cell? ⟨b2, o2 + 3, none⟩ = some (.int .i64 (B.part 1).level) ∧ w'.cell? ⟨b2, o2 + 3 + 1, none⟩ = some (.bool (B.part 1).special) ∧ w'.cell? ⟨b2, o2 + 3 + 2, none⟩ = some (.slice r4 (B.part 1).rows.length c4)) := Lib.hid (fun w' hb => by
          obtain ⟨e0, e1, e2⟩ := el_cells ((HD_W1.out.below HV_W2.out).below hb)
          exact ⟨(HG_W2.out.below hb).cell 2, e0, e1, e2, HSK.out _ (HZ_W2.out.trans (hb.mono HZ_W2.out.size))⟩)
        have HT2 : Hid (∀ w', Below W2.heap.size W2 w' → Below w.heap.size w w') := Lib.hid (fun w' hb => HT.out _ (HZ_W2.out.trans (hb.mono HZ_W2.out.size)))
        have HN2 : Hid (Below W2.heap.size W2 W2) := Lib.hid (Below.refl _ _)
        have h91 : g9 < W2.heap.size := by omega
        have h92 : w.heap.size + 1 + 1 + 1 < g9 := by omega
        have HG9 := Lib.hid hg9
        clear hW2 hg9
        have hS : (fun w' : World => w'.cell? ⟨g9, 2, none⟩ = some (.slice none 0 0) ∧ w'.cell? ⟨d8, 0, none⟩ = some (.int .i64 E1.level) ∧ w'.cell? ⟨d8, 1, none⟩ = some (.bool E1.special) ∧ w'.cell? ⟨d8, 2, none⟩ = some (.slice a1 E1.rows.length k1) ∧ w'.cell? ⟨w.heap.size, 0, none⟩ = some (.int .i64 p.n) ∧ w'.cell? ⟨w.heap.size, 1, none⟩ = some (.int .u32 (p.prime : Int)) ∧ w'.cell? ⟨w.heap.size, 2, none⟩ = some (.int .i64 p.power) ∧ w'.cell? ⟨w.heap.size, 3, none⟩ = some (.slice ca p.chain.length cc) ∧ w'.cell? ⟨w.heap.size, 4, none⟩ = some (.int .u32 (p.special : Int)) ∧ w'.cell? ⟨w.heap.size, 5, none⟩ = some (.int .i64 p.weight) ∧ w'.cell? ⟨w.heap.size, 6, none⟩ = some (.int .u32 (p.err : Int)) ∧ w'.cell? ⟨w.heap.size + 1, 0, none⟩ = some (.int .i64 A.level) ∧ w'.cell? ⟨w.heap.size + 1, 1, none⟩ = some (.int .i64 A.exponent) ∧ w'.cell? ⟨w.heap.size + 1, 2, none⟩ = some (.slice (some ⟨b1, o1, none⟩) 2 cA) ∧ w'.cell? ⟨w.heap.size + 1 + 1, 2, none⟩ = some (.slice (some ⟨b2, o2, none⟩) 2 cB) ∧ w'.cell? ⟨b1, o1, none⟩ = some (.int .i64 (A.part 0).level) ∧ w'.cell? ⟨b1, o1 + 1, none⟩ = some (.bool (A.part 0).special) ∧ w'.cell? ⟨b1, o1 + 2, none⟩ = some (.slice r1 (A.part 0).rows.length c1) ∧ w'.cell? ⟨b1, o1 + 3, none⟩ = some (.int .i64 (A.part 1).level) ∧ w'.cell? ⟨b1, o1 + 3 + 1, none⟩ = some (.bool (A.part 1).special) ∧ w'.cell? ⟨b1, o1 + 3 + 2, none⟩ = some (.slice r3 (A.part 1).rows.length c3) ∧ w'.cell? ⟨b2, o2, none⟩ = some (.int .i64 (B.part 0).level) ∧ w'.cell? ⟨b2, o2 + 1, none⟩ = some (.bool (B.part 0).special) ∧ w'.cell? ⟨b2, o2 + 2, none⟩ = some (.slice r2 (B.part 0).rows.length c2) ∧ w'.cell? ⟨b2, o2 + 3, none⟩ = some (.int .i64 (B.part 1).level) ∧ w'.cell? ⟨b2, o2 + 3 + 1, none⟩ = some (.bool (B.part 1).special) ∧ w'.cell? ⟨b2, o2 + 3 + 2, none⟩ = some (.slice r4 (B.part 1).rows.length c4)) W2.drew := HSK2.out _ (by with_reducible (repeat first | exact bR _ _ | assumption | exact ho (by assumption) | refine bD ?_ | refine bN ?_ _ | refine bA ?_ ?_ _ | refine bS ?_ ?_ _) <;> (first | omega | (simp <;> omega)))
        refine wp_region_L (fun w' => w'.cell? ⟨g9, 2, none⟩ = some (.slice none 0 0) ∧ w'.cell? ⟨d8, 0, none⟩ = some (.int .i64 E1.level) ∧ w'.cell? ⟨d8, 1, none⟩ = some (.bool E1.special) ∧ w'.cell? ⟨d8, 2, none⟩ = some (.slice a1 E1.rows.length k1) ∧ w'.cell? ⟨w.heap.size, 0, none⟩ = some (.int .i64 p.n) ∧ w'.cell? ⟨w.heap.size, 1, none⟩ = some (.int .u32 (p.prime : Int)) ∧ w'.cell? ⟨w.heap.size, 2, none⟩ = some (.int .i64 p.power) ∧ w'.cell? ⟨w.heap.size, 3, none⟩ = some (.slice ca p.chain.length cc) ∧ w'.cell? ⟨w.heap.size, 4, none⟩ = some (.int .u32 (p.special : Int)) ∧ w'.cell? ⟨w.heap.size, 5, none⟩ = some (.int .i64 p.weight) ∧ w'.cell? ⟨w.heap.size, 6, none⟩ = some (.int .u32 (p.err : Int)) ∧ w'.cell? ⟨w.heap.size + 1, 0, none⟩ = some (.int .i64 A.level) ∧ w'.cell? ⟨w.heap.size + 1, 1, none⟩ = some (.int .i64 A.exponent) ∧ w'.cell? ⟨w.heap.size + 1, 2, none⟩ = some (.slice (some ⟨b1, o1, none⟩) 2 cA) ∧ w'.cell? ⟨w.heap.size + 1 + 1, 2, none⟩ = some (.slice (some ⟨b2, o2, none⟩) 2 cB) ∧ w'.cell? ⟨b1, o1, none⟩ = some (.int .i64 (A.part 0).level) ∧ w'.cell? ⟨b1, o1 + 1, none⟩ = some (.bool (A.part 0).special) ∧ w'.cell? ⟨b1, o1 + 2, none⟩ = some (.slice r1 (A.part 0).rows.length c1) ∧ w'.cell? ⟨b1, o1 + 3, none⟩ = some (.int .i64 (A.part 1).level) ∧ w'.cell? ⟨b1, o1 + 3 + 1, none⟩ = some (.bool (A.part 1).special) ∧ w'.cell? ⟨b1, o1 + 3 + 2, none⟩ = some (.slice r3 (A.part 1).rows.length c3) ∧ w'.cell? ⟨b2, o2, none⟩ = some (.int .i64 (B.part 0).level) ∧ w'.cell? ⟨b2, o2 + 1, none⟩ = some (.bool (B.part 0).special) ∧ w'.cell? ⟨b2, o2 + 2, none⟩ = some (.slice r2 (B.part 0).rows.length c2) ∧ w'.cell? ⟨b2, o2 + 3, none⟩ = some (.int .i64 (B.part 1).level) ∧ w'.cell? ⟨b2, o2 + 3 + 1, none⟩ = some (.bool (B.part 1).special) ∧ w'.cell? ⟨b2, o2 + 3 + 2, none⟩ = some (.slice r4 (B.part 1).rows.length c4)) 26 (by kernel_rfl) (by kernel_rfl) (by kernel_rfl) ?_
        refine tJ 0 (v := ?_) (by assumption) ?_ ?_
        rotate_left
        · (intro w h; (try dsimp only at h); go_simp; try with_reducible rfl)
        try simp only [Act.put, gA, gB, gC, sA, sB, sC]
        refine tJ 1 (v := ?_) (by assumption) ?_ ?_
        rotate_left
        · (intro w h; (try dsimp only at h); go_simp; try with_reducible rfl)
        try simp only [Act.put, gA, gB, gC, sA, sB, sC]
        refine tJ 2 (v := ?_) (by assumption) ?_ ?_
        rotate_left
        · (intro w h; (try dsimp only at h); go_simp; try with_reducible rfl)
        try simp only [Act.put, gA, gB, gC, sA, sB, sC]
        refine tJ 3 (v := ?_) (by assumption) ?_ ?_
        rotate_left
        · (intro w h; (try dsimp only at h); go_simp; try with_reducible rfl)
        try simp only [Act.put, gA, gB, gC, sA, sB, sC]
        refine tJ 4 (v := ?_) (by assumption) ?_ ?_
        rotate_left
        · (intro w h; (try dsimp only at h); go_simp; try with_reducible rfl)
        try simp only [Act.put, gA, gB, gC, sA, sB, sC]
        refine tJ 5 (v := ?_) (by assumption) ?_ ?_
        rotate_left
        · (intro w h; (try dsimp only at h); go_simp; try with_reducible rfl)
        try simp only [Act.put, gA, gB, gC, sA, sB, sC]
        refine tJ 6 (v := ?_) (by assumption) ?_ ?_
        rotate_left
        · (intro w h; (try dsimp only at h); go_simp; try with_reducible rfl)
        try simp only [Act.put, gA, gB, gC, sA, sB, sC]
        refine tJ 7 (v := ?_) (by assumption) ?_ ?_
        rotate_left
        · (intro w h; (try dsimp only at h); go_simp; try with_reducible rfl)
        try simp only [Act.put, gA, gB, gC, sA, sB, sC]
        refine tJ 8 (v := ?_) (by assumption) ?_ ?_
        rotate_left
        · (intro w h; (try dsimp only at h); go_simp; try with_reducible rfl)
        try simp only [Act.put, gA, gB, gC, sA, sB, sC]
        refine tJ 9 (v := ?_) (by assumption) ?_ ?_
        rotate_left
        · (intro w h; (try dsimp only at h); go_simp; try with_reducible rfl)
        try simp only [Act.put, gA, gB, gC, sA, sB, sC]
        refine tJ 10 (v := ?_) (by assumption) ?_ ?_
        rotate_left
        · (intro w h; (try dsimp only at h); go_simp; try with_reducible rfl)
        try simp only [Act.put, gA, gB, gC, sA, sB, sC]
        refine tJ 12 (v := ?_) (by assumption) ?_ ?_
        rotate_left
        · (intro w h; (try dsimp only at h); go_simp; try with_reducible rfl)
        try simp only [Act.put, gA, gB, gC, sA, sB, sC]
        refine tJ 13 (v := ?_) (by assumption) ?_ ?_
        rotate_left
        · (intro w h; (try dsimp only at h); go_simp; try with_reducible rfl)
        try simp only [Act.put, gA, gB, gC, sA, sB, sC]
        refine tJ 14 (v := ?_) (by assumption) ?_ ?_
        rotate_left
        · (intro w h; (try dsimp only at h); go_simp; try with_reducible rfl)
        try simp only [Act.put, gA, gB, gC, sA, sB, sC]
        refine tJ 15 (v := ?_) (by assumption) ?_ ?_
        rotate_left
        · (intro w h; (try dsimp only at h); go_simp; try with_reducible rfl)
        try simp only [Act.put, gA, gB, gC, sA, sB, sC]
        refine tJ 16 (v := ?_) (by assumption) ?_ ?_
        rotate_left
        · (intro w h; (try dsimp only at h); go_simp; try with_reducible rfl)
        try simp only [Act.put, gA, gB, gC, sA, sB, sC]
        refine tJ 17 (v := ?_) (by assumption) ?_ ?_
        rotate_left
        · (intro w h; (try dsimp only at h); go_simp; try with_reducible rfl)
        try simp only [Act.put, gA, gB, gC, sA, sB, sC]
        refine tJ 18 (v := ?_) (by assumption) ?_ ?_
        rotate_left
        · (intro w h; (try dsimp only at h); go_simp; try with_reducible rfl)
        try simp only [Act.put, gA, gB, gC, sA, sB, sC]
        refine tJ 19 (v := ?_) (by assumption) ?_ ?_
        rotate_left
        · (intro w h; (try dsimp only at h); go_simp; try with_reducible rfl)
        try simp only [Act.put, gA, gB, gC, sA, sB, sC]
        refine tJ 20 (v := ?_) (by assumption) ?_ ?_
        rotate_left
        · (intro w h; (try dsimp only at h); go_simp; try with_reducible rfl)
        try simp only [Act.put, gA, gB, gC, sA, sB, sC]
        refine tJ 21 (v := ?_) (by assumption) ?_ ?_
        rotate_left
        · (intro w h; (try dsimp only at h); go_simp; try with_reducible rfl)
        try simp only [Act.put, gA, gB, gC, sA, sB, sC]
        refine wpL.eff 11 rfl (by kernel_rfl) rfl ?_
        intro K hK
        go_wp2_with fail
        (with_reducible refine Calls.mono (H4.out _ (HT2.out _ (by with_reducible (repeat first | exact bR _ _ | assumption | exact ho (by assumption) | refine bD ?_ | refine bN ?_ _ | refine bA ?_ ?_ _ | refine bS ?_ ?_ _) <;> (first | omega | (simp <;> omega))))) ?_)
        rintro e w6 ⟨⟨v, rfl, a0, k0, rfl, hO, hO1, hO2⟩, hb⟩
        have HR_w6 : Hid (RdRN w6 W2.heap.size a0 E0.rows) := Lib.hid (hO.mono (by (first | omega | (simp only [World.size_alloc, sz_set, sz_drew, sz_drewN]; done) | (simp only [World.size_alloc, sz_set, sz_drew, sz_drewN]; omega))))
        have HZ_w6 : Hid (Below W2.heap.size W2 w6) := Lib.hid (below_step' (by with_reducible (repeat first | exact bR _ _ | assumption | exact ho (by assumption) | refine bD ?_ | refine bN ?_ _ | refine bA ?_ ?_ _ | refine bS ?_ ?_ _) <;> (first | omega | (simp <;> omega))) hb)
        have HB_0 := Lib.hid (And.intro hO1 hO2)
        have HN6 : Hid (Below w6.heap.size w6 w6) := Lib.hid (Below.refl _ _)
        have hs6 := hb.size
        try simp only [World.size_alloc, sz_set, sz_drew, sz_drewN] at hs6
        clear hO hb hO1 hO2
        refine hK _ _ (HSK2.out _ (by with_reducible (repeat first | exact bR _ _ | assumption | exact ho (by assumption) | refine bD ?_ | refine bN ?_ _ | refine bA ?_ ?_ _ | refine bS ?_ ?_ _) <;> (first | omega | (simp <;> omega)))) (fun hS => ?_)
        clear hK
        try simp only [Act.put, gA, gB, gC, sA, sB, sC]
        refine wpL.eff 22 rfl (by kernel_rfl) rfl ?_
        intro K hK
        go_wp2_with fail
        (with_reducible refine Calls.mono (H5.out _ (HT2.out _ (by with_reducible (repeat first | exact bR _ _ | assumption | exact ho (by assumption) | refine bD ?_ | refine bN ?_ _ | refine bA ?_ ?_ _ | refine bS ?_ ?_ _) <;> (first | omega | (simp <;> omega))))) ?_)
        rintro e w7 ⟨⟨v, rfl, a2, k2, rfl, hO, hO1, hO2⟩, hb⟩
        have HR_w7 : Hid (RdRN w7 W2.heap.size a2 E2.rows) := Lib.hid (hO.mono (by (first | omega | (simp only [World.size_alloc, sz_set, sz_drew, sz_drewN]; done) | (simp only [World.size_alloc, sz_set, sz_drew, sz_drewN]; omega))))
        have HZ_w7 : Hid (Below W2.heap.size W2 w7) := Lib.hid (below_step' (by with_reducible (repeat first | exact bR _ _ | assumption | exact ho (by assumption) | refine bD ?_ | refine bN ?_ _ | refine bA ?_ ?_ _ | refine bS ?_ ?_ _) <;> (first | omega | (simp <;> omega))) hb)
        have HV_w7 : Hid (Below w6.heap.size w6 w7) := Lib.hid (below_step' (by with_reducible (repeat first | exact bR _ _ | assumption | exact ho (by assumption) | refine bD ?_ | refine bN ?_ _ | refine bA ?_ ?_ _ | refine bS ?_ ?_ _) <;> (first | omega | (simp <;> omega))) hb)
        have HB_2 := Lib.hid (And.intro hO1 hO2)
        have hs7 := hb.size
        try simp only [World.size_alloc, sz_set, sz_drew, sz_drewN] at hs7
        clear hO hb hO1 hO2
        refine hK _ _ (HSK2.out _ (by with_reducible (repeat first | exact bR _ _ | assumption | exact ho (by assumption) | refine bD ?_ | refine bN ?_ _ | refine bA ?_ ?_ _ | refine bS ?_ ?_ _) <;> (first | omega | (simp <;> omega)))) (fun hS => ?_)
        clear hK
        try simp only [Act.put, gA, gB, gC, sA, sB, sC]
        refine wpL.eff 23 rfl (by kernel_rfl) rfl ?_
        intro K hK
        go_wp2
        refine hK _ _ (HSK2.out _ (by with_reducible (repeat first | exact bR _ _ | assumption | exact ho (by assumption) | refine bD ?_ | refine bN ?_ _ | refine bA ?_ ?_ _ | refine bS ?_ ?_ _) <;> (first | omega | (simp <;> omega)))) (fun hS => ?_)
        clear hK
        try simp only [Act.put, gA, gB, gC, sA, sB, sC]
        refine wpL.eff 24 rfl (by kernel_rfl) rfl ?_
        intro K hK
        obtain ⟨h, cap, cs, rest, w8, hrun, hbk, hcs, hh, hc1, hc2, hb8⟩ := app_three (w7.alloc (.cells #[.int .i64 E0.level, .bool E0.special, .slice a0 E0.rows.length k0, .int .i64 E1.level, .bool E1.special, .slice a1 E1.rows.length k1, .int .i64 E2.level, .bool E2.special, .slice a2 E2.rows.length k2] 54)) w7.heap.size [.int .i64 E0.level, .bool E0.special, .slice a0 E0.rows.length k0, .int .i64 E1.level, .bool E1.special, .slice a1 E1.rows.length k1, .int .i64 E2.level, .bool E2.special, .slice a2 E2.rows.length k2] rfl (by simp [Value.oneCell']) (Blk.new _ _ _)
        have HBK := Lib.hid hbk
        have HCS := Lib.hid hcs
        have HV_w8 : Hid (Below w7.heap.size w7 w8) := Lib.hid (below_step' ((Below.refl _ w7).alloc (Nat.le_refl _) _) hb8)
        have HZ_w8 : Hid (Below W2.heap.size W2 w8) := Lib.hid (HZ_w7.out.trans (HV_w8.out.mono HZ_w7.out.size))
        have hs8 := HV_w8.out.size
        rw [World.size_alloc] at hh
        clear hbk hcs hb8
        refine wp_append_run (.tmp 56) (.tmp 78) 26 rfl _ _ rfl rfl _ _ hrun ?_
        refine hK _ _ (HSK2.out _ HZ_w8.out) (fun hS => ?_)
        clear hK
        try simp only [Act.put, gA, gB, gC, sA, sB, sC]
        refine tJ 25 (v := ?_) (by assumption) ?_ ?_
        rotate_left
        · (intro w h; (try dsimp only at h); go_simp; try with_reducible rfl)
        try simp only [Act.put, gA, gB, gC, sA, sB, sC]
        clear hS
        refine wpL.last 26 rfl (by kernel_rfl) rfl (by kernel_rfl) rfl ?_
        have h9 := HG_W2.out.below HZ_w8.out
        obtain ⟨m0, m1, m2⟩ := el_cells h9
        have i2 := h9.free 2
        have HF : Hid (∀ x, Turn w8 x [g9, w.heap.size + 1 + 1 + 1] → GiveCi w.heap.size ⟨A.level, A.exponent, [E0, E1, E2]⟩ (.agg #[.int .i64 A.level, .int .i64 A.exponent, .slice (some ⟨h, 0, none⟩) 3 cap]) x ∧ Below w.heap.size w x) := Lib.hid (fun x hT => by
          have hl : ∀ B, g9 < B → ∀ y, y ∈ [g9, w.heap.size + 1 + 1 + 1] → y < B := fun B hB y hy => by simp at hy; omega
          have T1 : Turn W1 x [w.heap.size + 1 + 1 + 1] := by
            have hu := Turn.trans' (S := []) (Turn.of_below (HV_W2.out.trans (HZ_w8.out.mono (by omega)))) hT
            exact ⟨hu.os, hu.tape, hu.output, hu.size, fun i hi hn => hu.block i hi (by have := HG9.out; simp at hn ⊢; omega)⟩
          refine ⟨⟨some ⟨h, 0, none⟩, cap, rfl, ?_, hc1, hc2⟩, ?_⟩
          · exact rdEN_three (HBK.out.turn hT (by simp; omega)) HCS.out (by omega) (((HR_w6.out.below (HV_w7.out.trans (HV_w8.out.mono (by omega)))).turn hT (hl _ h91)).mono (by omega)) ((HR_W1.out.turn T1 (fun y hy => by simp at hy; omega)).mono (by omega)) (((HR_w7.out.below HV_w8.out).turn hT (hl _ h91)).mono (by omega)) HB_0.out.1 HB_0.out.2 HB_1.out.1 HB_1.out.2 HB_2.out.1 HB_2.out.2
          · exact (HT2.out _ HZ_w8.out).trans (hT.belowN (by omega) (fun y hy => by simp at hy; omega)))
        have h3 := ((HO0.out.below HZ_W2.out).below HZ_w8.out)
        obtain ⟨n0, n1, n2⟩ := el_cells h3
        have j0 := h3.free 0
        have j1 := h3.free 1
        have j2 := h3.free 2
        clear h9 h3
        go_wp2
        have TF := ((((Turn.refl w8 [g9, w.heap.size + 1 + 1 + 1]).setCell (p := ⟨g9, 2, none⟩) (.inl (by simp)) (.slice (some ⟨h, 0, none⟩) 3 cap)).setCell (p := ⟨w.heap.size + 1 + 1 + 1, 0, none⟩) (.inl (by simp)) (.int .i64 A.level)).setCell (p := ⟨w.heap.size + 1 + 1 + 1, 1, none⟩) (.inl (by simp)) (.int .i64 A.exponent)).setCell (p := ⟨w.heap.size + 1 + 1 + 1, 2, none⟩) (.inl (by simp)) (.slice (some ⟨h, 0, none⟩) 3 cap)
        obtain ⟨z1, z2⟩ := HF.out _ TF
        have n9 : g9 ≠ w.heap.size + 1 + 1 + 1 := by omega
        have n8 : w.heap.size + 1 + 1 + 1 ≠ g9 := by omega
        refine bodyPost_ret (v := .tuple #[.agg #[.int .i64 A.level, .int .i64 A.exponent, .slice (some ⟨h, 0, none⟩) 3 cap], .int .i64 0]) (by simp [results, Tryz.results11, go_sem, n0, n1, n2, m0, m1, m2, n8, n9]) rfl ⟨⟨_, rfl, z1⟩, z2⟩
      · go_wp2
        refine hK _ _ (HSK.out _ (by with_reducible (repeat first | exact bR _ _ | assumption | exact ho (by assumption) | refine bD ?_ | refine bN ?_ _ | refine bA ?_ ?_ _ | refine bS ?_ ?_ _) <;> (first | omega | (simp <;> omega)))) (fun hS => ?_)
        clear hK
        try simp only [Act.put, gA, gB, gC, sA, sB, sC]
        have HXA : Hid (RdR (w4.alloc (.cells #[.int .i64 0, .bool false, .slice none 0 0] 54)) aA EA.rows) := Lib.hid ((HR_w3.out.below HV_w4.out).below ((Below.refl _ w4).alloc (Nat.le_refl _) _)).rd
        have HXB : Hid (RdR (w4.alloc (.cells #[.int .i64 0, .bool false, .slice none 0 0] 54)) aB EB.rows) := Lib.hid (HR_w4.out.below ((Below.refl _ w4).alloc (Nat.le_refl _) _)).rd
        refine wpL.eff 21 rfl (by kernel_rfl) rfl ?_
        intro K hK

        go_wp2_with fail
        (with_reducible refine Calls.mono (H3.out _ (HT.out _ (by with_reducible (repeat first | exact bR _ _ | assumption | exact ho (by assumption) | refine bD ?_ | refine bN ?_ _ | refine bA ?_ ?_ _ | refine bS ?_ ?_ _) <;> (first | omega | (simp <;> omega)))) _ _ _ _ HXA.out HXB.out) ?_)
        rintro e w5 ⟨⟨v, rfl, a1, k1, rfl, hO, hO1, hO2⟩, hb⟩
        have HR_w5 : Hid (RdRN w5 (w4.heap.size + 1) a1 E1.rows) := Lib.hid (hO.mono (by (first | omega | (simp only [World.size_alloc, sz_set, sz_drew, sz_drewN]; done) | (simp only [World.size_alloc, sz_set, sz_drew, sz_drewN]; omega))))
        have HV_w5 : Hid (Below w4.heap.size w4 w5) := Lib.hid (below_step' (by with_reducible (repeat first | exact bR _ _ | assumption | exact ho (by assumption) | refine bD ?_ | refine bN ?_ _ | refine bA ?_ ?_ _ | refine bS ?_ ?_ _) <;> (first | omega | (simp <;> omega))) hb)
        have HZ_w5 : Hid (Below W0.heap.size W0 w5) := Lib.hid (below_step' (by with_reducible (repeat first | exact bR _ _ | assumption | exact ho (by assumption) | refine bD ?_ | refine bN ?_ _ | refine bA ?_ ?_ _ | refine bS ?_ ?_ _) <;> (first | omega | (simp <;> omega))) hb)
        have hs_w5 := hb.size
        try simp only [World.size_alloc, sz_set, sz_drew, sz_drewN] at hs_w5
        have hD0 : Blk w5 (w4.heap.size) 54 #[.int .i64 0, .bool false, .slice none 0 0] := Blk.below (by exact (by repeat (first | exact Blk.newAt (by (first | omega | (simp only [World.size_alloc, sz_set, sz_drew, sz_drewN]; done) | (simp only [World.size_alloc, sz_set, sz_drew, sz_drewN]; omega))) | (with_reducible refine Blk.alloc ?_ _) | (with_reducible refine Blk.drew ?_) | (with_reducible refine Blk.drewN ?_ _) | (with_reducible refine Blk.belowB ?_ (Hid.out (by assumption)) ?szk; case szk => (first | omega | (simp only [World.size_alloc, sz_set, sz_drew, sz_drewN]; done) | (simp only [World.size_alloc, sz_set, sz_drew, sz_drewN]; omega)))))) hb
        have HD_w5 := Lib.hid hD0
        clear hD0
        have HB_1 := Lib.hid (And.intro hO1 hO2)
        clear hO hb

        refine hK _ _ (HSK.out _ (by with_reducible (repeat first | exact bR _ _ | assumption | exact ho (by assumption) | refine bD ?_ | refine bN ?_ _ | refine bA ?_ ?_ _ | refine bS ?_ ?_ _) <;> (first | omega | (simp <;> omega)))) (fun hS => ?_)
        clear hK
        try simp only [Act.put, gA, gB, gC, sA, sB, sC]
        refine wpL.eff 23 rfl (by kernel_rfl) rfl ?_
        intro K hK
        obtain ⟨t0, t1, t2⟩ := el_cells HD_w5.out
        have g0 := HD_w5.out.free 0
        have g1 := HD_w5.out.free 1
        have g2 := HD_w5.out.free 2

        go_wp2
        refine hK _ _ (HSK.out _ (by with_reducible (repeat first | exact bR _ _ | assumption | exact ho (by assumption) | refine bD ?_ | refine bN ?_ _ | refine bA ?_ ?_ _ | refine bS ?_ ?_ _) <;> (first | omega | (simp <;> omega)))) (fun hS => ?_)
        clear hK
        try simp only [Act.put, gA, gB, gC, sA, sB, sC]
        refine wpL.done (by kernel_rfl) ?_
        refine gen_w _ _ (fun W1 hW1 => ?_)
        obtain ⟨d8, hd8⟩ : ∃ d, w4.heap.size = d := ⟨_, rfl⟩
        rw [hd8]
        have HZ_W1 : Hid (Below W0.heap.size W0 W1) := Lib.hid (by rw [hW1]; exact (by with_reducible (repeat first | exact bR _ _ | assumption | exact ho (by assumption) | refine bD ?_ | refine bN ?_ _ | refine bA ?_ ?_ _ | refine bS ?_ ?_ _) <;> (first | omega | (simp <;> omega))))
        have HD_W1 : Hid (Blk W1 d8 54 #[.int .i64 E1.level, .bool E1.special, .slice a1 E1.rows.length k1]) := Lib.hid (by rw [hW1, ← hd8]; exact ((HD_w5.out.set 0 _).set 1 _).set 2 _)
        have HR_W1 : Hid (RdRN W1 W0.heap.size a1 E1.rows) := Lib.hid (by rw [hW1]; exact ((HR_w5.out.turn (S := [w4.heap.size]) ((((Turn.refl w5 _).setCell (p := ⟨w4.heap.size, 0, none⟩) (.inl (by simp)) _).setCell (p := ⟨w4.heap.size, 1, none⟩) (.inl (by simp)) _).setCell (p := ⟨w4.heap.size, 2, none⟩) (.inl (by simp)) _) (fun x hx => by (try simp only [List.mem_singleton] at hx ⊢); omega)).mono (by omega)))
        have hz_W1 : W0.heap.size < W1.heap.size := by rw [hW1]; (first | omega | (simp only [World.size_alloc, sz_set, sz_drew, sz_drewN]; done) | (simp only [World.size_alloc, sz_set, sz_drew, sz_drewN]; omega))
        have hd_W1 : d8 < W1.heap.size := HD_W1.out.lt
        have hd_W0 : W0.heap.size ≤ d8 := by omega
        clear hW1 hd8 hS
        try clear t0 t1 t2 g0 g1 g2
        try clear HR_w3
        try clear HR_w4
        try clear HV_w3
        try clear HV_w4
        try clear HV_w5
        try clear HZ_w3
        try clear HZ_w4
        try clear HZ_w5
        try clear hs_w3
        try clear hs_w4
        try clear hs_w5
        try clear HD_w3
        try clear HD_w4
        try clear HD_w5
        try clear HXA
        try clear HXB
        try clear HR_w5

        obtain ⟨_, _, _, _, _, _, _, y0, y1, _⟩ := HSK.out _ HZ_W1.out
        go_wp2
        clear y0 y1
        refine gen_w _ _ (fun W2 hW2 => ?_)
        obtain ⟨g9, hg9⟩ : ∃ d, W1.heap.size = d := ⟨_, rfl⟩
        rw [hg9]
        have HZ_W2 : Hid (Below W0.heap.size W0 W2) := Lib.hid (by rw [hW2]; exact (by with_reducible (repeat first | exact bR _ _ | assumption | exact ho (by assumption) | refine bD ?_ | refine bN ?_ _ | refine bA ?_ ?_ _ | refine bS ?_ ?_ _) <;> (first | omega | (simp <;> omega))))
        have HG_W2 : Hid (Blk W2 g9 28 #[.int .i64 A.level, .int .i64 A.exponent, .slice none 0 0]) := Lib.hid (by rw [hW2, ← hg9]; exact Blk.new _ _ _)
        have HV_W2 : Hid (Below W1.heap.size W1 W2) := Lib.hid (by rw [hW2]; exact (by with_reducible (repeat first | exact bR _ _ | assumption | exact ho (by assumption) | refine bD ?_ | refine bN ?_ _ | refine bA ?_ ?_ _ | refine bS ?_ ?_ _) <;> (first | omega | (simp <;> omega))))
        have hz_W2 : W1.heap.size < W2.heap.size := by rw [hW2]; (first | omega | (simp only [World.size_alloc, sz_set, sz_drew, sz_drewN]; done) | (simp only [World.size_alloc, sz_set, sz_drew, sz_drewN]; omega))
        have HSK2 : Hid (∀ w', Below W2.heap.size W2 w' → w'.cell? ⟨g9, 2, none⟩ = some (.slice none 0 0) ∧ w'.cell? ⟨d8, 0, none⟩ = some (.int .i64 E1.level) ∧ w'.cell? ⟨d8, 1, none⟩ = some (.bool E1.special) ∧ w'.cell? ⟨d8, 2, none⟩ = some (.slice a1 E1.rows.length k1) ∧ w'.cell? ⟨w.heap.size, 0, none⟩ = some (.int .i64 p.n) ∧ w'.cell? ⟨w.heap.size, 1, none⟩ = some (.int .u32 (p.prime : Int)) ∧ w'.cell? ⟨w.heap.size, 2, none⟩ = some (.int .i64 p.power) ∧ w'.cell? ⟨w.heap.size, 3, none⟩ = some (.slice ca p.chain.length cc) ∧ w'.cell? ⟨w.heap.size, 4, none⟩ = some (.int .u32 (p.special : Int)) ∧ w'.cell? ⟨w.heap.size, 5, none⟩ = some (.int .i64 p.weight) ∧ w'.cell? ⟨w.heap.size, 6, none⟩ = some (.int .u32 (p.err : Int)) ∧ w'.cell? ⟨w.heap.size + 1, 0, none⟩ = some (.int .i64 A.level) ∧ w'.cell? ⟨w.heap.size + 1, 1, none⟩ = some (.int .i64 A.exponent) ∧ w'.cell? ⟨w.heap.size + 1, 2, none⟩ = some (.slice (some ⟨b1, o1, none⟩) 2 cA) ∧ w'.cell? ⟨w.heap.size + 1 + 1, 2, none⟩ = some (.slice (some ⟨b2, o2, none⟩) 2 cB) ∧ w'.cell? ⟨b1, o1, none⟩ = some (.int .i64 (A.part 0).level) ∧ w'.cell? ⟨b1, o1 + 1, none⟩ = some (.bool (A.part 0).special) ∧ w'.cell? ⟨b1, o1 + 2, none⟩ = some (.slice r1 (A.part 0).rows.length c1) ∧ w'.cell? ⟨b1, o1 + 3, none⟩ = some (.int .i64 (A.part 1).level) ∧ w'.cell? ⟨b1, o1 + 3 + 1, none⟩ = some (.bool (A.part 1).special) ∧ w'.cell? ⟨b1, o1 + 3 + 2, none⟩ = some (.slice r3 (A.part 1).rows.length c3) ∧ w'.cell? ⟨b2, o2, none⟩ = some (.int .i64 (B.part 0).level) ∧ w'.cell? ⟨b2, o2 + 1, none⟩ = some (.bool (B.part 0).special) ∧ w'.cell? ⟨b2, o2 + 2, none⟩ = some (.slice r2 (B.part 0).rows.length c2) ∧ w'.cell? ⟨b2, o2 + 3, none⟩ = some (.int .i64 (B.part 1).level) ∧ w'.cell? ⟨b2, o2 + 3 + 1, none⟩ = some (.bool (B.part 1).special) ∧ w'.cell? ⟨b2, o2 + 3 + 2, none⟩ = some (.slice r4 (B.part 1).rows.length c4)) := Lib.hid (fun w' hb => by
          obtain ⟨e0, e1, e2⟩ := el_cells ((HD_W1.out.below HV_W2.out).below hb)
          exact ⟨(HG_W2.out.below hb).cell 2, e0, e1, e2, HSK.out _ (HZ_W2.out.trans (hb.mono HZ_W2.out.size))⟩)
        have HT2 : Hid (∀ w', Below W2.heap.size W2 w' → Below w.heap.size w w') := Lib.hid (fun w' hb => HT.out _ (HZ_W2.out.trans (hb.mono HZ_W2.out.size)))
        have HN2 : Hid (Below W2.heap.size W2 W2) := Lib.hid (Below.refl _ _)
        have h91 : g9 < W2.heap.size := by omega
        have h92 : w.heap.size + 1 + 1 + 1 < g9 := by omega
        have HG9 := Lib.hid hg9
        clear hW2 hg9
        have hS : (fun w' : World => w'.cell? ⟨g9, 2, none⟩ = some (.slice none 0 0) ∧ w'.cell? ⟨d8, 0, none⟩ = some (.int .i64 E1.level) ∧ w'.cell? ⟨d8, 1, none⟩ = some (.bool E1.special) ∧ w'.cell? ⟨d8, 2, none⟩ = some (.slice a1 E1.rows.length k1) ∧ w'.cell? ⟨w.heap.size, 0, none⟩ = some (.int .i64 p.n) ∧ w'.cell? ⟨w.heap.size, 1, none⟩ = some (.int .u32 (p.prime : Int)) ∧ w'.cell? ⟨w.heap.size, 2, none⟩ = some (.int .i64 p.power) ∧ w'.cell? ⟨w.heap.size, 3, none⟩ = some (.slice ca p.chain.length cc) ∧ w'.cell? ⟨w.heap.size, 4, none⟩ = some (.int .u32 (p.special : Int)) ∧ w'.cell? ⟨w.heap.size, 5, none⟩ = some (.int .i64 p.weight) ∧ w'.cell? ⟨w.heap.size, 6, none⟩ = some (.int .u32 (p.err : Int)) ∧ w'.cell? ⟨w.heap.size + 1, 0, none⟩ = some (.int .i64 A.level) ∧ w'.cell? ⟨w.heap.size + 1, 1, none⟩ = some (.int .i64 A.exponent) ∧ w'.cell? ⟨w.heap.size + 1, 2, none⟩ = some (.slice (some ⟨b1, o1, none⟩) 2 cA) ∧ w'.cell? ⟨w.heap.size + 1 + 1, 2, none⟩ = some (.slice (some ⟨b2, o2, none⟩) 2 cB) ∧ w'.cell? ⟨b1, o1, none⟩ = some (.int .i64 (A.part 0).level) ∧ w'.cell? ⟨b1, o1 + 1, none⟩ = some (.bool (A.part 0).special) ∧ w'.cell? ⟨b1, o1 + 2, none⟩ = some (.slice r1 (A.part 0).rows.length c1) ∧ w'.cell? ⟨b1, o1 + 3, none⟩ = some (.int .i64 (A.part 1).level) ∧ w'.cell? ⟨b1, o1 + 3 + 1, none⟩ = some (.bool (A.part 1).special) ∧ w'.cell? ⟨b1, o1 + 3 + 2, none⟩ = some (.slice r3 (A.part 1).rows.length c3) ∧ w'.cell? ⟨b2, o2, none⟩ = some (.int .i64 (B.part 0).level) ∧ w'.cell? ⟨b2, o2 + 1, none⟩ = some (.bool (B.part 0).special) ∧ w'.cell? ⟨b2, o2 + 2, none⟩ = some (.slice r2 (B.part 0).rows.length c2) ∧ w'.cell? ⟨b2, o2 + 3, none⟩ = some (.int .i64 (B.part 1).level) ∧ w'.cell? ⟨b2, o2 + 3 + 1, none⟩ = some (.bool (B.part 1).special) ∧ w'.cell? ⟨b2, o2 + 3 + 2, none⟩ = some (.slice r4 (B.part 1).rows.length c4)) W2.drew := HSK2.out _ (by with_reducible (repeat first | exact bR _ _ | assumption | exact ho (by assumption) | refine bD ?_ | refine bN ?_ _ | refine bA ?_ ?_ _ | refine bS ?_ ?_ _) <;> (first | omega | (simp <;> omega)))
        refine wp_region_L (fun w' => w'.cell? ⟨g9, 2, none⟩ = some (.slice none 0 0) ∧ w'.cell? ⟨d8, 0, none⟩ = some (.int .i64 E1.level) ∧ w'.cell? ⟨d8, 1, none⟩ = some (.bool E1.special) ∧ w'.cell? ⟨d8, 2, none⟩ = some (.slice a1 E1.rows.length k1) ∧ w'.cell? ⟨w.heap.size, 0, none⟩ = some (.int .i64 p.n) ∧ w'.cell? ⟨w.heap.size, 1, none⟩ = some (.int .u32 (p.prime : Int)) ∧ w'.cell? ⟨w.heap.size, 2, none⟩ = some (.int .i64 p.power) ∧ w'.cell? ⟨w.heap.size, 3, none⟩ = some (.slice ca p.chain.length cc) ∧ w'.cell? ⟨w.heap.size, 4, none⟩ = some (.int .u32 (p.special : Int)) ∧ w'.cell? ⟨w.heap.size, 5, none⟩ = some (.int .i64 p.weight) ∧ w'.cell? ⟨w.heap.size, 6, none⟩ = some (.int .u32 (p.err : Int)) ∧ w'.cell? ⟨w.heap.size + 1, 0, none⟩ = some (.int .i64 A.level) ∧ w'.cell? ⟨w.heap.size + 1, 1, none⟩ = some (.int .i64 A.exponent) ∧ w'.cell? ⟨w.heap.size + 1, 2, none⟩ = some (.slice (some ⟨b1, o1, none⟩) 2 cA) ∧ w'.cell? ⟨w.heap.size + 1 + 1, 2, none⟩ = some (.slice (some ⟨b2, o2, none⟩) 2 cB) ∧ w'.cell? ⟨b1, o1, none⟩ = some (.int .i64 (A.part 0).level) ∧ w'.cell? ⟨b1, o1 + 1, none⟩ = some (.bool (A.part 0).special) ∧ w'.cell? ⟨b1, o1 + 2, none⟩ = some (.slice r1 (A.part 0).rows.length c1) ∧ w'.cell? ⟨b1, o1 + 3, none⟩ = some (.int .i64 (A.part 1).level) ∧ w'.cell? ⟨b1, o1 + 3 + 1, none⟩ = some (.bool (A.part 1).special) ∧ w'.cell? ⟨b1, o1 + 3 + 2, none⟩ = some (.slice r3 (A.part 1).rows.length c3) ∧ w'.cell? ⟨b2, o2, none⟩ = some (.int .i64 (B.part 0).level) ∧ w'.cell? ⟨b2, o2 + 1, none⟩ = some (.bool (B.part 0).special) ∧ w'.cell? ⟨b2, o2 + 2, none⟩ = some (.slice r2 (B.part 0).rows.length c2) ∧ w'.cell? ⟨b2, o2 + 3, none⟩ = some (.int .i64 (B.part 1).level) ∧ w'.cell? ⟨b2, o2 + 3 + 1, none⟩ = some (.bool (B.part 1).special) ∧ w'.cell? ⟨b2, o2 + 3 + 2, none⟩ = some (.slice r4 (B.part 1).rows.length c4)) 26 (by kernel_rfl) (by kernel_rfl) (by kernel_rfl) ?_
        refine tJ 0 (v := ?_) (by assumption) ?_ ?_
        rotate_left
        · (intro w h; (try dsimp only at h); go_simp; try with_reducible rfl)
        try simp only [Act.put, gA, gB, gC, sA, sB, sC]
        refine tJ 1 (v := ?_) (by assumption) ?_ ?_
        rotate_left
        · (intro w h; (try dsimp only at h); go_simp; try with_reducible rfl)
        try simp only [Act.put, gA, gB, gC, sA, sB, sC]
        refine tJ 2 (v := ?_) (by assumption) ?_ ?_
        rotate_left
        · (intro w h; (try dsimp only at h); go_simp; try with_reducible rfl)
        try simp only [Act.put, gA, gB, gC, sA, sB, sC]
        refine tJ 3 (v := ?_) (by assumption) ?_ ?_
        rotate_left
        · (intro w h; (try dsimp only at h); go_simp; try with_reducible rfl)
        try simp only [Act.put, gA, gB, gC, sA, sB, sC]
        refine tJ 4 (v := ?_) (by assumption) ?_ ?_
        rotate_left
        · (intro w h; (try dsimp only at h); go_simp; try with_reducible rfl)
        try simp only [Act.put, gA, gB, gC, sA, sB, sC]
        refine tJ 5 (v := ?_) (by assumption) ?_ ?_
        rotate_left
        · (intro w h; (try dsimp only at h); go_simp; try with_reducible rfl)
        try simp only [Act.put, gA, gB, gC, sA, sB, sC]
        refine tJ 6 (v := ?_) (by assumption) ?_ ?_
        rotate_left
        · (intro w h; (try dsimp only at h); go_simp; try with_reducible rfl)
        try simp only [Act.put, gA, gB, gC, sA, sB, sC]
        refine tJ 7 (v := ?_) (by assumption) ?_ ?_
        rotate_left
        · (intro w h; (try dsimp only at h); go_simp; try with_reducible rfl)
        try simp only [Act.put, gA, gB, gC, sA, sB, sC]
        refine tJ 8 (v := ?_) (by assumption) ?_ ?_
        rotate_left
        · (intro w h; (try dsimp only at h); go_simp; try with_reducible rfl)
        try simp only [Act.put, gA, gB, gC, sA, sB, sC]
        refine tJ 9 (v := ?_) (by assumption) ?_ ?_
        rotate_left
        · (intro w h; (try dsimp only at h); go_simp; try with_reducible rfl)
        try simp only [Act.put, gA, gB, gC, sA, sB, sC]
        refine tJ 10 (v := ?_) (by assumption) ?_ ?_
        rotate_left
        · (intro w h; (try dsimp only at h); go_simp; try with_reducible rfl)
        try simp only [Act.put, gA, gB, gC, sA, sB, sC]
        refine tJ 12 (v := ?_) (by assumption) ?_ ?_
        rotate_left
        · (intro w h; (try dsimp only at h); go_simp; try with_reducible rfl)
        try simp only [Act.put, gA, gB, gC, sA, sB, sC]
        refine tJ 13 (v := ?_) (by assumption) ?_ ?_
        rotate_left
        · (intro w h; (try dsimp only at h); go_simp; try with_reducible rfl)
        try simp only [Act.put, gA, gB, gC, sA, sB, sC]
        refine tJ 14 (v := ?_) (by assumption) ?_ ?_
        rotate_left
        · (intro w h; (try dsimp only at h); go_simp; try with_reducible rfl)
        try simp only [Act.put, gA, gB, gC, sA, sB, sC]
        refine tJ 15 (v := ?_) (by assumption) ?_ ?_
        rotate_left
        · (intro w h; (try dsimp only at h); go_simp; try with_reducible rfl)
        try simp only [Act.put, gA, gB, gC, sA, sB, sC]
        refine tJ 16 (v := ?_) (by assumption) ?_ ?_
        rotate_left
        · (intro w h; (try dsimp only at h); go_simp; try with_reducible rfl)
        try simp only [Act.put, gA, gB, gC, sA, sB, sC]
        refine tJ 17 (v := ?_) (by assumption) ?_ ?_
        rotate_left
        · (intro w h; (try dsimp only at h); go_simp; try with_reducible rfl)
        try simp only [Act.put, gA, gB, gC, sA, sB, sC]
        refine tJ 18 (v := ?_) (by assumption) ?_ ?_
        rotate_left
        · (intro w h; (try dsimp only at h); go_simp; try with_reducible rfl)
        try simp only [Act.put, gA, gB, gC, sA, sB, sC]
        refine tJ 19 (v := ?_) (by assumption) ?_ ?_
        rotate_left
        · (intro w h; (try dsimp only at h); go_simp; try with_reducible rfl)
        try simp only [Act.put, gA, gB, gC, sA, sB, sC]
        refine tJ 20 (v := ?_) (by assumption) ?_ ?_
        rotate_left
        · (intro w h; (try dsimp only at h); go_simp; try with_reducible rfl)
        try simp only [Act.put, gA, gB, gC, sA, sB, sC]
        refine tJ 21 (v := ?_) (by assumption) ?_ ?_
        rotate_left
        · (intro w h; (try dsimp only at h); go_simp; try with_reducible rfl)
        try simp only [Act.put, gA, gB, gC, sA, sB, sC]
        refine wpL.eff 11 rfl (by kernel_rfl) rfl ?_
        intro K hK
        go_wp2_with fail
        (with_reducible refine Calls.mono (H4.out _ (HT2.out _ (by with_reducible (repeat first | exact bR _ _ | assumption | exact ho (by assumption) | refine bD ?_ | refine bN ?_ _ | refine bA ?_ ?_ _ | refine bS ?_ ?_ _) <;> (first | omega | (simp <;> omega))))) ?_)
        rintro e w6 ⟨⟨v, rfl, a0, k0, rfl, hO, hO1, hO2⟩, hb⟩
        have HR_w6 : Hid (RdRN w6 W2.heap.size a0 E0.rows) := Lib.hid (hO.mono (by (first | omega | (simp only [World.size_alloc, sz_set, sz_drew, sz_drewN]; done) | (simp only [World.size_alloc, sz_set, sz_drew, sz_drewN]; omega))))
        have HZ_w6 : Hid (Below W2.heap.size W2 w6) := Lib.hid (below_step' (by with_reducible (repeat first | exact bR _ _ | assumption | exact ho (by assumption) | refine bD ?_ | refine bN ?_ _ | refine bA ?_ ?_ _ | refine bS ?_ ?_ _) <;> (first | omega | (simp <;> omega))) hb)
        have HB_0 := Lib.hid (And.intro hO1 hO2)
        have HN6 : Hid (Below w6.heap.size w6 w6) := Lib.hid (Below.refl _ _)
        have hs6 := hb.size
        try simp only [World.size_alloc, sz_set, sz_drew, sz_drewN] at hs6
        clear hO hb hO1 hO2
        refine hK _ _ (HSK2.out _ (by with_reducible (repeat first | exact bR _ _ | assumption | exact ho (by assumption) | refine bD ?_ | refine bN ?_ _ | refine bA ?_ ?_ _ | refine bS ?_ ?_ _) <;> (first | omega | (simp <;> omega)))) (fun hS => ?_)
        clear hK
        try simp only [Act.put, gA, gB, gC, sA, sB, sC]
        refine wpL.eff 22 rfl (by kernel_rfl) rfl ?_
        intro K hK
        go_wp2_with fail
        (with_reducible refine Calls.mono (H5.out _ (HT2.out _ (by with_reducible (repeat first | exact bR _ _ | assumption | exact ho (by assumption) | refine bD ?_ | refine bN ?_ _ | refine bA ?_ ?_ _ | refine bS ?_ ?_ _) <;> (first | omega | (simp <;> omega))))) ?_)
        rintro e w7 ⟨⟨v, rfl, a2, k2, rfl, hO, hO1, hO2⟩, hb⟩
        have HR_w7 : Hid (RdRN w7 W2.heap.size a2 E2.rows) := Lib.hid (hO.mono (by (first | omega | (simp only [World.size_alloc, sz_set, sz_drew, sz_drewN]; done) | (simp only [World.size_alloc, sz_set, sz_drew, sz_drewN]; omega))))
        have HZ_w7 : Hid (Below W2.heap.size W2 w7) := Lib.hid (below_step' (by with_reducible (repeat first | exact bR _ _ | assumption | exact ho (by assumption) | refine bD ?_ | refine bN ?_ _ | refine bA ?_ ?_ _ | refine bS ?_ ?_ _) <;> (first | omega | (simp <;> omega))) hb)
        have HV_w7 : Hid (Below w6.heap.size w6 w7) := Lib.hid (below_step' (by with_reducible (repeat first | exact bR _ _ | assumption | exact ho (by assumption) | refine bD ?_ | refine bN ?_ _ | refine bA ?_ ?_ _ | refine bS ?_ ?_ _) <;> (first | omega | (simp <;> omega))) hb)
        have HB_2 := Lib.hid (And.intro hO1 hO2)
        have hs7 := hb.size
        try simp only [World.size_alloc, sz_set, sz_drew, sz_drewN] at hs7
        clear hO hb hO1 hO2
        refine hK _ _ (HSK2.out _ (by with_reducible (repeat first | exact bR _ _ | assumption | exact ho (by assumption) | refine bD ?_ | refine bN ?_ _ | refine bA ?_ ?_ _ | refine bS ?_ ?_ _) <;> (first | omega | (simp <;> omega)))) (fun hS => ?_)
        clear hK
        try simp only [Act.put, gA, gB, gC, sA, sB, sC]
        refine wpL.eff 23 rfl (by kernel_rfl) rfl ?_
        intro K hK
        go_wp2
        refine hK _ _ (HSK2.out _ (by with_reducible (repeat first | exact bR _ _ | assumption | exact ho (by assumption) | refine bD ?_ | refine bN ?_ _ | refine bA ?_ ?_ _ | refine bS ?_ ?_ _) <;> (first | omega | (simp <;> omega)))) (fun hS => ?_)
        clear hK
        try simp only [Act.put, gA, gB, gC, sA, sB, sC]
        refine wpL.eff 24 rfl (by kernel_rfl) rfl ?_
        intro K hK
        obtain ⟨h, cap, cs, rest, w8, hrun, hbk, hcs, hh, hc1, hc2, hb8⟩ := app_three (w7.alloc (.cells #[.int .i64 E0.level, .bool E0.special, .slice a0 E0.rows.length k0, .int .i64 E1.level, .bool E1.special, .slice a1 E1.rows.length k1, .int .i64 E2.level, .bool E2.special, .slice a2 E2.rows.length k2] 54)) w7.heap.size [.int .i64 E0.level, .bool E0.special, .slice a0 E0.rows.length k0, .int .i64 E1.level, .bool E1.special, .slice a1 E1.rows.length k1, .int .i64 E2.level, .bool E2.special, .slice a2 E2.rows.length k2] rfl (by simp [Value.oneCell']) (Blk.new _ _ _)
        have HBK := Lib.hid hbk
        have HCS := Lib.hid hcs
        have HV_w8 : Hid (Below w7.heap.size w7 w8) := Lib.hid (below_step' ((Below.refl _ w7).alloc (Nat.le_refl _) _) hb8)
        have HZ_w8 : Hid (Below W2.heap.size W2 w8) := Lib.hid (HZ_w7.out.trans (HV_w8.out.mono HZ_w7.out.size))
        have hs8 := HV_w8.out.size
        rw [World.size_alloc] at hh
        clear hbk hcs hb8
        refine wp_append_run (.tmp 56) (.tmp 78) 26 rfl _ _ rfl rfl _ _ hrun ?_
        refine hK _ _ (HSK2.out _ HZ_w8.out) (fun hS => ?_)
        clear hK
        try simp only [Act.put, gA, gB, gC, sA, sB, sC]
        refine tJ 25 (v := ?_) (by assumption) ?_ ?_
        rotate_left
        · (intro w h; (try dsimp only at h); go_simp; try with_reducible rfl)
        try simp only [Act.put, gA, gB, gC, sA, sB, sC]
        clear hS
        refine wpL.last 26 rfl (by kernel_rfl) rfl (by kernel_rfl) rfl ?_
        have h9 := HG_W2.out.below HZ_w8.out
        obtain ⟨m0, m1, m2⟩ := el_cells h9
        have i2 := h9.free 2
        have HF : Hid (∀ x, Turn w8 x [g9, w.heap.size + 1 + 1 + 1] → GiveCi w.heap.size ⟨A.level, A.exponent, [E0, E1, E2]⟩ (.agg #[.int .i64 A.level, .int .i64 A.exponent, .slice (some ⟨h, 0, none⟩) 3 cap]) x ∧ Below w.heap.size w x) := Lib.hid (fun x hT => by
          have hl : ∀ B, g9 < B → ∀ y, y ∈ [g9, w.heap.size + 1 + 1 + 1] → y < B := fun B hB y hy => by simp at hy; omega
          have T1 : Turn W1 x [w.heap.size + 1 + 1 + 1] := by
            have hu := Turn.trans' (S := []) (Turn.of_below (HV_W2.out.trans (HZ_w8.out.mono (by omega)))) hT
            exact ⟨hu.os, hu.tape, hu.output, hu.size, fun i hi hn => hu.block i hi (by have := HG9.out; simp at hn ⊢; omega)⟩
          refine ⟨⟨some ⟨h, 0, none⟩, cap, rfl, ?_, hc1, hc2⟩, ?_⟩
          · exact rdEN_three (HBK.out.turn hT (by simp; omega)) HCS.out (by omega) (((HR_w6.out.below (HV_w7.out.trans (HV_w8.out.mono (by omega)))).turn hT (hl _ h91)).mono (by omega)) ((HR_W1.out.turn T1 (fun y hy => by simp at hy; omega)).mono (by omega)) (((HR_w7.out.below HV_w8.out).turn hT (hl _ h91)).mono (by omega)) HB_0.out.1 HB_0.out.2 HB_1.out.1 HB_1.out.2 HB_2.out.1 HB_2.out.2
          · exact (HT2.out _ HZ_w8.out).trans (hT.belowN (by omega) (fun y hy => by simp at hy; omega)))
        have h3 := ((HO0.out.below HZ_W2.out).below HZ_w8.out)
        obtain ⟨n0, n1, n2⟩ := el_cells h3
        have j0 := h3.free 0
        have j1 := h3.free 1
        have j2 := h3.free 2
        clear h9 h3
        go_wp2
        have TF := ((((Turn.refl w8 [g9, w.heap.size + 1 + 1 + 1]).setCell (p := ⟨g9, 2, none⟩) (.inl (by simp)) (.slice (some ⟨h, 0, none⟩) 3 cap)).setCell (p := ⟨w.heap.size + 1 + 1 + 1, 0, none⟩) (.inl (by simp)) (.int .i64 A.level)).setCell (p := ⟨w.heap.size + 1 + 1 + 1, 1, none⟩) (.inl (by simp)) (.int .i64 A.exponent)).setCell (p := ⟨w.heap.size + 1 + 1 + 1, 2, none⟩) (.inl (by simp)) (.slice (some ⟨h, 0, none⟩) 3 cap)
        obtain ⟨z1, z2⟩ := HF.out _ TF
        have n9 : g9 ≠ w.heap.size + 1 + 1 + 1 := by omega
        have n8 : w.heap.size + 1 + 1 + 1 ≠ g9 := by omega
        refine bodyPost_ret (v := .tuple #[.agg #[.int .i64 A.level, .int .i64 A.exponent, .slice (some ⟨h, 0, none⟩) 3 cap], .int .i64 0]) (by simp [results, Tryz.results11, go_sem, n0, n1, n2, m0, m1, m2, n8, n9]) rfl ⟨⟨_, rfl, z1⟩, z2⟩
    · go_wp2
      refine hK _ _ (HSK.out _ (by with_reducible (repeat first | exact bR _ _ | assumption | exact ho (by assumption) | refine bD ?_ | refine bN ?_ _ | refine bA ?_ ?_ _ | refine bS ?_ ?_ _) <;> (first | omega | (simp <;> omega)))) (fun hS => ?_)
      clear hK
      try simp only [Act.put, gA, gB, gC, sA, sB, sC]
      refine wpL.eff 20 rfl (by kernel_rfl) rfl ?_
      intro K hK

      go_wp2_with fail
      (with_reducible refine Calls.mono (H2.out _ (HT.out _ (by with_reducible (repeat first | exact bR _ _ | assumption | exact ho (by assumption) | refine bD ?_ | refine bN ?_ _ | refine bA ?_ ?_ _ | refine bS ?_ ?_ _) <;> (first | omega | (simp <;> omega))))) ?_)
      rintro e w4 ⟨⟨v, rfl, aB, kB, rfl, hO, hO1, hO2⟩, hb⟩
      have HR_w4 : Hid (RdRN w4 (w3.heap.size + 1) aB EB.rows) := Lib.hid (hO.mono (by (first | omega | (simp only [World.size_alloc, sz_set, sz_drew, sz_drewN]; done) | (simp only [World.size_alloc, sz_set, sz_drew, sz_drewN]; omega))))
      have HV_w4 : Hid (Below w3.heap.size w3 w4) := Lib.hid (below_step' (by with_reducible (repeat first | exact bR _ _ | assumption | exact ho (by assumption) | refine bD ?_ | refine bN ?_ _ | refine bA ?_ ?_ _ | refine bS ?_ ?_ _) <;> (first | omega | (simp <;> omega))) hb)
      have HZ_w4 : Hid (Below W0.heap.size W0 w4) := Lib.hid (below_step' (by with_reducible (repeat first | exact bR _ _ | assumption | exact ho (by assumption) | refine bD ?_ | refine bN ?_ _ | refine bA ?_ ?_ _ | refine bS ?_ ?_ _) <;> (first | omega | (simp <;> omega))) hb)
      have hs_w4 := hb.size
      try simp only [World.size_alloc, sz_set, sz_drew, sz_drewN] at hs_w4
      have hD0 : Blk w4 (w3.heap.size) 54 #[.int .i64 0, .bool false, .slice none 0 0] := Blk.below (by exact (by repeat (first | exact Blk.newAt (by (first | omega | (simp only [World.size_alloc, sz_set, sz_drew, sz_drewN]; done) | (simp only [World.size_alloc, sz_set, sz_drew, sz_drewN]; omega))) | (with_reducible refine Blk.alloc ?_ _) | (with_reducible refine Blk.drew ?_) | (with_reducible refine Blk.drewN ?_ _) | (with_reducible refine Blk.belowB ?_ (Hid.out (by assumption)) ?szk; case szk => (first | omega | (simp only [World.size_alloc, sz_set, sz_drew, sz_drewN]; done) | (simp only [World.size_alloc, sz_set, sz_drew, sz_drewN]; omega)))))) hb
      have HD_w4 := Lib.hid hD0
      clear hD0
      clear hO hb

      refine hK _ _ (HSK.out _ (by with_reducible (repeat first | exact bR _ _ | assumption | exact ho (by assumption) | refine bD ?_ | refine bN ?_ _ | refine bA ?_ ?_ _ | refine bS ?_ ?_ _) <;> (first | omega | (simp <;> omega)))) (fun hS => ?_)
      clear hK
      try simp only [Act.put, gA, gB, gC, sA, sB, sC]
      have HXA : Hid (RdR w4 aA EA.rows) := Lib.hid ((HR_w3.out.below HV_w4.out).below (Below.refl _ w4)).rd
      have HXB : Hid (RdR w4 aB EB.rows) := Lib.hid (HR_w4.out.below (Below.refl _ w4)).rd
      refine wpL.eff 21 rfl (by kernel_rfl) rfl ?_
      intro K hK

      go_wp2_with fail
      (with_reducible refine Calls.mono (H3.out _ (HT.out _ (by with_reducible (repeat first | exact bR _ _ | assumption | exact ho (by assumption) | refine bD ?_ | refine bN ?_ _ | refine bA ?_ ?_ _ | refine bS ?_ ?_ _) <;> (first | omega | (simp <;> omega)))) _ _ _ _ HXA.out HXB.out) ?_)
      rintro e w5 ⟨⟨v, rfl, a1, k1, rfl, hO, hO1, hO2⟩, hb⟩
      have HR_w5 : Hid (RdRN w5 (w4.heap.size) a1 E1.rows) := Lib.hid (hO.mono (by (first | omega | (simp only [World.size_alloc, sz_set, sz_drew, sz_drewN]; done) | (simp only [World.size_alloc, sz_set, sz_drew, sz_drewN]; omega))))
      have HV_w5 : Hid (Below w4.heap.size w4 w5) := Lib.hid (below_step' (by with_reducible (repeat first | exact bR _ _ | assumption | exact ho (by assumption) | refine bD ?_ | refine bN ?_ _ | refine bA ?_ ?_ _ | refine bS ?_ ?_ _) <;> (first | omega | (simp <;> omega))) hb)
      have HZ_w5 : Hid (Below W0.heap.size W0 w5) := Lib.hid (below_step' (by with_reducible (repeat first | exact bR _ _ | assumption | exact ho (by assumption) | refine bD ?_ | refine bN ?_ _ | refine bA ?_ ?_ _ | refine bS ?_ ?_ _) <;> (first | omega | (simp <;> omega))) hb)
      have hs_w5 := hb.size
      try simp only [World.size_alloc, sz_set, sz_drew, sz_drewN] at hs_w5
      have hD0 : Blk w5 (w3.heap.size) 54 #[.int .i64 0, .bool false, .slice none 0 0] := HD_w4.out.below HV_w5.out
      have HD_w5 := Lib.hid hD0
      clear hD0
      have HB_1 := Lib.hid (And.intro hO1 hO2)
      clear hO hb

      refine hK _ _ (HSK.out _ (by with_reducible (repeat first | exact bR _ _ | assumption | exact ho (by assumption) | refine bD ?_ | refine bN ?_ _ | refine bA ?_ ?_ _ | refine bS ?_ ?_ _) <;> (first | omega | (simp <;> omega)))) (fun hS => ?_)
      clear hK
      try simp only [Act.put, gA, gB, gC, sA, sB, sC]
      refine wpL.eff 23 rfl (by kernel_rfl) rfl ?_
      intro K hK
      obtain ⟨t0, t1, t2⟩ := el_cells HD_w5.out
      have g0 := HD_w5.out.free 0
      have g1 := HD_w5.out.free 1
      have g2 := HD_w5.out.free 2

      go_wp2
      refine hK _ _ (HSK.out _ (by with_reducible (repeat first | exact bR _ _ | assumption | exact ho (by assumption) | refine bD ?_ | refine bN ?_ _ | refine bA ?_ ?_ _ | refine bS ?_ ?_ _) <;> (first | omega | (simp <;> omega)))) (fun hS => ?_)
      clear hK
      try simp only [Act.put, gA, gB, gC, sA, sB, sC]
      refine wpL.done (by kernel_rfl) ?_
      refine gen_w _ _ (fun W1 hW1 => ?_)
      obtain ⟨d8, hd8⟩ : ∃ d, w3.heap.size = d := ⟨_, rfl⟩
      rw [hd8]
      have HZ_W1 : Hid (Below W0.heap.size W0 W1) := Lib.hid (by rw [hW1]; exact (by with_reducible (repeat first | exact bR _ _ | assumption | exact ho (by assumption) | refine bD ?_ | refine bN ?_ _ | refine bA ?_ ?_ _ | refine bS ?_ ?_ _) <;> (first | omega | (simp <;> omega))))
      have HD_W1 : Hid (Blk W1 d8 54 #[.int .i64 E1.level, .bool E1.special, .slice a1 E1.rows.length k1]) := Lib.hid (by rw [hW1, ← hd8]; exact ((HD_w5.out.set 0 _).set 1 _).set 2 _)
      have HR_W1 : Hid (RdRN W1 W0.heap.size a1 E1.rows) := Lib.hid (by rw [hW1]; exact ((HR_w5.out.turn (S := [w3.heap.size]) ((((Turn.refl w5 _).setCell (p := ⟨w3.heap.size, 0, none⟩) (.inl (by simp)) _).setCell (p := ⟨w3.heap.size, 1, none⟩) (.inl (by simp)) _).setCell (p := ⟨w3.heap.size, 2, none⟩) (.inl (by simp)) _) (fun x hx => by (try simp only [List.mem_singleton] at hx ⊢); omega)).mono (by omega)))
      have hz_W1 : W0.heap.size < W1.heap.size := by rw [hW1]; (first | omega | (simp only [World.size_alloc, sz_set, sz_drew, sz_drewN]; done) | (simp only [World.size_alloc, sz_set, sz_drew, sz_drewN]; omega))
      have hd_W1 : d8 < W1.heap.size := HD_W1.out.lt
      have hd_W0 : W0.heap.size ≤ d8 := by omega
      clear hW1 hd8 hS
      try clear t0 t1 t2 g0 g1 g2
      try clear HR_w3
      try clear HR_w4
      try clear HV_w3
      try clear HV_w4
      try clear HV_w5
      try clear HZ_w3
      try clear HZ_w4
      try clear HZ_w5
      try clear hs_w3
      try clear hs_w4
      try clear hs_w5
      try clear HD_w3
      try clear HD_w4
      try clear HD_w5
      try clear HXA
      try clear HXB
      try clear HR_w5

      obtain ⟨_, _, _, _, _, _, _, y0, y1, _⟩ := HSK.out _ HZ_W1.out
      go_wp2
      clear y0 y1
      refine gen_w _ _ (fun W2 hW2 => ?_)
      obtain ⟨g9, hg9⟩ : ∃ d, W1.heap.size = d := ⟨_, rfl⟩
      rw [hg9]
      have HZ_W2 : Hid (Below W0.heap.size W0 W2) := Lib.hid (by rw [hW2]; exact (by with_reducible (repeat first | exact bR _ _ | assumption | exact ho (by assumption) | refine bD ?_ | refine bN ?_ _ | refine bA ?_ ?_ _ | refine bS ?_ ?_ _) <;> (first | omega | (simp <;> omega))))
      have HG_W2 : Hid (Blk W2 g9 28 #[.int .i64 A.level, .int .i64 A.exponent, .slice none 0 0]) := Lib.hid (by rw [hW2, ← hg9]; exact Blk.new _ _ _)
      have HV_W2 : Hid (Below W1.heap.size W1 W2) := Lib.hid (by rw [hW2]; exact (by with_reducible (repeat first | exact bR _ _ | assumption | exact ho (by assumption) | refine bD ?_ | refine bN ?_ _ | refine bA ?_ ?_ _ | refine bS ?_ ?_ _) <;> (first | omega | (simp <;> omega))))
      have hz_W2 : W1.heap.size < W2.heap.size := by rw [hW2]; (first | omega | (simp only [World.size_alloc, sz_set, sz_drew, sz_drewN]; done) | (simp only [World.size_alloc, sz_set, sz_drew, sz_drewN]; omega))
      have HSK2 : Hid (∀ w', Below W2.heap.size W2 w' → w'.cell? ⟨g9, 2, none⟩ = some (.slice none 0 0) ∧ w'.cell? ⟨d8, 0, none⟩ = some (.int .i64 E1.level) ∧ w'.cell? ⟨d8, 1, none⟩ = some (.bool E1.special) ∧ w'.cell? ⟨d8, 2, none⟩ = some (.slice a1 E1.rows.length k1) ∧ w'.cell? ⟨w.heap.size, 0, none⟩ = some (.int .i64 p.n) ∧ w'.cell? ⟨w.heap.size, 1, none⟩ = some (.int .u32 (p.prime : Int)) ∧ w'.cell? ⟨w.heap.size, 2, none⟩ = some (.int .i64 p.power) ∧ w'.cell? ⟨w.heap.size, 3, none⟩ = some (.slice ca p.chain.length cc) ∧ w'.cell? ⟨w.heap.size, 4, none⟩ = some (.int .u32 (p.special : Int)) ∧ w'.cell? ⟨w.heap.size, 5, none⟩ = some (.int .i64 p.weight) ∧ w'.cell? ⟨w.heap.size, 6, none⟩ = some (.int .u32 (p.err : Int)) ∧ w'.cell? ⟨w.heap.size + 1, 0, none⟩ = some (.int .i64 A.level) ∧ w'.cell? ⟨w.heap.size + 1, 1, none⟩ = some (.int .i64 A.exponent) ∧ w'.cell? ⟨w.heap.size + 1, 2, none⟩ = some (.slice (some ⟨b1, o1, none⟩) 2 cA) ∧ w'.cell? ⟨w.heap.size + 1 + 1, 2, none⟩ = some (.slice (some ⟨b2, o2, none⟩) 2 cB) ∧ w'.cell? ⟨b1, o1, none⟩ = some (.int .i64 (A.part 0).level) ∧ w'.cell? ⟨b1, o1 + 1, none⟩ = some (.bool (A.part 0).special) ∧ w'.cell? ⟨b1, o1 + 2, none⟩ = some (.slice r1 (A.part 0).rows.length c1) ∧ w'.cell? ⟨b1, o1 + 3, none⟩ = some (.int .i64 (A.part 1).level) ∧ w'.cell? ⟨b1, o1 + 3 + 1, none⟩ = some (.bool (A.part 1).special) ∧ w'.cell? ⟨b1, o1 + 3 + 2, none⟩ = some (.slice r3 (A.part 1).rows.length c3) ∧ w'.cell? ⟨b2, o2, none⟩ = some (.int .i64 (B.part 0).level) ∧ w'.cell? ⟨b2, o2 + 1, none⟩ = some (.bool (B.part 0).special) ∧ w'.cell? ⟨b2, o2 + 2, none⟩ = some (.slice r2 (B.part 0).rows.length c2) ∧ w'.cell? ⟨b2, o2 + 3, none⟩ = some (.int .i64 (B.part 1).level) ∧ w'.cell? ⟨b2, o2 + 3 + 1, none⟩ = some (.bool (B.part 1).special) ∧ w'.cell? ⟨b2, o2 + 3 + 2, none⟩ = some (.slice r4 (B.part 1).rows.length c4)) := Lib.hid (fun w' hb => by
        obtain ⟨e0, e1, e2⟩ := el_cells ((HD_W1.out.below HV_W2.out).below hb)
        exact ⟨(HG_W2.out.below hb).cell 2, e0, e1, e2, HSK.out _ (HZ_W2.out.trans (hb.mono HZ_W2.out.size))⟩)
      have HT2 : Hid (∀ w', Below W2.heap.size W2 w' → Below w.heap.size w w') := Lib.hid (fun w' hb => HT.out _ (HZ_W2.out.trans (hb.mono HZ_W2.out.size)))
      have HN2 : Hid (Below W2.heap.size W2 W2) := Lib.hid (Below.refl _ _)
      have h91 : g9 < W2.heap.size := by omega
      have h92 : w.heap.size + 1 + 1 + 1 < g9 := by omega
      have HG9 := Lib.hid hg9
      clear hW2 hg9
      have hS : (fun w' : World => w'.cell? ⟨g9, 2, none⟩ = some (.slice none 0 0) ∧ w'.cell? ⟨d8, 0, none⟩ = some (.int .i64 E1.level) ∧ w'.cell? ⟨d8, 1, none⟩ = some (.bool E1.special) ∧ w'.cell? ⟨d8, 2, none⟩ = some (.slice a1 E1.rows.length k1) ∧ w'.cell? ⟨w.heap.size, 0, none⟩ = some (.int .i64 p.n) ∧ w'.cell? ⟨w.heap.size, 1, none⟩ = some (.int .u32 (p.prime : Int)) ∧ w'.cell? ⟨w.heap.size, 2, none⟩ = some (.int .i64 p.power) ∧ w'.cell? ⟨w.heap.size, 3, none⟩ = some (.slice ca p.chain.length cc) ∧ w'.cell? ⟨w.heap.size, 4, none⟩ = some (.int .u32 (p.special : Int)) ∧ w'.cell? ⟨w.heap.size, 5, none⟩ = some (.int .i64 p.weight) ∧ w'.cell? ⟨w.heap.size, 6, none⟩ = some (.int .u32 (p.err : Int)) ∧ w'.cell? ⟨w.heap.size + 1, 0, none⟩ = some (.int .i64 A.level) ∧ w'.cell? ⟨w.heap.size + 1, 1, none⟩ = some (.int .i64 A.exponent) ∧ w'.cell? ⟨w.heap.size + 1, 2, none⟩ = some (.slice (some ⟨b1, o1, none⟩) 2 cA) ∧ w'.cell? ⟨w.heap.size + 1 + 1, 2, none⟩ = some (.slice (some ⟨b2, o2, none⟩) 2 cB) ∧ w'.cell? ⟨b1, o1, none⟩ = some (.int .i64 (A.part 0).level) ∧ w'.cell? ⟨b1, o1 + 1, none⟩ = some (.bool (A.part 0).special) ∧ w'.cell? ⟨b1, o1 + 2, none⟩ = some (.slice r1 (A.part 0).rows.length c1) ∧ w'.cell? ⟨b1, o1 + 3, none⟩ = some (.int .i64 (A.part 1).level) ∧ w'.cell? ⟨b1, o1 + 3 + 1, none⟩ = some (.bool (A.part 1).special) ∧ w'.cell? ⟨b1, o1 + 3 + 2, none⟩ = some (.slice r3 (A.part 1).rows.length c3) ∧ w'.cell? ⟨b2, o2, none⟩ = some (.int .i64 (B.part 0).level) ∧ w'.cell? ⟨b2, o2 + 1, none⟩ = some (.bool (B.part 0).special) ∧ w'.cell? ⟨b2, o2 + 2, none⟩ = some (.slice r2 (B.part 0).rows.length c2) ∧ w'.cell? ⟨b2, o2 + 3, none⟩ = some (.int .i64 (B.part 1).level) ∧ w'.cell? ⟨b2, o2 + 3 + 1, none⟩ = some (.bool (B.part 1).special) ∧ w'.cell? ⟨b2, o2 + 3 + 2, none⟩ = some (.slice r4 (B.part 1).rows.length c4)) W2.drew := HSK2.out _ (by with_reducible (repeat first | exact bR _ _ | assumption | exact ho (by assumption) | refine bD ?_ | refine bN ?_ _ | refine bA ?_ ?_ _ | refine bS ?_ ?_ _) <;> (first | omega | (simp <;> omega)))
      refine wp_region_L (fun w' => w'.cell? ⟨g9, 2, none⟩ = some (.slice none 0 0) ∧ w'.cell? ⟨d8, 0, none⟩ = some (.int .i64 E1.level) ∧ w'.cell? ⟨d8, 1, none⟩ = some (.bool E1.special) ∧ w'.cell? ⟨d8, 2, none⟩ = some (.slice a1 E1.rows.length k1) ∧ w'.cell? ⟨w.heap.size, 0, none⟩ = some (.int .i64 p.n) ∧ w'.cell? ⟨w.heap.size, 1, none⟩ = some (.int .u32 (p.prime : Int)) ∧ w'.cell? ⟨w.heap.size, 2, none⟩ = some (.int .i64 p.power) ∧ w'.cell? ⟨w.heap.size, 3, none⟩ = some (.slice ca p.chain.length cc) ∧ w'.cell? ⟨w.heap.size, 4, none⟩ = some (.int .u32 (p.special : Int)) ∧ w'.cell? ⟨w.heap.size, 5, none⟩ = some (.int .i64 p.weight) ∧ w'.cell? ⟨w.heap.size, 6, none⟩ = some (.int .u32 (p.err : Int)) ∧ w'.cell? ⟨w.heap.size + 1, 0, none⟩ = some (.int .i64 A.level) ∧ w'.cell? ⟨w.heap.size + 1, 1, none⟩ = some (.int .i64 A.exponent) ∧ w'.cell? ⟨w.heap.size + 1, 2, none⟩ = some (.slice (some ⟨b1, o1, none⟩) 2 cA) ∧ w'.cell? ⟨w.heap.size + 1 + 1, 2, none⟩ = some (.slice (some ⟨b2, o2, none⟩) 2 cB) ∧ w'.cell? ⟨b1, o1, none⟩ = some (.int .i64 (A.part 0).level) ∧ w'.cell? ⟨b1, o1 + 1, none⟩ = some (.bool (A.part 0).special) ∧ w'.cell? ⟨b1, o1 + 2, none⟩ = some (.slice r1 (A.part 0).rows.length c1) ∧ w'.cell? ⟨b1, o1 + 3, none⟩ = some (.int .i64 (A.part 1).level) ∧ w'.cell? ⟨b1, o1 + 3 + 1, none⟩ = some (.bool (A.part 1).special) ∧ w'.cell? ⟨b1, o1 + 3 + 2, none⟩ = some (.slice r3 (A.part 1).rows.length c3) ∧ w'.cell? ⟨b2, o2, none⟩ = some (.int .i64 (B.part 0).level) ∧ w'.cell? ⟨b2, o2 + 1, none⟩ = some (.bool (B.part 0).special) ∧ w'.cell? ⟨b2, o2 + 2, none⟩ = some (.slice r2 (B.part 0).rows.length c2) ∧ w'.cell? ⟨b2, o2 + 3, none⟩ = some (.int .i64 (B.part 1).level) ∧ w'.cell? ⟨b2, o2 + 3 + 1, none⟩ = some (.bool (B.part 1).special) ∧ w'.cell? ⟨b2, o2 + 3 + 2, none⟩ = some (.slice r4 (B.part 1).rows.length c4)) 26 (by kernel_rfl) (by kernel_rfl) (by kernel_rfl) ?_
      refine tJ 0 (v := ?_) (by assumption) ?_ ?_
      rotate_left
      · (intro w h; (try dsimp only at h); go_simp; try with_reducible rfl)
      try simp only [Act.put, gA, gB, gC, sA, sB, sC]
      refine tJ 1 (v := ?_) (by assumption) ?_ ?_
      rotate_left
      · (intro w h; (try dsimp only at h); go_simp; try with_reducible rfl)
      try simp only [Act.put, gA, gB, gC, sA, sB, sC]
      refine tJ 2 (v := ?_) (by assumption) ?_ ?_
      rotate_left
      · (intro w h; (try dsimp only at h); go_simp; try with_reducible rfl)
      try simp only [Act.put, gA, gB, gC, sA, sB, sC]
      refine tJ 3 (v := ?_) (by assumption) ?_ ?_
      rotate_left
      · (intro w h; (try dsimp only at h); go_simp; try with_reducible rfl)
      try simp only [Act.put, gA, gB, gC, sA, sB, sC]
      refine tJ 4 (v := ?_) (by assumption) ?_ ?_
      rotate_left
      · (intro w h; (try dsimp only at h); go_simp; try with_reducible rfl)
      try simp only [Act.put, gA, gB, gC, sA, sB, sC]
      refine tJ 5 (v := ?_) (by assumption) ?_ ?_
      rotate_left
      · (intro w h; (try dsimp only at h); go_simp; try with_reducible rfl)
      try simp only [Act.put, gA, gB, gC, sA, sB, sC]
      refine tJ 6 (v := ?_) (by assumption) ?_ ?_
      rotate_left
      · (intro w h; (try dsimp only at h); go_simp; try with_reducible rfl)
      try simp only [Act.put, gA, gB, gC, sA, sB, sC]
      refine tJ 7 (v := ?_) (by assumption) ?_ ?_
      rotate_left
      · (intro w h; (try dsimp only at h); go_simp; try with_reducible rfl)
      try simp only [Act.put, gA, gB, gC, sA, sB, sC]
      refine tJ 8 (v := ?_) (by assumption) ?_ ?_
      rotate_left
      · (intro w h; (try dsimp only at h); go_simp; try with_reducible rfl)
      try simp only [Act.put, gA, gB, gC, sA, sB, sC]
      refine tJ 9 (v := ?_) (by assumption) ?_ ?_
      rotate_left
      · (intro w h; (try dsimp only at h); go_simp; try with_reducible rfl)
      try simp only [Act.put, gA, gB, gC, sA, sB, sC]
      refine tJ 10 (v := ?_) (by assumption) ?_ ?_
      rotate_left
      · (intro w h; (try dsimp only at h); go_simp; try with_reducible rfl)
      try simp only [Act.put, gA, gB, gC, sA, sB, sC]
      refine tJ 12 (v := ?_) (by assumption) ?_ ?_
      rotate_left
      · (intro w h; (try dsimp only at h); go_simp; try with_reducible rfl)
      try simp only [Act.put, gA, gB, gC, sA, sB, sC]
      refine tJ 13 (v := ?_) (by assumption) ?_ ?_
      rotate_left
      · (intro w h; (try dsimp only at h); go_simp; try with_reducible rfl)
      try simp only [Act.put, gA, gB, gC, sA, sB, sC]
      refine tJ 14 (v := ?_) (by assumption) ?_ ?_
      rotate_left
      · (intro w h; (try dsimp only at h); go_simp; try with_reducible rfl)
      try simp only [Act.put, gA, gB, gC, sA, sB, sC]
      refine tJ 15 (v := ?_) (by assumption) ?_ ?_
      rotate_left
      · (intro w h; (try dsimp only at h); go_simp; try with_reducible rfl)
      try simp only [Act.put, gA, gB, gC, sA, sB, sC]
      refine tJ 16 (v := ?_) (by assumption) ?_ ?_
      rotate_left
      · (intro w h; (try dsimp only at h); go_simp; try with_reducible rfl)
      try simp only [Act.put, gA, gB, gC, sA, sB, sC]
      refine tJ 17 (v := ?_) (by assumption) ?_ ?_
      rotate_left
      · (intro w h; (try dsimp only at h); go_simp; try with_reducible rfl)
      try simp only [Act.put, gA, gB, gC, sA, sB, sC]
      refine tJ 18 (v := ?_) (by assumption) ?_ ?_
      rotate_left
      · (intro w h; (try dsimp only at h); go_simp; try with_reducible rfl)
      try simp only [Act.put, gA, gB, gC, sA, sB, sC]
      refine tJ 19 (v := ?_) (by assumption) ?_ ?_
      rotate_left
      · (intro w h; (try dsimp only at h); go_simp; try with_reducible rfl)
      try simp only [Act.put, gA, gB, gC, sA, sB, sC]
      refine tJ 20 (v := ?_) (by assumption) ?_ ?_
      rotate_left
      · (intro w h; (try dsimp only at h); go_simp; try with_reducible rfl)
      try simp only [Act.put, gA, gB, gC, sA, sB, sC]
      refine tJ 21 (v := ?_) (by assumption) ?_ ?_
      rotate_left
      · (intro w h; (try dsimp only at h); go_simp; try with_reducible rfl)
      try simp only [Act.put, gA, gB, gC, sA, sB, sC]
      refine wpL.eff 11 rfl (by kernel_rfl) rfl ?_
      intro K hK
      go_wp2_with fail
      (with_reducible refine Calls.mono (H4.out _ (HT2.out _ (by with_reducible (repeat first | exact bR _ _ | assumption | exact ho (by assumption) | refine bD ?_ | refine bN ?_ _ | refine bA ?_ ?_ _ | refine bS ?_ ?_ _) <;> (first | omega | (simp <;> omega))))) ?_)
      rintro e w6 ⟨⟨v, rfl, a0, k0, rfl, hO, hO1, hO2⟩, hb⟩
      have HR_w6 : Hid (RdRN w6 W2.heap.size a0 E0.rows) := Lib.hid (hO.mono (by (first | omega | (simp only [World.size_alloc, sz_set, sz_drew, sz_drewN]; done) | (simp only [World.size_alloc, sz_set, sz_drew, sz_drewN]; omega))))
      have HZ_w6 : Hid (Below W2.heap.size W2 w6) := Lib.hid (below_step' (by with_reducible (repeat first | exact bR _ _ | assumption | exact ho (by assumption) | refine bD ?_ | refine bN ?_ _ | refine bA ?_ ?_ _ | refine bS ?_ ?_ _) <;> (first | omega | (simp <;> omega))) hb)
      have HB_0 := Lib.hid (And.intro hO1 hO2)
      have HN6 : Hid (Below w6.heap.size w6 w6) := Lib.hid (Below.refl _ _)
      have hs6 := hb.size
      try simp only [World.size_alloc, sz_set, sz_drew, sz_drewN] at hs6
      clear hO hb hO1 hO2
      refine hK _ _ (HSK2.out _ (by with_reducible (repeat first | exact bR _ _ | assumption | exact ho (by assumption) | refine bD ?_ | refine bN ?_ _ | refine bA ?_ ?_ _ | refine bS ?_ ?_ _) <;> (first | omega | (simp <;> omega)))) (fun hS => ?_)
      clear hK
      try simp only [Act.put, gA, gB, gC, sA, sB, sC]
      refine wpL.eff 22 rfl (by kernel_rfl) rfl ?_
      intro K hK
      go_wp2_with fail
      (with_reducible refine Calls.mono (H5.out _ (HT2.out _ (by with_reducible (repeat first | exact bR _ _ | assumption | exact ho (by assumption) | refine bD ?_ | refine bN ?_ _ | refine bA ?_ ?_ _ | refine bS ?_ ?_ _) <;> (first | omega | (simp <;> omega))))) ?_)
      rintro e w7 ⟨⟨v, rfl, a2, k2, rfl, hO, hO1, hO2⟩, hb⟩
      have HR_w7 : Hid (RdRN w7 W2.heap.size a2 E2.rows) := Lib.hid (hO.mono (by (first | omega | (simp only [World.size_alloc, sz_set, sz_drew, sz_drewN]; done) | (simp only [World.size_alloc, sz_set, sz_drew, sz_drewN]; omega))))
      have HZ_w7 : Hid (Below W2.heap.size W2 w7) := Lib.hid (below_step' (by with_reducible (repeat first | exact bR _ _ | assumption | exact ho (by assumption) | refine bD ?_ | refine bN ?_ _ | refine bA ?_ ?_ _ | refine bS ?_ ?_ _) <;> (first | omega | (simp <;> omega))) hb)
      have HV_w7 : Hid (Below w6.heap.size w6 w7) := Lib.hid (below_step' (by with_reducible (repeat first | exact bR _ _ | assumption | exact ho (by assumption) | refine bD ?_ | refine bN ?_ _ | refine bA ?_ ?_ _ | refine bS ?_ ?_ _) <;> (first | omega | (simp <;> omega))) hb)
      have HB_2 := Lib.hid (And.intro hO1 hO2)
      have hs7 := hb.size
      try simp only [World.size_alloc, sz_set, sz_drew, sz_drewN] at hs7
      clear hO hb hO1 hO2
      refine hK _ _ (HSK2.out _ (by with_reducible (repeat first | exact bR _ _ | assumption | exact ho (by assumption) | refine bD ?_ | refine bN ?_ _ | refine bA ?_ ?_ _ | refine bS ?_ ?_ _) <;> (first | omega | (simp <;> omega)))) (fun hS => ?_)
      clear hK
      try simp only [Act.put, gA, gB, gC, sA, sB, sC]
      refine wpL.eff 23 rfl (by kernel_rfl) rfl ?_
      intro K hK
      go_wp2
      refine hK _ _ (HSK2.out _ (by with_reducible (repeat first | exact bR _ _ | assumption | exact ho (by assumption) | refine bD ?_ | refine bN ?_ _ | refine bA ?_ ?_ _ | refine bS ?_ ?_ _) <;> (first | omega | (simp <;> omega)))) (fun hS => ?_)
      clear hK
      try simp only [Act.put, gA, gB, gC, sA, sB, sC]
      refine wpL.eff 24 rfl (by kernel_rfl) rfl ?_
      intro K hK
      obtain ⟨h, cap, cs, rest, w8, hrun, hbk, hcs, hh, hc1, hc2, hb8⟩ := app_three (w7.alloc (.cells #[.int .i64 E0.level, .bool E0.special, .slice a0 E0.rows.length k0, .int .i64 E1.level, .bool E1.special, .slice a1 E1.rows.length k1, .int .i64 E2.level, .bool E2.special, .slice a2 E2.rows.length k2] 54)) w7.heap.size [.int .i64 E0.level, .bool E0.special, .slice a0 E0.rows.length k0, .int .i64 E1.level, .bool E1.special, .slice a1 E1.rows.length k1, .int .i64 E2.level, .bool E2.special, .slice a2 E2.rows.length k2] rfl (by simp [Value.oneCell']) (Blk.new _ _ _)
      have HBK := Lib.hid hbk
      have HCS := Lib.hid hcs
      have HV_w8 : Hid (Below w7.heap.size w7 w8) := Lib.hid (below_step' ((Below.refl _ w7).alloc (Nat.le_refl _) _) hb8)
      have HZ_w8 : Hid (Below W2.heap.size W2 w8) := Lib.hid (HZ_w7.out.trans (HV_w8.out.mono HZ_w7.out.size))
      have hs8 := HV_w8.out.size
      rw [World.size_alloc] at hh
      clear hbk hcs hb8
      refine wp_append_run (.tmp 56) (.tmp 78) 26 rfl _ _ rfl rfl _ _ hrun ?_
      refine hK _ _ (HSK2.out _ HZ_w8.out) (fun hS => ?_)
      clear hK
      try simp only [Act.put, gA, gB, gC, sA, sB, sC]
      refine tJ 25 (v := ?_) (by assumption) ?_ ?_
      rotate_left
      · (intro w h; (try dsimp only at h); go_simp; try with_reducible rfl)
      try simp only [Act.put, gA, gB, gC, sA, sB, sC]
      clear hS
      refine wpL.last 26 rfl (by kernel_rfl) rfl (by kernel_rfl) rfl ?_
      have h9 := HG_W2.out.below HZ_w8.out
      obtain ⟨m0, m1, m2⟩ := el_cells h9
      have i2 := h9.free 2
      have HF : Hid (∀ x, Turn w8 x [g9, w.heap.size + 1 + 1 + 1] → GiveCi w.heap.size ⟨A.level, A.exponent, [E0, E1, E2]⟩ (.agg #[.int .i64 A.level, .int .i64 A.exponent, .slice (some ⟨h, 0, none⟩) 3 cap]) x ∧ Below w.heap.size w x) := Lib.hid (fun x hT => by
        have hl : ∀ B, g9 < B → ∀ y, y ∈ [g9, w.heap.size + 1 + 1 + 1] → y < B := fun B hB y hy => by simp at hy; omega
        have T1 : Turn W1 x [w.heap.size + 1 + 1 + 1] := by
          have hu := Turn.trans' (S := []) (Turn.of_below (HV_W2.out.trans (HZ_w8.out.mono (by omega)))) hT
          exact ⟨hu.os, hu.tape, hu.output, hu.size, fun i hi hn => hu.block i hi (by have := HG9.out; simp at hn ⊢; omega)⟩
        refine ⟨⟨some ⟨h, 0, none⟩, cap, rfl, ?_, hc1, hc2⟩, ?_⟩
        · exact rdEN_three (HBK.out.turn hT (by simp; omega)) HCS.out (by omega) (((HR_w6.out.below (HV_w7.out.trans (HV_w8.out.mono (by omega)))).turn hT (hl _ h91)).mono (by omega)) ((HR_W1.out.turn T1 (fun y hy => by simp at hy; omega)).mono (by omega)) (((HR_w7.out.below HV_w8.out).turn hT (hl _ h91)).mono (by omega)) HB_0.out.1 HB_0.out.2 HB_1.out.1 HB_1.out.2 HB_2.out.1 HB_2.out.2
        · exact (HT2.out _ HZ_w8.out).trans (hT.belowN (by omega) (fun y hy => by simp at hy; omega)))
      have h3 := ((HO0.out.below HZ_W2.out).below HZ_w8.out)
      obtain ⟨n0, n1, n2⟩ := el_cells h3
      have j0 := h3.free 0
      have j1 := h3.free 1
      have j2 := h3.free 2
      clear h9 h3
      go_wp2
      have TF := ((((Turn.refl w8 [g9, w.heap.size + 1 + 1 + 1]).setCell (p := ⟨g9, 2, none⟩) (.inl (by simp)) (.slice (some ⟨h, 0, none⟩) 3 cap)).setCell (p := ⟨w.heap.size + 1 + 1 + 1, 0, none⟩) (.inl (by simp)) (.int .i64 A.level)).setCell (p := ⟨w.heap.size + 1 + 1 + 1, 1, none⟩) (.inl (by simp)) (.int .i64 A.exponent)).setCell (p := ⟨w.heap.size + 1 + 1 + 1, 2, none⟩) (.inl (by simp)) (.slice (some ⟨h, 0, none⟩) 3 cap)
      obtain ⟨z1, z2⟩ := HF.out _ TF
      have n9 : g9 ≠ w.heap.size + 1 + 1 + 1 := by omega
      have n8 : w.heap.size + 1 + 1 + 1 ≠ g9 := by omega
      refine bodyPost_ret (v := .tuple #[.agg #[.int .i64 A.level, .int .i64 A.exponent, .slice (some ⟨h, 0, none⟩) 3 cap], .int .i64 0]) (by simp [results, Tryz.results11, go_sem, n0, n1, n2, m0, m1, m2, n8, n9]) rfl ⟨⟨_, rfl, z1⟩, z2⟩
  · go_wp2
    refine hK _ _ (HSK.out _ (by with_reducible (repeat first | exact bR _ _ | assumption | exact ho (by assumption) | refine bD ?_ | refine bN ?_ _ | refine bA ?_ ?_ _ | refine bS ?_ ?_ _) <;> (first | omega | (simp <;> omega)))) (fun hS => ?_)
    clear hK
    try simp only [Act.put, gA, gB, gC, sA, sB, sC]
    refine wpL.eff 10 rfl (by kernel_rfl) rfl ?_
    intro K hK

    go_wp2_with fail
    (with_reducible refine Calls.mono (H1.out _ (HT.out _ (by with_reducible (repeat first | exact bR _ _ | assumption | exact ho (by assumption) | refine bD ?_ | refine bN ?_ _ | refine bA ?_ ?_ _ | refine bS ?_ ?_ _) <;> (first | omega | (simp <;> omega))))) ?_)
    rintro e w3 ⟨⟨v, rfl, aA, kA, rfl, hO, hO1, hO2⟩, hb⟩
    have HR_w3 : Hid (RdRN w3 (W0.heap.size + 1) aA EA.rows) := Lib.hid (hO.mono (by (first | omega | (simp only [World.size_alloc, sz_set, sz_drew, sz_drewN]; done) | (simp only [World.size_alloc, sz_set, sz_drew, sz_drewN]; omega))))
    have HV_w3 : Hid (Below W0.heap.size W0 w3) := Lib.hid (below_step' (by with_reducible (repeat first | exact bR _ _ | assumption | exact ho (by assumption) | refine bD ?_ | refine bN ?_ _ | refine bA ?_ ?_ _ | refine bS ?_ ?_ _) <;> (first | omega | (simp <;> omega))) hb)
    have HZ_w3 : Hid (Below W0.heap.size W0 w3) := Lib.hid (below_step' (by with_reducible (repeat first | exact bR _ _ | assumption | exact ho (by assumption) | refine bD ?_ | refine bN ?_ _ | refine bA ?_ ?_ _ | refine bS ?_ ?_ _) <;> (first | omega | (simp <;> omega))) hb)
    have hs_w3 := hb.size
    try simp only [World.size_alloc, sz_set, sz_drew, sz_drewN] at hs_w3
    have hD0 : Blk w3 (W0.heap.size) 54 #[.int .i64 0, .bool false, .slice none 0 0] := Blk.below (by exact (by repeat (first | exact Blk.newAt (by (first | omega | (simp only [World.size_alloc, sz_set, sz_drew, sz_drewN]; done) | (simp only [World.size_alloc, sz_set, sz_drew, sz_drewN]; omega))) | (with_reducible refine Blk.alloc ?_ _) | (with_reducible refine Blk.drew ?_) | (with_reducible refine Blk.drewN ?_ _) | (with_reducible refine Blk.belowB ?_ (Hid.out (by assumption)) ?szk; case szk => (first | omega | (simp only [World.size_alloc, sz_set, sz_drew, sz_drewN]; done) | (simp only [World.size_alloc, sz_set, sz_drew, sz_drewN]; omega)))))) hb
    have HD_w3 := Lib.hid hD0
    clear hD0
    clear hO hb

    refine hK _ _ (HSK.out _ (by with_reducible (repeat first | exact bR _ _ | assumption | exact ho (by assumption) | refine bD ?_ | refine bN ?_ _ | refine bA ?_ ?_ _ | refine bS ?_ ?_ _) <;> (first | omega | (simp <;> omega)))) (fun hS => ?_)
    clear hK
    try simp only [Act.put, gA, gB, gC, sA, sB, sC]
    refine wpL.eff 20 rfl (by kernel_rfl) rfl ?_
    intro K hK

    go_wp2_with fail
    (with_reducible refine Calls.mono (H2.out _ (HT.out _ (by with_reducible (repeat first | exact bR _ _ | assumption | exact ho (by assumption) | refine bD ?_ | refine bN ?_ _ | refine bA ?_ ?_ _ | refine bS ?_ ?_ _) <;> (first | omega | (simp <;> omega))))) ?_)
    rintro e w4 ⟨⟨v, rfl, aB, kB, rfl, hO, hO1, hO2⟩, hb⟩
    have HR_w4 : Hid (RdRN w4 (w3.heap.size) aB EB.rows) := Lib.hid (hO.mono (by (first | omega | (simp only [World.size_alloc, sz_set, sz_drew, sz_drewN]; done) | (simp only [World.size_alloc, sz_set, sz_drew, sz_drewN]; omega))))
    have HV_w4 : Hid (Below w3.heap.size w3 w4) := Lib.hid (below_step' (by with_reducible (repeat first | exact bR _ _ | assumption | exact ho (by assumption) | refine bD ?_ | refine bN ?_ _ | refine bA ?_ ?_ _ | refine bS ?_ ?_ _) <;> (first | omega | (simp <;> omega))) hb)
    have HZ_w4 : Hid (Below W0.heap.size W0 w4) := Lib.hid (below_step' (by with_reducible (repeat first | exact bR _ _ | assumption | exact ho (by assumption) | refine bD ?_ | refine bN ?_ _ | refine bA ?_ ?_ _ | refine bS ?_ ?_ _) <;> (first | omega | (simp <;> omega))) hb)
    have hs_w4 := hb.size
    try simp only [World.size_alloc, sz_set, sz_drew, sz_drewN] at hs_w4
    have hD0 : Blk w4 (W0.heap.size) 54 #[.int .i64 0, .bool false, .slice none 0 0] := HD_w3.out.below HV_w4.out
    have HD_w4 := Lib.hid hD0
    clear hD0
    clear hO hb

    refine hK _ _ (HSK.out _ (by with_reducible (repeat first | exact bR _ _ | assumption | exact ho (by assumption) | refine bD ?_ | refine bN ?_ _ | refine bA ?_ ?_ _ | refine bS ?_ ?_ _) <;> (first | omega | (simp <;> omega)))) (fun hS => ?_)
    clear hK
    try simp only [Act.put, gA, gB, gC, sA, sB, sC]
    have HXA : Hid (RdR w4 aA EA.rows) := Lib.hid ((HR_w3.out.below HV_w4.out).below (Below.refl _ w4)).rd
    have HXB : Hid (RdR w4 aB EB.rows) := Lib.hid (HR_w4.out.below (Below.refl _ w4)).rd
    refine wpL.eff 21 rfl (by kernel_rfl) rfl ?_
    intro K hK

    go_wp2_with fail
    (with_reducible refine Calls.mono (H3.out _ (HT.out _ (by with_reducible (repeat first | exact bR _ _ | assumption | exact ho (by assumption) | refine bD ?_ | refine bN ?_ _ | refine bA ?_ ?_ _ | refine bS ?_ ?_ _) <;> (first | omega | (simp <;> omega)))) _ _ _ _ HXA.out HXB.out) ?_)
    rintro e w5 ⟨⟨v, rfl, a1, k1, rfl, hO, hO1, hO2⟩, hb⟩
    have HR_w5 : Hid (RdRN w5 (w4.heap.size) a1 E1.rows) := Lib.hid (hO.mono (by (first | omega | (simp only [World.size_alloc, sz_set, sz_drew, sz_drewN]; done) | (simp only [World.size_alloc, sz_set, sz_drew, sz_drewN]; omega))))
    have HV_w5 : Hid (Below w4.heap.size w4 w5) := Lib.hid (below_step' (by with_reducible (repeat first | exact bR _ _ | assumption | exact ho (by assumption) | refine bD ?_ | refine bN ?_ _ | refine bA ?_ ?_ _ | refine bS ?_ ?_ _) <;> (first | omega | (simp <;> omega))) hb)
    have HZ_w5 : Hid (Below W0.heap.size W0 w5) := Lib.hid (below_step' (by with_reducible (repeat first | exact bR _ _ | assumption | exact ho (by assumption) | refine bD ?_ | refine bN ?_ _ | refine bA ?_ ?_ _ | refine bS ?_ ?_ _) <;> (first | omega | (simp <;> omega))) hb)
    have hs_w5 := hb.size
    try simp only [World.size_alloc, sz_set, sz_drew, sz_drewN] at hs_w5
    have hD0 : Blk w5 (W0.heap.size) 54 #[.int .i64 0, .bool false, .slice none 0 0] := HD_w4.out.below HV_w5.out
    have HD_w5 := Lib.hid hD0
    clear hD0
    have HB_1 := Lib.hid (And.intro hO1 hO2)
    clear hO hb

    refine hK _ _ (HSK.out _ (by with_reducible (repeat first | exact bR _ _ | assumption | exact ho (by assumption) | refine bD ?_ | refine bN ?_ _ | refine bA ?_ ?_ _ | refine bS ?_ ?_ _) <;> (first | omega | (simp <;> omega)))) (fun hS => ?_)
    clear hK
    try simp only [Act.put, gA, gB, gC, sA, sB, sC]
    refine wpL.eff 23 rfl (by kernel_rfl) rfl ?_
    intro K hK
    obtain ⟨t0, t1, t2⟩ := el_cells HD_w5.out
    have g0 := HD_w5.out.free 0
    have g1 := HD_w5.out.free 1
    have g2 := HD_w5.out.free 2

    go_wp2
    refine hK _ _ (HSK.out _ (by with_reducible (repeat first | exact bR _ _ | assumption | exact ho (by assumption) | refine bD ?_ | refine bN ?_ _ | refine bA ?_ ?_ _ | refine bS ?_ ?_ _) <;> (first | omega | (simp <;> omega)))) (fun hS => ?_)
    clear hK
    try simp only [Act.put, gA, gB, gC, sA, sB, sC]
    refine wpL.done (by kernel_rfl) ?_
    refine gen_w _ _ (fun W1 hW1 => ?_)
    obtain ⟨d8, hd8⟩ : ∃ d, W0.heap.size = d := ⟨_, rfl⟩
    rw [hd8]
    have HZ_W1 : Hid (Below W0.heap.size W0 W1) := Lib.hid (by rw [hW1]; exact (by with_reducible (repeat first | exact bR _ _ | assumption | exact ho (by assumption) | refine bD ?_ | refine bN ?_ _ | refine bA ?_ ?_ _ | refine bS ?_ ?_ _) <;> (first | omega | (simp <;> omega))))
    have HD_W1 : Hid (Blk W1 d8 54 #[.int .i64 E1.level, .bool E1.special, .slice a1 E1.rows.length k1]) := Lib.hid (by rw [hW1, ← hd8]; exact ((HD_w5.out.set 0 _).set 1 _).set 2 _)
    have HR_W1 : Hid (RdRN W1 W0.heap.size a1 E1.rows) := Lib.hid (by rw [hW1]; exact ((HR_w5.out.turn (S := [W0.heap.size]) ((((Turn.refl w5 _).setCell (p := ⟨W0.heap.size, 0, none⟩) (.inl (by simp)) _).setCell (p := ⟨W0.heap.size, 1, none⟩) (.inl (by simp)) _).setCell (p := ⟨W0.heap.size, 2, none⟩) (.inl (by simp)) _) (fun x hx => by (try simp only [List.mem_singleton] at hx ⊢); omega)).mono (by omega)))
    have hz_W1 : W0.heap.size < W1.heap.size := by rw [hW1]; (first | omega | (simp only [World.size_alloc, sz_set, sz_drew, sz_drewN]; done) | (simp only [World.size_alloc, sz_set, sz_drew, sz_drewN]; omega))
    have hd_W1 : d8 < W1.heap.size := HD_W1.out.lt
    have hd_W0 : W0.heap.size ≤ d8 := by omega
    clear hW1 hd8 hS
    try clear t0 t1 t2 g0 g1 g2
    try clear HR_w3
    try clear HR_w4
    try clear HV_w3
    try clear HV_w4
    try clear HV_w5
    try clear HZ_w3
    try clear HZ_w4
    try clear HZ_w5
    try clear hs_w3
    try clear hs_w4
    try clear hs_w5
    try clear HD_w3
    try clear HD_w4
    try clear HD_w5
    try clear HXA
    try clear HXB
    try clear HR_w5

    obtain ⟨_, _, _, _, _, _, _, y0, y1, _⟩ := HSK.out _ HZ_W1.out
    go_wp2
    clear y0 y1
    refine gen_w _ _ (fun W2 hW2 => ?_)
    obtain ⟨g9, hg9⟩ : ∃ d, W1.heap.size = d := ⟨_, rfl⟩
    rw [hg9]
    have HZ_W2 : Hid (Below W0.heap.size W0 W2) := Lib.hid (by rw [hW2]; exact (by with_reducible (repeat first | exact bR _ _ | assumption | exact ho (by assumption) | refine bD ?_ | refine bN ?_ _ | refine bA ?_ ?_ _ | refine bS ?_ ?_ _) <;> (first | omega | (simp <;> omega))))
    have HG_W2 : Hid (Blk W2 g9 28 #[.int .i64 A.level, .int .i64 A.exponent, .slice none 0 0]) := Lib.hid (by rw [hW2, ← hg9]; exact Blk.new _ _ _)
    have HV_W2 : Hid (Below W1.heap.size W1 W2) := Lib.hid (by rw [hW2]; exact (by with_reducible (repeat first | exact bR _ _ | assumption | exact ho (by assumption) | refine bD ?_ | refine bN ?_ _ | refine bA ?_ ?_ _ | refine bS ?_ ?_ _) <;> (first | omega | (simp <;> omega))))
    have hz_W2 : W1.heap.size < W2.heap.size := by rw [hW2]; (first | omega | (simp only [World.size_alloc, sz_set, sz_drew, sz_drewN]; done) | (simp only [World.size_alloc, sz_set, sz_drew, sz_drewN]; omega))
    have HSK2 : Hid (∀ w', Below W2.heap.size W2 w' → w'.cell? ⟨g9, 2, none⟩ = some (.slice none 0 0) ∧ w'.cell? ⟨d8, 0, none⟩ = some (.int .i64 E1.level) ∧ w'.cell? ⟨d8, 1, none⟩ = some (.bool E1.special) ∧ w'.cell? ⟨d8, 2, none⟩ = some (.slice a1 E1.rows.length k1) ∧ w'.cell? ⟨w.heap.size, 0, none⟩ = some (.int .i64 p.n) ∧ w'.cell? ⟨w.heap.size, 1, none⟩ = some (.int .u32 (p.prime : Int)) ∧ w'.cell? ⟨w.heap.size, 2, none⟩ = some (.int .i64 p.power) ∧ w'.cell? ⟨w.heap.size, 3, none⟩ = some (.slice ca p.chain.length cc) ∧ w'.cell? ⟨w.heap.size, 4, none⟩ = some (.int .u32 (p.special : Int)) ∧ w'.cell? ⟨w.heap.size, 5, none⟩ = some (.int .i64 p.weight) ∧ w'.cell? ⟨w.heap.size, 6, none⟩ = some (.int .u32 (p.err : Int)) ∧ w'.cell? ⟨w.heap.size + 1, 0, none⟩ = some (.int .i64 A.level) ∧ w'.cell? ⟨w.heap.size + 1, 1, none⟩ = some (.int .i64 A.exponent) ∧ w'.cell? ⟨w.heap.size + 1, 2, none⟩ = some (.slice (some ⟨b1, o1, none⟩) 2 cA) ∧ w'.cell? ⟨w.heap.size + 1 + 1, 2, none⟩ = some (.slice (some ⟨b2, o2, none⟩) 2 cB) ∧ w'.cell? ⟨b1, o1, none⟩ = some (.int .i64 (A.part 0).level) ∧ w'.cell? ⟨b1, o1 + 1, none⟩ = some (.bool (A.part 0).special) ∧ w'.cell? ⟨b1, o1 + 2, none⟩ = some (.slice r1 (A.part 0).rows.length c1) ∧ w'.cell? ⟨b1, o1 + 3, none⟩ = some (.int .i64 (A.part 1).level) ∧ w'.cell? ⟨b1, o1 + 3 + 1, none⟩ = some (.bool (A.part 1).special) ∧ w'.cell? ⟨b1, o1 + 3 + 2, none⟩ = some (.slice r3 (A.part 1).rows.length c3) ∧ w'.cell? ⟨b2, o2, none⟩ = some (.int .i64 (B.part 0).level) ∧ w'.cell? ⟨b2, o2 + 1, none⟩ = some (.bool (B.part 0).special) ∧ w'.cell? ⟨b2, o2 + 2, none⟩ = some (.slice r2 (B.part 0).rows.length c2) ∧ w'.cell? ⟨b2, o2 + 3, none⟩ = some (.int .i64 (B.part 1).level) ∧ w'.cell? ⟨b2, o2 + 3 + 1, none⟩ = some (.bool (B.part 1).special) ∧ w'.cell? ⟨b2, o2 + 3 + 2, none⟩ = some (.slice r4 (B.part 1).rows.length c4)) := Lib.hid (fun w' hb => by
      obtain ⟨e0, e1, e2⟩ := el_cells ((HD_W1.out.below HV_W2.out).below hb)
      exact ⟨(HG_W2.out.below hb).cell 2, e0, e1, e2, HSK.out _ (HZ_W2.out.trans (hb.mono HZ_W2.out.size))⟩)
    have HT2 : Hid (∀ w', Below W2.heap.size W2 w' → Below w.heap.size w w') := Lib.hid (fun w' hb => HT.out _ (HZ_W2.out.trans (hb.mono HZ_W2.out.size)))
    have HN2 : Hid (Below W2.heap.size W2 W2) := Lib.hid (Below.refl _ _)
    have h91 : g9 < W2.heap.size := by omega
    have h92 : w.heap.size + 1 + 1 + 1 < g9 := by omega
    have HG9 := Lib.hid hg9
    clear hW2 hg9
    have hS : (fun w' : World => w'.cell? ⟨g9, 2, none⟩ = some (.slice none 0 0) ∧ w'.cell? ⟨d8, 0, none⟩ = some (.int .i64 E1.level) ∧ w'.cell? ⟨d8, 1, none⟩ = some (.bool E1.special) ∧ w'.cell? ⟨d8, 2, none⟩ = some (.slice a1 E1.rows.length k1) ∧ w'.cell? ⟨w.heap.size, 0, none⟩ = some (.int .i64 p.n) ∧ w'.cell? ⟨w.heap.size, 1, none⟩ = some (.int .u32 (p.prime : Int)) ∧ w'.cell? ⟨w.heap.size, 2, none⟩ = some (.int .i64 p.power) ∧ w'.cell? ⟨w.heap.size, 3, none⟩ = some (.slice ca p.chain.length cc) ∧ w'.cell? ⟨w.heap.size, 4, none⟩ = some (.int .u32 (p.special : Int)) ∧ w'.cell? ⟨w.heap.size, 5, none⟩ = some (.int .i64 p.weight) ∧ w'.cell? ⟨w.heap.size, 6, none⟩ = some (.int .u32 (p.err : Int)) ∧ w'.cell? ⟨w.heap.size + 1, 0, none⟩ = some (.int .i64 A.level) ∧ w'.cell? ⟨w.heap.size + 1, 1, none⟩ = some (.int .i64 A.exponent) ∧ w'.cell? ⟨w.heap.size + 1, 2, none⟩ = some (.slice (some ⟨b1, o1, none⟩) 2 cA) ∧ w'.cell? ⟨w.heap.size + 1 + 1, 2, none⟩ = some (.slice (some ⟨b2, o2, none⟩) 2 cB) ∧ w'.cell? ⟨b1, o1, none⟩ = some (.int .i64 (A.part 0).level) ∧ w'.cell? ⟨b1, o1 + 1, none⟩ = some (.bool (A.part 0).special) ∧ w'.cell? ⟨b1, o1 + 2, none⟩ = some (.slice r1 (A.part 0).rows.length c1) ∧ w'.cell? ⟨b1, o1 + 3, none⟩ = some (.int .i64 (A.part 1).level) ∧ w'.cell? ⟨b1, o1 + 3 + 1, none⟩ = some (.bool (A.part 1).special) ∧ w'.cell? ⟨b1, o1 + 3 + 2, none⟩ = some (.slice r3 (A.part 1).rows.length c3) ∧ w'.cell? ⟨b2, o2, none⟩ = some (.int .i64 (B.part 0).level) ∧ w'.cell? ⟨b2, o2 + 1, none⟩ = some (.bool (B.part 0).special) ∧ w'.cell? ⟨b2, o2 + 2, none⟩ = some (.slice r2 (B.part 0).rows.length c2) ∧ w'.cell? ⟨b2, o2 + 3, none⟩ = some (.int .i64 (B.part 1).level) ∧ w'.cell? ⟨b2, o2 + 3 + 1, none⟩ = some (.bool (B.part 1).special) ∧ w'.cell? ⟨b2, o2 + 3 + 2, none⟩ = some (.slice r4 (B.part 1).rows.length c4)) W2.drew := HSK2.out _ (by with_reducible (repeat first | exact bR _ _ | assumption | exact ho (by assumption) | refine bD ?_ | refine bN ?_ _ | refine bA ?_ ?_ _ | refine bS ?_ ?_ _) <;> (first | omega | (simp <;> omega)))
    refine wp_region_L (fun w' => w'.cell? ⟨g9, 2, none⟩ = some (.slice none 0 0) ∧ w'.cell? ⟨d8, 0, none⟩ = some (.int .i64 E1.level) ∧ w'.cell? ⟨d8, 1, none⟩ = some (.bool E1.special) ∧ w'.cell? ⟨d8, 2, none⟩ = some (.slice a1 E1.rows.length k1) ∧ w'.cell? ⟨w.heap.size, 0, none⟩ = some (.int .i64 p.n) ∧ w'.cell? ⟨w.heap.size, 1, none⟩ = some (.int .u32 (p.prime : Int)) ∧ w'.cell? ⟨w.heap.size, 2, none⟩ = some (.int .i64 p.power) ∧ w'.cell? ⟨w.heap.size, 3, none⟩ = some (.slice ca p.chain.length cc) ∧ w'.cell? ⟨w.heap.size, 4, none⟩ = some (.int .u32 (p.special : Int)) ∧ w'.cell? ⟨w.heap.size, 5, none⟩ = some (.int .i64 p.weight) ∧ w'.cell? ⟨w.heap.size, 6, none⟩ = some (.int .u32 (p.err : Int)) ∧ w'.cell? ⟨w.heap.size + 1, 0, none⟩ = some (.int .i64 A.level) ∧ w'.cell? ⟨w.heap.size + 1, 1, none⟩ = some (.int .i64 A.exponent) ∧ w'.cell? ⟨w.heap.size + 1, 2, none⟩ = some (.slice (some ⟨b1, o1, none⟩) 2 cA) ∧ w'.cell? ⟨w.heap.size + 1 + 1, 2, none⟩ = some (.slice (some ⟨b2, o2, none⟩) 2 cB) ∧ w'.cell? ⟨b1, o1, none⟩ = some (.int .i64 (A.part 0).level) ∧ w'.cell? ⟨b1, o1 + 1, none⟩ = some (.bool (A.part 0).special) ∧ w'.cell? ⟨b1, o1 + 2, none⟩ = some (.slice r1 (A.part 0).rows.length c1) ∧ w'.cell? ⟨b1, o1 + 3, none⟩ = some (.int .i64 (A.part 1).level) ∧ w'.cell? ⟨b1, o1 + 3 + 1, none⟩ = some (.bool (A.part 1).special) ∧ w'.cell? ⟨b1, o1 + 3 + 2, none⟩ = some (.slice r3 (A.part 1).rows.length c3) ∧ w'.cell? ⟨b2, o2, none⟩ = some (.int .i64 (B.part 0).level) ∧ w'.cell? ⟨b2, o2 + 1, none⟩ = some (.bool (B.part 0).special) ∧ w'.cell? ⟨b2, o2 + 2, none⟩ = some (.slice r2 (B.part 0).rows.length c2) ∧ w'.cell? ⟨b2, o2 + 3, none⟩ = some (.int .i64 (B.part 1).level) ∧ w'.cell? ⟨b2, o2 + 3 + 1, none⟩ = some (.bool (B.part 1).special) ∧ w'.cell? ⟨b2, o2 + 3 + 2, none⟩ = some (.slice r4 (B.part 1).rows.length c4)) 26 (by kernel_rfl) (by kernel_rfl) (by kernel_rfl) ?_
    refine tJ 0 (v := ?_) (by assumption) ?_ ?_
    rotate_left
    · (intro w h; (try dsimp only at h); go_simp; try with_reducible rfl)
    try simp only [Act.put, gA, gB, gC, sA, sB, sC]
    refine tJ 1 (v := ?_) (by assumption) ?_ ?_
    rotate_left
    · (intro w h; (try dsimp only at h); go_simp; try with_reducible rfl)
    try simp only [Act.put, gA, gB, gC, sA, sB, sC]
    refine tJ 2 (v := ?_) (by assumption) ?_ ?_
    rotate_left
    · (intro w h; (try dsimp only at h); go_simp; try with_reducible rfl)
    try simp only [Act.put, gA, gB, gC, sA, sB, sC]
    refine tJ 3 (v := ?_) (by assumption) ?_ ?_
    rotate_left
    · (intro w h; (try dsimp only at h); go_simp; try with_reducible rfl)
    try simp only [Act.put, gA, gB, gC, sA, sB, sC]
    refine tJ 4 (v := ?_) (by assumption) ?_ ?_
    rotate_left
    · (intro w h; (try dsimp only at h); go_simp; try with_reducible rfl)
    try simp only [Act.put, gA, gB, gC, sA, sB, sC]
    refine tJ 5 (v := ?_) (by assumption) ?_ ?_
    rotate_left
    · (intro w h; (try dsimp only at h); go_simp; try with_reducible rfl)
    try simp only [Act.put, gA, gB, gC, sA, sB, sC]
    refine tJ 6 (v := ?_) (by assumption) ?_ ?_
    rotate_left
    · (intro w h; (try dsimp only at h); go_simp; try with_reducible rfl)
    try simp only [Act.put, gA, gB, gC, sA, sB, sC]
    refine tJ 7 (v := ?_) (by assumption) ?_ ?_
    rotate_left
    · (intro w h; (try dsimp only at h); go_simp; try with_reducible rfl)
    try simp only [Act.put, gA, gB, gC, sA, sB, sC]
    refine tJ 8 (v := ?_) (by assumption) ?_ ?_
    rotate_left
    · (intro w h; (try dsimp only at h); go_simp; try with_reducible rfl)
    try simp only [Act.put, gA, gB, gC, sA, sB, sC]
    refine tJ 9 (v := ?_) (by assumption) ?_ ?_
    rotate_left
    · (intro w h; (try dsimp only at h); go_simp; try with_reducible rfl)
    try simp only [Act.put, gA, gB, gC, sA, sB, sC]
    refine tJ 10 (v := ?_) (by assumption) ?_ ?_
    rotate_left
    · (intro w h; (try dsimp only at h); go_simp; try with_reducible rfl)
    try simp only [Act.put, gA, gB, gC, sA, sB, sC]
    refine tJ 12 (v := ?_) (by assumption) ?_ ?_
    rotate_left
    · (intro w h; (try dsimp only at h); go_simp; try with_reducible rfl)
    try simp only [Act.put, gA, gB, gC, sA, sB, sC]
    refine tJ 13 (v := ?_) (by assumption) ?_ ?_
    rotate_left
    · (intro w h; (try dsimp only at h); go_simp; try with_reducible rfl)
    try simp only [Act.put, gA, gB, gC, sA, sB, sC]
    refine tJ 14 (v := ?_) (by assumption) ?_ ?_
    rotate_left
    · (intro w h; (try dsimp only at h); go_simp; try with_reducible rfl)
    try simp only [Act.put, gA, gB, gC, sA, sB, sC]
    refine tJ 15 (v := ?_) (by assumption) ?_ ?_
    rotate_left
    · (intro w h; (try dsimp only at h); go_simp; try with_reducible rfl)
    try simp only [Act.put, gA, gB, gC, sA, sB, sC]
    refine tJ 16 (v := ?_) (by assumption) ?_ ?_
    rotate_left
    · (intro w h; (try dsimp only at h); go_simp; try with_reducible rfl)
    try simp only [Act.put, gA, gB, gC, sA, sB, sC]
    refine tJ 17 (v := ?_) (by assumption) ?_ ?_
    rotate_left
    · (intro w h; (try dsimp only at h); go_simp; try with_reducible rfl)
    try simp only [Act.put, gA, gB, gC, sA, sB, sC]
    refine tJ 18 (v := ?_) (by assumption) ?_ ?_
    rotate_left
    · (intro w h; (try dsimp only at h); go_simp; try with_reducible rfl)
    try simp only [Act.put, gA, gB, gC, sA, sB, sC]
    refine tJ 19 (v := ?_) (by assumption) ?_ ?_
    rotate_left
    · (intro w h; (try dsimp only at h); go_simp; try with_reducible rfl)
    try simp only [Act.put, gA, gB, gC, sA, sB, sC]
    refine tJ 20 (v := ?_) (by assumption) ?_ ?_
    rotate_left
    · (intro w h; (try dsimp only at h); go_simp; try with_reducible rfl)
    try simp only [Act.put, gA, gB, gC, sA, sB, sC]
    refine tJ 21 (v := ?_) (by assumption) ?_ ?_
    rotate_left
    · (intro w h; (try dsimp only at h); go_simp; try with_reducible rfl)
    try simp only [Act.put, gA, gB, gC, sA, sB, sC]
    refine wpL.eff 11 rfl (by kernel_rfl) rfl ?_
    intro K hK
    go_wp2_with fail
    (with_reducible refine Calls.mono (H4.out _ (HT2.out _ (by with_reducible (repeat first | exact bR _ _ | assumption | exact ho (by assumption) | refine bD ?_ | refine bN ?_ _ | refine bA ?_ ?_ _ | refine bS ?_ ?_ _) <;> (first | omega | (simp <;> omega))))) ?_)
    rintro e w6 ⟨⟨v, rfl, a0, k0, rfl, hO, hO1, hO2⟩, hb⟩
    have HR_w6 : Hid (RdRN w6 W2.heap.size a0 E0.rows) := Lib.hid (hO.mono (by (first | omega | (simp only [World.size_alloc, sz_set, sz_drew, sz_drewN]; done) | (simp only [World.size_alloc, sz_set, sz_drew, sz_drewN]; omega))))
    have HZ_w6 : Hid (Below W2.heap.size W2 w6) := Lib.hid (below_step' (by with_reducible (repeat first | exact bR _ _ | assumption | exact ho (by assumption) | refine bD ?_ | refine bN ?_ _ | refine bA ?_ ?_ _ | refine bS ?_ ?_ _) <;> (first | omega | (simp <;> omega))) hb)
    have HB_0 := Lib.hid (And.intro hO1 hO2)
    have HN6 : Hid (Below w6.heap.size w6 w6) := Lib.hid (Below.refl _ _)
    have hs6 := hb.size
    try simp only [World.size_alloc, sz_set, sz_drew, sz_drewN] at hs6
    clear hO hb hO1 hO2
    refine hK _ _ (HSK2.out _ (by with_reducible (repeat first | exact bR _ _ | assumption | exact ho (by assumption) | refine bD ?_ | refine bN ?_ _ | refine bA ?_ ?_ _ | refine bS ?_ ?_ _) <;> (first | omega | (simp <;> omega)))) (fun hS => ?_)
    clear hK
    try simp only [Act.put, gA, gB, gC, sA, sB, sC]
    refine wpL.eff 22 rfl (by kernel_rfl) rfl ?_
    intro K hK
    go_wp2_with fail
    (with_reducible refine Calls.mono (H5.out _ (HT2.out _ (by with_reducible (repeat first | exact bR _ _ | assumption | exact ho (by assumption) | refine bD ?_ | refine bN ?_ _ | refine bA ?_ ?_ _ | refine bS ?_ ?_ _) <;> (first | omega | (simp <;> omega))))) ?_)
    rintro e w7 ⟨⟨v, rfl, a2, k2, rfl, hO, hO1, hO2⟩, hb⟩
    have HR_w7 : Hid (RdRN w7 W2.heap.size a2 E2.rows) := Lib.hid (hO.mono (by (first | omega | (simp only [World.size_alloc, sz_set, sz_drew, sz_drewN]; done) | (simp only [World.size_alloc, sz_set, sz_drew, sz_drewN]; omega))))
    have HZ_w7 : Hid (Below W2.heap.size W2 w7) := Lib.hid (below_step' (by with_reducible (repeat first | exact bR _ _ | assumption | exact ho (by assumption) | refine bD ?_ | refine bN ?_ _ | refine bA ?_ ?_ _ | refine bS ?_ ?_ _) <;> (first | omega | (simp <;> omega))) hb)
    have HV_w7 : Hid (Below w6.heap.size w6 w7) := Lib.hid (below_step' (by with_reducible (repeat first | exact bR _ _ | assumption | exact ho (by assumption) | refine bD ?_ | refine bN ?_ _ | refine bA ?_ ?_ _ | refine bS ?_ ?_ _) <;> (first | omega | (simp <;> omega))) hb)
    have HB_2 := Lib.hid (And.intro hO1 hO2)
    have hs7 := hb.size
    try simp only [World.size_alloc, sz_set, sz_drew, sz_drewN] at hs7
    clear hO hb hO1 hO2
    refine hK _ _ (HSK2.out _ (by with_reducible (repeat first | exact bR _ _ | assumption | exact ho (by assumption) | refine bD ?_ | refine bN ?_ _ | refine bA ?_ ?_ _ | refine bS ?_ ?_ _) <;> (first | omega | (simp <;> omega)))) (fun hS => ?_)
    clear hK
    try simp only [Act.put, gA, gB, gC, sA, sB, sC]
    refine wpL.eff 23 rfl (by kernel_rfl) rfl ?_
    intro K hK
    go_wp2
    refine hK _ _ (HSK2.out _ (by with_reducible (repeat first | exact bR _ _ | assumption | exact ho (by assumption) | refine bD ?_ | refine bN ?_ _ | refine bA ?_ ?_ _ | refine bS ?_ ?_ _) <;> (first | omega | (simp <;> omega)))) (fun hS => ?_)
    clear hK
    try simp only [Act.put, gA, gB, gC, sA, sB, sC]
    refine wpL.eff 24 rfl (by kernel_rfl) rfl ?_
    intro K hK
    obtain ⟨h, cap, cs, rest, w8, hrun, hbk, hcs, hh, hc1, hc2, hb8⟩ := app_three (w7.alloc (.cells #[.int .i64 E0.level, .bool E0.special, .slice a0 E0.rows.length k0, .int .i64 E1.level, .bool E1.special, .slice a1 E1.rows.length k1, .int .i64 E2.level, .bool E2.special, .slice a2 E2.rows.length k2] 54)) w7.heap.size [.int .i64 E0.level, .bool E0.special, .slice a0 E0.rows.length k0, .int .i64 E1.level, .bool E1.special, .slice a1 E1.rows.length k1, .int .i64 E2.level, .bool E2.special, .slice a2 E2.rows.length k2] rfl (by simp [Value.oneCell']) (Blk.new _ _ _)
    have HBK := Lib.hid hbk
    have HCS := Lib.hid hcs
    have HV_w8 : Hid (Below w7.heap.size w7 w8) := Lib.hid (below_step' ((Below.refl _ w7).alloc (Nat.le_refl _) _) hb8)
    have HZ_w8 : Hid (Below W2.heap.size W2 w8) := Lib.hid (HZ_w7.out.trans (HV_w8.out.mono HZ_w7.out.size))
    have hs8 := HV_w8.out.size
    rw [World.size_alloc] at hh
    clear hbk hcs hb8
    refine wp_append_run (.tmp 56) (.tmp 78) 26 rfl _ _ rfl rfl _ _ hrun ?_
    refine hK _ _ (HSK2.out _ HZ_w8.out) (fun hS => ?_)
    clear hK
    try simp only [Act.put, gA, gB, gC, sA, sB, sC]
    refine tJ 25 (v := ?_) (by assumption) ?_ ?_
    rotate_left
    · (intro w h; (try dsimp only at h); go_simp; try with_reducible rfl)
    try simp only [Act.put, gA, gB, gC, sA, sB, sC]
    clear hS
    refine wpL.last 26 rfl (by kernel_rfl) rfl (by kernel_rfl) rfl ?_
    have h9 := HG_W2.out.below HZ_w8.out
    obtain ⟨m0, m1, m2⟩ := el_cells h9
    have i2 := h9.free 2
    have HF : Hid (∀ x, Turn w8 x [g9, w.heap.size + 1 + 1 + 1] → GiveCi w.heap.size ⟨A.level, A.exponent, [E0, E1, E2]⟩ (.agg #[.int .i64 A.level, .int .i64 A.exponent, .slice (some ⟨h, 0, none⟩) 3 cap]) x ∧ Below w.heap.size w x) := Lib.hid (fun x hT => by
      have hl : ∀ B, g9 < B → ∀ y, y ∈ [g9, w.heap.size + 1 + 1 + 1] → y < B := fun B hB y hy => by simp at hy; omega
      have T1 : Turn W1 x [w.heap.size + 1 + 1 + 1] := by
        have hu := Turn.trans' (S := []) (Turn.of_below (HV_W2.out.trans (HZ_w8.out.mono (by omega)))) hT
        exact ⟨hu.os, hu.tape, hu.output, hu.size, fun i hi hn => hu.block i hi (by have := HG9.out; simp at hn ⊢; omega)⟩
      refine ⟨⟨some ⟨h, 0, none⟩, cap, rfl, ?_, hc1, hc2⟩, ?_⟩
      · exact rdEN_three (HBK.out.turn hT (by simp; omega)) HCS.out (by omega) (((HR_w6.out.below (HV_w7.out.trans (HV_w8.out.mono (by omega)))).turn hT (hl _ h91)).mono (by omega)) ((HR_W1.out.turn T1 (fun y hy => by simp at hy; omega)).mono (by omega)) (((HR_w7.out.below HV_w8.out).turn hT (hl _ h91)).mono (by omega)) HB_0.out.1 HB_0.out.2 HB_1.out.1 HB_1.out.2 HB_2.out.1 HB_2.out.2
      · exact (HT2.out _ HZ_w8.out).trans (hT.belowN (by omega) (fun y hy => by simp at hy; omega)))
    have h3 := ((HO0.out.below HZ_W2.out).below HZ_w8.out)
    obtain ⟨n0, n1, n2⟩ := el_cells h3
    have j0 := h3.free 0
    have j1 := h3.free 1
    have j2 := h3.free 2
    clear h9 h3
    go_wp2
    have TF := ((((Turn.refl w8 [g9, w.heap.size + 1 + 1 + 1]).setCell (p := ⟨g9, 2, none⟩) (.inl (by simp)) (.slice (some ⟨h, 0, none⟩) 3 cap)).setCell (p := ⟨w.heap.size + 1 + 1 + 1, 0, none⟩) (.inl (by simp)) (.int .i64 A.level)).setCell (p := ⟨w.heap.size + 1 + 1 + 1, 1, none⟩) (.inl (by simp)) (.int .i64 A.exponent)).setCell (p := ⟨w.heap.size + 1 + 1 + 1, 2, none⟩) (.inl (by simp)) (.slice (some ⟨h, 0, none⟩) 3 cap)
    obtain ⟨z1, z2⟩ := HF.out _ TF
    have n9 : g9 ≠ w.heap.size + 1 + 1 + 1 := by omega
    have n8 : w.heap.size + 1 + 1 + 1 ≠ g9 := by omega
    refine bodyPost_ret (v := .tuple #[.agg #[.int .i64 A.level, .int .i64 A.exponent, .slice (some ⟨h, 0, none⟩) 3 cap], .int .i64 0]) (by simp [results, Tryz.results11, go_sem, n0, n1, n2, m0, m1, m2, n8, n9]) rfl ⟨⟨_, rfl, z1⟩, z2⟩
end Go.Proofs.YtcipjbckcnkfaaaGreat
