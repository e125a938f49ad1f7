/- The program's Add and Sub of ciphertexts. (Printed by genarw.py.)
The examples' sum and product. -/
import Derived.Test.YtcipjbckcnkfaaaGreatPa49
import Derived.Test.YtcipjbckcnkfaaaGreatPa45
set_option linter.unusedSimpArgs false
set_option linter.unusedVariables false
namespace Go.Proofs.YtcipjbckcnkfaaaGreat
open Go.RowKit Go.Shelf
attribute [local go_sem ↓] Go.wp_at_zero Go.wp_at_succ

theorem PutCi.kp {base : Nat} {L X : Int} {many : Nat} {f : Nat → El} {e : Ending} {w w' : World} (h : PutCi base L X many f e w) (hK : Kp elT base w w') : PutCi base L X many f e w' := by
  obtain ⟨g, rfl, hg, cs, p1, p2, p3⟩ := h
  refine ⟨g, rfl, hg, cs, hK.2 _ _ _ hg (by decide) p1, p2, fun j hj => ?_⟩
  obtain ⟨ao', c', bj, q1, q2, q3, q4, q5, q6⟩ := p3 j hj
  exact ⟨ao', c', bj, q1, q2, q3, q4.kp ((hK.less fun _ => elT_row).mono q5), q5, q6⟩
theorem PutCi.mono {base base' : Nat} {L X : Int} {many : Nat} {f : Nat → El} {e : Ending} {w : World} (h : PutCi base L X many f e w) (hb : base' ≤ base) : PutCi base' L X many f e w := by
  obtain ⟨g, rfl, hg, cs, p1, p2, p3⟩ := h
  refine ⟨g, rfl, Nat.le_trans hb hg, cs, p1, p2, fun j hj => ?_⟩
  obtain ⟨ao', c', bj, q1, q2, q3, q4, q5, q6⟩ := p3 j hj
  exact ⟨ao', c', bj, q1, q2, q3, q4, Nat.le_trans hb q5, q6⟩

set_option maxHeartbeats 6400000 in
set_option maxRecDepth 100000 in
theorem arAdd_no (p : Par) (ca : Option Addr) (cc : Nat) (A B : Ci) (aa ab : Option Addr) (cA cB : Nat) (w : World) (hin : ParIn w p ca cc) (hA : CiIn w A aa cA) (hB : CiIn w B ab cB) (hno : ¬ CiMatch p A B) :
    Calls Tryz.prog 13 #[.agg (p.cells ca cc), A.val aa cA, B.val ab cB] w fun e w' => e = .returned (.tuple #[.agg #[.int .i64 0, .int .i64 0, .slice none 0 0], .int .i64 2]) ∧ Below w.heap.size w w' := by
  have H1 := Lib.hid (fun (w' : World) (hb : Below w.heap.size w w') => arCombine_no 39 p ca cc A B aa ab cA cB w' (hin.below hb) (hA.below hb) (hB.below hb) hno)
  unfold Ci.val Par.cells at *
  clear hin hA hB hno
  go_enter Tryz.func13, Tryz.ntmps13
  go_wp2_with fail
  (with_reducible refine Calls.mono (H1.out _ (by with_reducible (repeat first | exact bR _ _ | assumption | exact ho (by assumption) | refine bD ?_ | refine bN ?_ _ | refine bA ?_ ?_ _ | refine bS ?_ ?_ _) <;> (first | omega | (simp <;> omega)))) ?_)
  rintro e w2 ⟨rfl, hb⟩
  obtain ⟨hc_w2, hf_w2⟩ := bcell hb
  have HB_w2 : Hid (Below w.heap.size w w2) := Lib.hid (below_step (by with_reducible (repeat first | exact bR _ _ | assumption | exact ho (by assumption) | refine bD ?_ | refine bN ?_ _ | refine bA ?_ ?_ _ | refine bS ?_ ?_ _) <;> (first | omega | (simp <;> omega))) hb)
  have hs_w2 := hb.size
  try simp only [World.size_alloc, sz_set, sz_drew, sz_drewN] at hs_w2
  have q0_w2 : w.heap.size < w2.heap.size := by omega
  have q1_w2 : w.heap.size + 1 < w2.heap.size := by omega
  have q2_w2 : w.heap.size + 1 + 1 < w2.heap.size := by omega
  have q3_w2 : w.heap.size + 1 + 1 + 1 < w2.heap.size := by omega
  have HK_w2 := Lib.hid hb
  have HC_w2 := Lib.hid (callTo hb)
  clear hb
  go_wp2
  refine bodyPost_ret (v := .tuple #[.agg #[.int .i64 0, .int .i64 0, .slice none 0 0], .int .i64 2]) (by simp [results, Tryz.results13, go_sem, hc_w2, q3_w2]) rfl ⟨rfl, (by with_reducible (repeat first | exact bR _ _ | assumption | exact ho (by assumption) | refine bD ?_ | refine bN ?_ _ | refine bA ?_ ?_ _ | refine bS ?_ ?_ _) <;> (first | omega | (simp <;> omega)))⟩

set_option maxHeartbeats 6400000 in
set_option maxRecDepth 100000 in
theorem arAdd_yes (p : Par) (ca : Option Addr) (cc : Nat) (A B : Ci) (aa ab : Option Addr) (cA cB : Nat) (w : World) (hin : ParIn w p ca cc) (hA : CiIn w A aa cA) (hB : CiIn w B ab cB) (hok : CiMatch p A B) :
    Calls Tryz.prog 13 #[.agg (p.cells ca cc), A.val aa cA, B.val ab cB] w fun e w' => PutCi w.heap.size A.level A.exponent (max A.parts.length B.parts.length) (fun i => sumEl p (partZ p A i) (partZ p B i) 1) e w' ∧ Below w.heap.size w w' := by
  have H1 := Lib.hid (fun (w' : World) (hb : Below w.heap.size w w') => arCombine_yes 39 (fun A B => sumEl p A B 1) p ca cc A B aa ab cA cB w' (enters_of Tryz.func39 (by kernel_rfl) rfl) (fun w2 E1 E2 a1 a2 k1 k2 hb2 hM h1 h2 => rgAdd_walk p ca cc E1 E2 a1 a2 k1 k2 w2 ((hin.below hb).below hb2) hok.1.1.1 hM h1 h2) (hin.below hb) (hA.below hb) (hB.below hb) hok)
  obtain ⟨M, hM⟩ : ∃ M, max A.parts.length B.parts.length = M := ⟨_, rfl⟩
  obtain ⟨F, hF⟩ : ∃ F : Nat → El, (fun i => sumEl p (partZ p A i) (partZ p B i) 1) = F := ⟨_, rfl⟩
  rw [hM, hF] at H1 ⊢
  have HC : Hid (∀ (b : Nat) (e : Ending) (w' : World), PutCi b A.level A.exponent M F e w' → (∃ g, e = .returned (.tuple #[.agg #[.int .i64 A.level, .int .i64 A.exponent, .slice (some ⟨g, 0, none⟩) M M], .int .i64 0])) ∧ PutCi b A.level A.exponent M F e w') := Lib.hid (fun b e w' h => ⟨h.elim fun g hg => ⟨g, hg.1⟩, h⟩)
  unfold Ci.val Par.cells at *
  clear hin hA hB hok hM hF
  go_enter Tryz.func13, Tryz.ntmps13
  go_wp2_with fail
  (with_reducible refine Calls.mono (H1.out _ (by with_reducible (repeat first | exact bR _ _ | assumption | exact ho (by assumption) | refine bD ?_ | refine bN ?_ _ | refine bA ?_ ?_ _ | refine bS ?_ ?_ _) <;> (first | omega | (simp <;> omega)))) ?_)
  rintro e w2 ⟨hP, hb⟩
  obtain ⟨⟨g, rfl⟩, hP⟩ := HC.out _ _ _ hP
  have HP := Lib.hid hP
  clear hP
  obtain ⟨hc_w2, hf_w2⟩ := bcell hb
  have HB_w2 : Hid (Below w.heap.size w w2) := Lib.hid (below_step (by with_reducible (repeat first | exact bR _ _ | assumption | exact ho (by assumption) | refine bD ?_ | refine bN ?_ _ | refine bA ?_ ?_ _ | refine bS ?_ ?_ _) <;> (first | omega | (simp <;> omega))) hb)
  have hs_w2 := hb.size
  try simp only [World.size_alloc, sz_set, sz_drew, sz_drewN] at hs_w2
  have q0_w2 : w.heap.size < w2.heap.size := by omega
  have q1_w2 : w.heap.size + 1 < w2.heap.size := by omega
  have q2_w2 : w.heap.size + 1 + 1 < w2.heap.size := by omega
  have q3_w2 : w.heap.size + 1 + 1 + 1 < w2.heap.size := by omega
  have HK_w2 := Lib.hid hb
  have HC_w2 := Lib.hid (callTo hb)
  clear hb
  go_wp2
  refine bodyPost_ret (v := .tuple #[.agg #[.int .i64 A.level, .int .i64 A.exponent, .slice (some ⟨g, 0, none⟩) M M], .int .i64 0]) (by simp [results, Tryz.results13, go_sem, hc_w2, q3_w2]) rfl ⟨?_, (by with_reducible (repeat first | exact bR _ _ | assumption | exact ho (by assumption) | refine bD ?_ | refine bN ?_ _ | refine bA ?_ ?_ _ | refine bS ?_ ?_ _) <;> (first | omega | (simp <;> omega)))⟩
  exact (HP.out.kp (by with_reducible (repeat first | exact kR _ _ _ | assumption | exact ho (by assumption) | refine kD ?_ | refine kA ?_ _ | refine kS ?_ ?_ _ | refine kC ?_ (ho (by assumption))) <;> (first | omega | (simp <;> omega)))).mono (by (first | omega | (simp only [World.size_alloc, sz_set, sz_drew, sz_drewN]; done) | (simp only [World.size_alloc, sz_set, sz_drew, sz_drewN]; omega)))
end Go.Proofs.YtcipjbckcnkfaaaGreat

namespace Go.Proofs.YtcipjbckcnkfaaaGreat
open Go.RowKit Go.Shelf

theorem exOk (l : List El) (h : l = exA.parts ∨ l = exB.parts) : CiOk par4 ⟨1, 1, l⟩ := by
  have hp : PlaceOk par4 1 false := PlaceOk.of (by decide) (by decide)
  have hz : ∀ r : List Nat, r.length = 4 → (∀ j, j < 4 → r.getD j 0 < 2147481209) → PartOk par4 1 ⟨1, false, [r]⟩ := fun r hr hv => ⟨⟨hp, rfl, fun i hi => by
    obtain rfl : i = 0 := by simp at hi; omega
    refine ⟨by show ((r.length : Nat) : Int) = 4; omega, fun j hj => ?_⟩
    exact hv j (by rw [← hr]; exact hj)⟩, rfl, rfl⟩
  have ha : exA.parts = [⟨1, false, [[1, 2, 3, 4]]⟩, ⟨1, false, [[0, 0, 0, 0]]⟩] := by kernel_rfl
  have hb : exB.parts = [⟨1, false, [[5, 0, 0, 0]]⟩, ⟨1, false, [[0, 1, 0, 0]]⟩] := by kernel_rfl
  refine ⟨state4, ?_, fun i hi => ?_⟩
  · rcases h with rfl | rfl
    · rw [ha]; exact .inl rfl
    · rw [hb]; exact .inl rfl
  · have hi2 : i < l.length := hi
    unfold Ci.part
    simp only
    rcases h with rfl | rfl
    · rw [ha] at hi2 ⊢
      rcases (show i = 0 ∨ i = 1 by simp at hi2; omega) with rfl | rfl
      · exact hz _ rfl (by decide)
      · exact hz _ rfl (by decide)
    · rw [hb] at hi2 ⊢
      rcases (show i = 0 ∨ i = 1 by simp at hi2; omega) with rfl | rfl
      · exact hz _ rfl (by decide)
      · exact hz _ rfl (by decide)
theorem exMatch : CiMatch par4 exA exB := ⟨exOk _ (.inl rfl), exOk _ (.inr rfl), rfl, rfl⟩
theorem exTens : TensOk par4 exA exB := ⟨exMatch, rfl, rfl⟩
theorem CiOk.ciIn {w : World} {p : Par} {C : Ci} {ao : Option Addr} {c : Nat} (h : CiOk p C) (hr : RdE w ao C.parts) (h1 : C.parts.length ≤ c) (h2 : c ≤ 9223372036854775807) : CiIn w C ao c := by
  have hg := h.1.1
  have hl := hg.len
  have hpw : p.power ≤ 9223372036854775807 := by
    have := hg.plain
    have h3 : p.power.toNat < p.prime ^ p.power.toNat := Nat.lt_pow_self (by omega)
    omega
  have hfit : ∀ i, i < C.parts.length → ElFit (C.part i) := fun i hi => by
    have hp := h.2.2 i hi
    have hE := hp.1
    have hq := qs_len hE.1
    have hn := hg.n
    have e1 : (C.part i).level = C.level := hp.2.1
    have e2 : (C.part i).special = false := hp.2.2
    have a1 := h.1.2.1
    have a2 := h.1.2.2.1
    rw [e2, e1] at hq
    simp at hq
    refine ⟨by omega, by omega, ?_, fun j hj => ⟨by have := (hE.2.2 j hj).1; omega, fun k hk => ?_⟩⟩
    · rw [hE.2.1, e2, e1]; omega
    · have h5 := (hE.2.2 j hj).2 k hk
      have := hg.qs_le (C.part i).level (C.part i).special j
      exact Nat.le_trans (Nat.le_of_lt h5) (by omega)
  exact { rd := hr, l1 := by have := h.1.2.1; omega, l2 := by have := h.1.2.2.1; omega, e1 := by have := h.1.2.2.2.1; omega, e2 := by have := h.1.2.2.2.2; omega, len := by rcases h.2.1 with e | e <;> omega, room := h1, room2 := h2, fit := hfit }
theorem sumEx0 : sumEl par4 (partZ par4 exA 0) (partZ par4 exB 0) 1 = ⟨1, false, [[6, 2, 3, 4]]⟩ := by kernel_rfl
theorem sumEx1 : sumEl par4 (partZ par4 exA 1) (partZ par4 exB 1) 1 = ⟨1, false, [[0, 1, 0, 0]]⟩ := by kernel_rfl
theorem tensEx0 : tensF par4 exA exB 0 = ⟨1, false, [[5, 10, 15, 20]]⟩ := by kernel_rfl
theorem tensEx1 : tensF par4 exA exB 1 = ⟨1, false, [[2147481205, 1, 2, 3]]⟩ := by kernel_rfl
theorem tensEx2 : tensF par4 exA exB 2 = ⟨1, false, [[0, 0, 0, 0]]⟩ := by kernel_rfl
/-- One part of a result, its cells. -/
theorem Parts.cells {w : World} {g base many : Nat} {f : Nat → El} (h : Parts w g base many many f) {j : Nat} (hj : j < many) {E : El} (hE : f j = E) : ∃ a c, w.cell? ⟨g, j * 3, none⟩ = some (.int .i64 E.level) ∧ w.cell? ⟨g, j * 3 + 1, none⟩ = some (.bool E.special) ∧ w.cell? ⟨g, j * 3 + 2, none⟩ = some (.slice a E.rows.length c) ∧ RdR w a E.rows := by
  obtain ⟨cs, h1, h2, h3⟩ := h
  obtain ⟨a, c, bj, k1, k2, k3, k4, _⟩ := h3 j hj
  rw [hE] at k1 k2 k3 k4
  exact ⟨a, c, by rw [h1.cell]; exact k1, by rw [h1.cell]; exact k2, by rw [h1.cell]; exact k3, k4.rdn.rd⟩
/-- The examples' sum. -/
theorem arAdd_ex (ca a1 a2 : Option Addr) (cc c1 c2 : Nat) (w : World) (hin : ParIn w par4 ca cc) (hA : RdE w a1 exA.parts) (hB : RdE w a2 exB.parts) (h1 : 2 ≤ c1) (h2 : c1 ≤ 9223372036854775807) (h3 : 2 ≤ c2) (h4 : c2 ≤ 9223372036854775807) :
    Calls Tryz.prog 13 #[.agg (cells4 ca cc), .agg #[.int .i64 1, .int .i64 1, .slice a1 2 c1], .agg #[.int .i64 1, .int .i64 1, .slice a2 2 c2]] w fun e w' => (∃ g b0 d0 b1 d1, e = .returned (.tuple #[.agg #[.int .i64 1, .int .i64 1, .slice (some ⟨g, 0, none⟩) 2 2], .int .i64 0]) ∧ g < w'.heap.size ∧
      (w'.cell? ⟨g, 0, none⟩ = some (.int .i64 1) ∧ w'.cell? ⟨g, 1, none⟩ = some (.bool false) ∧ w'.cell? ⟨g, 2, none⟩ = some (.slice b0 1 d0) ∧ RdR w' b0 [[6, 2, 3, 4]]) ∧
      (w'.cell? ⟨g, 3, none⟩ = some (.int .i64 1) ∧ w'.cell? ⟨g, 4, none⟩ = some (.bool false) ∧ w'.cell? ⟨g, 5, none⟩ = some (.slice b1 1 d1) ∧ RdR w' b1 [[0, 1, 0, 0]])) ∧ Below w.heap.size w w' :=
  (arAdd_yes par4 ca cc exA exB a1 a2 c1 c2 w hin (exMatch.1.ciIn hA h1 h2) (exMatch.2.1.ciIn hB h3 h4) exMatch).mono (fun e w' ⟨⟨g, e1, hg, hP⟩, hb⟩ => by
    obtain ⟨b0, d0, x0, x1, x2, x3⟩ := hP.cells (j := 0) (by decide) sumEx0
    obtain ⟨b1, d1, y0, y1, y2, y3⟩ := hP.cells (j := 1) (by decide) sumEx1
    exact ⟨⟨g, b0, d0, b1, d1, e1, World.block_lt_of_cell? w' _ x0, ⟨x0, x1, x2, x3⟩, ⟨y0, y1, y2, y3⟩⟩, hb⟩)
/-- The examples' product. -/
theorem arTensor_ex (ca a1 a2 : Option Addr) (cc c1 c2 : Nat) (w : World) (hin : ParIn w par4 ca cc) (hA : RdE w a1 exA.parts) (hB : RdE w a2 exB.parts) (h1 : 2 ≤ c1) (h2 : c1 ≤ 9223372036854775807) (h3 : 2 ≤ c2) (h4 : c2 ≤ 9223372036854775807) :
    Calls Tryz.prog 10 #[.agg (cells4 ca cc), .agg #[.int .i64 1, .int .i64 1, .slice a1 2 c1], .agg #[.int .i64 1, .int .i64 1, .slice a2 2 c2]] w fun e w' => (∃ g b0 d0 b1 d1 b2 d2, e = .returned (.tuple #[.agg #[.int .i64 1, .int .i64 1, .slice (some ⟨g, 0, none⟩) 3 3], .int .i64 0]) ∧ g < w'.heap.size ∧
      (w'.cell? ⟨g, 0, none⟩ = some (.int .i64 1) ∧ w'.cell? ⟨g, 1, none⟩ = some (.bool false) ∧ w'.cell? ⟨g, 2, none⟩ = some (.slice b0 1 d0) ∧ RdR w' b0 [[5, 10, 15, 20]]) ∧
      (w'.cell? ⟨g, 3, none⟩ = some (.int .i64 1) ∧ w'.cell? ⟨g, 4, none⟩ = some (.bool false) ∧ w'.cell? ⟨g, 5, none⟩ = some (.slice b1 1 d1) ∧ RdR w' b1 [[2147481205, 1, 2, 3]]) ∧
      (w'.cell? ⟨g, 6, none⟩ = some (.int .i64 1) ∧ w'.cell? ⟨g, 7, none⟩ = some (.bool false) ∧ w'.cell? ⟨g, 8, none⟩ = some (.slice b2 1 d2) ∧ RdR w' b2 [[0, 0, 0, 0]])) ∧ Below w.heap.size w w' :=
  (arTensor_yes par4 ca cc exA exB a1 a2 c1 c2 w hin (exMatch.1.ciIn hA h1 h2) (exMatch.2.1.ciIn hB h3 h4) exTens).mono (fun e w' ⟨⟨g, e1, hg, hP⟩, hb⟩ => by
    obtain ⟨b0, d0, x0, x1, x2, x3⟩ := hP.cells (j := 0) (by decide) tensEx0
    obtain ⟨b1, d1, y0, y1, y2, y3⟩ := hP.cells (j := 1) (by decide) tensEx1
    obtain ⟨b2, d2, z0, z1, z2, z3⟩ := hP.cells (j := 2) (by decide) tensEx2
    exact ⟨⟨g, b0, d0, b1, d1, b2, d2, e1, World.block_lt_of_cell? w' _ x0, ⟨x0, x1, x2, x3⟩, ⟨y0, y1, y2, y3⟩, ⟨z0, z1, z2, z3⟩⟩, hb⟩)
end Go.Proofs.YtcipjbckcnkfaaaGreat
