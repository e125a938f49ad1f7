/- The program's Add and Sub of ciphertexts. (Printed by genarw.py.)
The program's Sub of ciphertexts. (Printed by genarw.py.)
The examples' sum and product.
The same of sums and differences. No walk. (Printed by genboth.py.)
The statements' spoil: all residues of a ciphertext of the call's own are overwritten.
A result of the program's is spoilt. No walk. -/
import Derived.Test.YtcipjbckcnkfaaaGreatPs50
import Derived.Test.YtcipjbckcnkfaaaGreatPs45
import Derived.Test.YtcipjbckcnkfaaaGreatPs46
import Derived.Test.YtcipjbckcnkfaaaGreatPs49
set_option linter.unusedSimpArgs false
set_option linter.unusedVariables false
namespace Go.Proofs.YtcipjbckcnkfaaaGreat
open Go.RowKit Go.Shelf
attribute [local go_sem ↓] Go.wp_at_zero Go.wp_at_succ

theorem PutCi.kp {base : Nat} {L X : Int} {many : Nat} {f : Nat → El} {e : Ending} {w w' : World} (h : PutCi base L X many f e w) (hK : Kp elT base w w') : PutCi base L X many f e w' := by
  obtain ⟨g, rfl, hg, cs, p1, p2, p3⟩ := h
  refine ⟨g, rfl, hg, cs, hK.2 _ _ _ hg (by decide) p1, p2, fun j hj => ?_⟩
  obtain ⟨ao', c', bj, q1, q2, q3, q4, q5, q6⟩ := p3 j hj
  exact ⟨ao', c', bj, q1, q2, q3, q4.kp ((hK.less fun _ => elT_row).mono q5), q5, q6⟩
theorem PutCi.mono {base base' : Nat} {L X : Int} {many : Nat} {f : Nat → El} {e : Ending} {w : World} (h : PutCi base L X many f e w) (hb : base' ≤ base) : PutCi base' L X many f e w := by
  obtain ⟨g, rfl, hg, cs, p1, p2, p3⟩ := h
  refine ⟨g, rfl, Nat.le_trans hb hg, cs, p1, p2, fun j hj => ?_⟩
  obtain ⟨ao', c', bj, q1, q2, q3, q4, q5, q6⟩ := p3 j hj
  exact ⟨ao', c', bj, q1, q2, q3, q4, Nat.le_trans hb q5, q6⟩

set_option maxHeartbeats 6400000 in
set_option maxRecDepth 100000 in
theorem arAdd_no (p : Par) (ca : Option Addr) (cc : Nat) (A B : Ci) (aa ab : Option Addr) (cA cB : Nat) (w : World) (hin : ParIn w p ca cc) (hA : CiIn w A aa cA) (hB : CiIn w B ab cB) (hno : ¬ CiMatch p A B) :
    Calls Tryz.prog 13 #[.agg (p.cells ca cc), A.val aa cA, B.val ab cB] w fun e w' => e = .returned (.tuple #[.agg #[.int .i64 0, .int .i64 0, .slice none 0 0], .int .i64 2]) ∧ Below w.heap.size w w' := by
  have H1 := Lib.hid (fun (w' : World) (hb : Below w.heap.size w w') => arCombine_no 39 p ca cc A B aa ab cA cB w' (hin.below hb) (hA.below hb) (hB.below hb) hno)
  unfold Ci.val Par.cells at *
  clear hin hA hB hno
  go_enter Tryz.func13, Tryz.ntmps13
  go_wp2_with fail
  (with_reducible refine Calls.mono (H1.out _ (by with_reducible (repeat first | exact bR _ _ | assumption | exact ho (by assumption) | refine bD ?_ | refine bN ?_ _ | refine bA ?_ ?_ _ | refine bS ?_ ?_ _) <;> (first | omega | (simp <;> omega)))) ?_)
  rintro e w2 ⟨rfl, hb⟩
  obtain ⟨hc_w2, hf_w2⟩ := bcell hb
  have HB_w2 : Hid (Below w.heap.size w w2) := Lib.hid (below_step (by with_reducible (repeat first | exact bR _ _ | assumption | exact ho (by assumption) | refine bD ?_ | refine bN ?_ _ | refine bA ?_ ?_ _ | refine bS ?_ ?_ _) <;> (first | omega | (simp <;> omega))) hb)
  have hs_w2 := hb.size
  try simp only [World.size_alloc, sz_set, sz_drew, sz_drewN] at hs_w2
  have q0_w2 : w.heap.size < w2.heap.size := by omega
  have q1_w2 : w.heap.size + 1 < w2.heap.size := by omega
  have q2_w2 : w.heap.size + 1 + 1 < w2.heap.size := by omega
  have q3_w2 : w.heap.size + 1 + 1 + 1 < w2.heap.size := by omega
  have HK_w2 := Lib.hid hb
  have HC_w2 := Lib.hid (callTo hb)
  clear hb
  go_wp2
  refine bodyPost_ret (v := .tuple #[.agg #[.int .i64 0, .int .i64 0, .slice none 0 0], .int .i64 2]) (by simp [results, Tryz.results13, go_sem, hc_w2, q3_w2]) rfl ⟨rfl, (by with_reducible (repeat first | exact bR _ _ | assumption | exact ho (by assumption) | refine bD ?_ | refine bN ?_ _ | refine bA ?_ ?_ _ | refine bS ?_ ?_ _) <;> (first | omega | (simp <;> omega)))⟩

set_option maxHeartbeats 6400000 in
set_option maxRecDepth 100000 in
theorem arAdd_yes (p : Par) (ca : Option Addr) (cc : Nat) (A B : Ci) (aa ab : Option Addr) (cA cB : Nat) (w : World) (hin : ParIn w p ca cc) (hA : CiIn w A aa cA) (hB : CiIn w B ab cB) (hok : CiMatch p A B) :
    Calls Tryz.prog 13 #[.agg (p.cells ca cc), A.val aa cA, B.val ab cB] w fun e w' => PutCi w.heap.size A.level A.exponent (max A.parts.length B.parts.length) (fun i => sumEl p (partZ p A i) (partZ p B i) 1) e w' ∧ Below w.heap.size w w' := by
  have H1 := Lib.hid (fun (w' : World) (hb : Below w.heap.size w w') => arCombine_yes 39 (fun A B => sumEl p A B 1) p ca cc A B aa ab cA cB w' (enters_of Tryz.func39 (by kernel_rfl) rfl) (fun w2 E1 E2 a1 a2 k1 k2 hb2 hM h1 h2 => rgAdd_walk p ca cc E1 E2 a1 a2 k1 k2 w2 ((hin.below hb).below hb2) hok.1.1.1 hM h1 h2) (hin.below hb) (hA.below hb) (hB.below hb) hok)
  obtain ⟨M, hM⟩ : ∃ M, max A.parts.length B.parts.length = M := ⟨_, rfl⟩
  obtain ⟨F, hF⟩ : ∃ F : Nat → El, (fun i => sumEl p (partZ p A i) (partZ p B i) 1) = F := ⟨_, rfl⟩
  rw [hM, hF] at H1 ⊢
  have HC : Hid (∀ (b : Nat) (e : Ending) (w' : World), PutCi b A.level A.exponent M F e w' → (∃ g, e = .returned (.tuple #[.agg #[.int .i64 A.level, .int .i64 A.exponent, .slice (some ⟨g, 0, none⟩) M M], .int .i64 0])) ∧ PutCi b A.level A.exponent M F e w') := Lib.hid (fun b e w' h => ⟨h.elim fun g hg => ⟨g, hg.1⟩, h⟩)
  unfold Ci.val Par.cells at *
  clear hin hA hB hok hM hF
  go_enter Tryz.func13, Tryz.ntmps13
  go_wp2_with fail
  (with_reducible refine Calls.mono (H1.out _ (by with_reducible (repeat first | exact bR _ _ | assumption | exact ho (by assumption) | refine bD ?_ | refine bN ?_ _ | refine bA ?_ ?_ _ | refine bS ?_ ?_ _) <;> (first | omega | (simp <;> omega)))) ?_)
  rintro e w2 ⟨hP, hb⟩
  obtain ⟨⟨g, rfl⟩, hP⟩ := HC.out _ _ _ hP
  have HP := Lib.hid hP
  clear hP
  obtain ⟨hc_w2, hf_w2⟩ := bcell hb
  have HB_w2 : Hid (Below w.heap.size w w2) := Lib.hid (below_step (by with_reducible (repeat first | exact bR _ _ | assumption | exact ho (by assumption) | refine bD ?_ | refine bN ?_ _ | refine bA ?_ ?_ _ | refine bS ?_ ?_ _) <;> (first | omega | (simp <;> omega))) hb)
  have hs_w2 := hb.size
  try simp only [World.size_alloc, sz_set, sz_drew, sz_drewN] at hs_w2
  have q0_w2 : w.heap.size < w2.heap.size := by omega
  have q1_w2 : w.heap.size + 1 < w2.heap.size := by omega
  have q2_w2 : w.heap.size + 1 + 1 < w2.heap.size := by omega
  have q3_w2 : w.heap.size + 1 + 1 + 1 < w2.heap.size := by omega
  have HK_w2 := Lib.hid hb
  have HC_w2 := Lib.hid (callTo hb)
  clear hb
  go_wp2
  refine bodyPost_ret (v := .tuple #[.agg #[.int .i64 A.level, .int .i64 A.exponent, .slice (some ⟨g, 0, none⟩) M M], .int .i64 0]) (by simp [results, Tryz.results13, go_sem, hc_w2, q3_w2]) rfl ⟨?_, (by with_reducible (repeat first | exact bR _ _ | assumption | exact ho (by assumption) | refine bD ?_ | refine bN ?_ _ | refine bA ?_ ?_ _ | refine bS ?_ ?_ _) <;> (first | omega | (simp <;> omega)))⟩
  exact (HP.out.kp (by with_reducible (repeat first | exact kR _ _ _ | assumption | exact ho (by assumption) | refine kD ?_ | refine kA ?_ _ | refine kS ?_ ?_ _ | refine kC ?_ (ho (by assumption))) <;> (first | omega | (simp <;> omega)))).mono (by (first | omega | (simp only [World.size_alloc, sz_set, sz_drew, sz_drewN]; done) | (simp only [World.size_alloc, sz_set, sz_drew, sz_drewN]; omega)))
end Go.Proofs.YtcipjbckcnkfaaaGreat

namespace Go.Proofs.YtcipjbckcnkfaaaGreat
open Go.RowKit Go.Shelf
attribute [local go_sem ↓] Go.wp_at_zero Go.wp_at_succ

set_option maxHeartbeats 6400000 in
set_option maxRecDepth 100000 in
theorem arSub_no (p : Par) (ca : Option Addr) (cc : Nat) (A B : Ci) (aa ab : Option Addr) (cA cB : Nat) (w : World) (hin : ParIn w p ca cc) (hA : CiIn w A aa cA) (hB : CiIn w B ab cB) (hno : ¬ CiMatch p A B) :
    Calls Tryz.prog 16 #[.agg (p.cells ca cc), A.val aa cA, B.val ab cB] w fun e w' => e = .returned (.tuple #[.agg #[.int .i64 0, .int .i64 0, .slice none 0 0], .int .i64 2]) ∧ Below w.heap.size w w' := by
  have H1 := Lib.hid (fun (w' : World) (hb : Below w.heap.size w w') => arCombine_no 46 p ca cc A B aa ab cA cB w' (hin.below hb) (hA.below hb) (hB.below hb) hno)
  unfold Ci.val Par.cells at *
  clear hin hA hB hno
  go_enter Tryz.func16, Tryz.ntmps16
  go_wp2_with fail
  (with_reducible refine Calls.mono (H1.out _ (by with_reducible (repeat first | exact bR _ _ | assumption | exact ho (by assumption) | refine bD ?_ | refine bN ?_ _ | refine bA ?_ ?_ _ | refine bS ?_ ?_ _) <;> (first | omega | (simp <;> omega)))) ?_)
  rintro e w2 ⟨rfl, hb⟩
  obtain ⟨hc_w2, hf_w2⟩ := bcell hb
  have HB_w2 : Hid (Below w.heap.size w w2) := Lib.hid (below_step (by with_reducible (repeat first | exact bR _ _ | assumption | exact ho (by assumption) | refine bD ?_ | refine bN ?_ _ | refine bA ?_ ?_ _ | refine bS ?_ ?_ _) <;> (first | omega | (simp <;> omega))) hb)
  have hs_w2 := hb.size
  try simp only [World.size_alloc, sz_set, sz_drew, sz_drewN] at hs_w2
  have q0_w2 : w.heap.size < w2.heap.size := by omega
  have q1_w2 : w.heap.size + 1 < w2.heap.size := by omega
  have q2_w2 : w.heap.size + 1 + 1 < w2.heap.size := by omega
  have q3_w2 : w.heap.size + 1 + 1 + 1 < w2.heap.size := by omega
  have HK_w2 := Lib.hid hb
  have HC_w2 := Lib.hid (callTo hb)
  clear hb
  go_wp2
  refine bodyPost_ret (v := .tuple #[.agg #[.int .i64 0, .int .i64 0, .slice none 0 0], .int .i64 2]) (by simp [results, Tryz.results16, go_sem, hc_w2, q3_w2]) rfl ⟨rfl, (by with_reducible (repeat first | exact bR _ _ | assumption | exact ho (by assumption) | refine bD ?_ | refine bN ?_ _ | refine bA ?_ ?_ _ | refine bS ?_ ?_ _) <;> (first | omega | (simp <;> omega)))⟩

set_option maxHeartbeats 6400000 in
set_option maxRecDepth 100000 in
theorem arSub_yes (p : Par) (ca : Option Addr) (cc : Nat) (A B : Ci) (aa ab : Option Addr) (cA cB : Nat) (w : World) (hin : ParIn w p ca cc) (hA : CiIn w A aa cA) (hB : CiIn w B ab cB) (hok : CiMatch p A B) :
    Calls Tryz.prog 16 #[.agg (p.cells ca cc), A.val aa cA, B.val ab cB] w fun e w' => PutCi w.heap.size A.level A.exponent (max A.parts.length B.parts.length) (fun i => sumEl p (partZ p A i) (partZ p B i) (-1)) e w' ∧ Below w.heap.size w w' := by
  have H1 := Lib.hid (fun (w' : World) (hb : Below w.heap.size w w') => arCombine_yes 46 (fun A B => sumEl p A B (-1)) p ca cc A B aa ab cA cB w' (enters_of Tryz.func46 (by kernel_rfl) rfl) (fun w2 E1 E2 a1 a2 k1 k2 hb2 hM h1 h2 => rgSub_walk p ca cc E1 E2 a1 a2 k1 k2 w2 ((hin.below hb).below hb2) hok.1.1.1 hM h1 h2) (hin.below hb) (hA.below hb) (hB.below hb) hok)
  obtain ⟨M, hM⟩ : ∃ M, max A.parts.length B.parts.length = M := ⟨_, rfl⟩
  obtain ⟨F, hF⟩ : ∃ F : Nat → El, (fun i => sumEl p (partZ p A i) (partZ p B i) (-1)) = F := ⟨_, rfl⟩
  rw [hM, hF] at H1 ⊢
  have HC : Hid (∀ (b : Nat) (e : Ending) (w' : World), PutCi b A.level A.exponent M F e w' → (∃ g, e = .returned (.tuple #[.agg #[.int .i64 A.level, .int .i64 A.exponent, .slice (some ⟨g, 0, none⟩) M M], .int .i64 0])) ∧ PutCi b A.level A.exponent M F e w') := Lib.hid (fun b e w' h => ⟨h.elim fun g hg => ⟨g, hg.1⟩, h⟩)
  unfold Ci.val Par.cells at *
  clear hin hA hB hok hM hF
  go_enter Tryz.func16, Tryz.ntmps16
  go_wp2_with fail
  (with_reducible refine Calls.mono (H1.out _ (by with_reducible (repeat first | exact bR _ _ | assumption | exact ho (by assumption) | refine bD ?_ | refine bN ?_ _ | refine bA ?_ ?_ _ | refine bS ?_ ?_ _) <;> (first | omega | (simp <;> omega)))) ?_)
  rintro e w2 ⟨hP, hb⟩
  obtain ⟨⟨g, rfl⟩, hP⟩ := HC.out _ _ _ hP
  have HP := Lib.hid hP
  clear hP
  obtain ⟨hc_w2, hf_w2⟩ := bcell hb
  have HB_w2 : Hid (Below w.heap.size w w2) := Lib.hid (below_step (by with_reducible (repeat first | exact bR _ _ | assumption | exact ho (by assumption) | refine bD ?_ | refine bN ?_ _ | refine bA ?_ ?_ _ | refine bS ?_ ?_ _) <;> (first | omega | (simp <;> omega))) hb)
  have hs_w2 := hb.size
  try simp only [World.size_alloc, sz_set, sz_drew, sz_drewN] at hs_w2
  have q0_w2 : w.heap.size < w2.heap.size := by omega
  have q1_w2 : w.heap.size + 1 < w2.heap.size := by omega
  have q2_w2 : w.heap.size + 1 + 1 < w2.heap.size := by omega
  have q3_w2 : w.heap.size + 1 + 1 + 1 < w2.heap.size := by omega
  have HK_w2 := Lib.hid hb
  have HC_w2 := Lib.hid (callTo hb)
  clear hb
  go_wp2
  refine bodyPost_ret (v := .tuple #[.agg #[.int .i64 A.level, .int .i64 A.exponent, .slice (some ⟨g, 0, none⟩) M M], .int .i64 0]) (by simp [results, Tryz.results16, go_sem, hc_w2, q3_w2]) rfl ⟨?_, (by with_reducible (repeat first | exact bR _ _ | assumption | exact ho (by assumption) | refine bD ?_ | refine bN ?_ _ | refine bA ?_ ?_ _ | refine bS ?_ ?_ _) <;> (first | omega | (simp <;> omega)))⟩
  exact (HP.out.kp (by with_reducible (repeat first | exact kR _ _ _ | assumption | exact ho (by assumption) | refine kD ?_ | refine kA ?_ _ | refine kS ?_ ?_ _ | refine kC ?_ (ho (by assumption))) <;> (first | omega | (simp <;> omega)))).mono (by (first | omega | (simp only [World.size_alloc, sz_set, sz_drew, sz_drewN]; done) | (simp only [World.size_alloc, sz_set, sz_drew, sz_drewN]; omega)))
end Go.Proofs.YtcipjbckcnkfaaaGreat

namespace Go.Proofs.YtcipjbckcnkfaaaGreat
open Go.RowKit Go.Shelf

theorem exOk (l : List El) (h : l = exA.parts ∨ l = exB.parts) : CiOk par4 ⟨1, 1, l⟩ := by
  have hp : PlaceOk par4 1 false := PlaceOk.of (by decide) (by decide)
  have hz : ∀ r : List Nat, r.length = 4 → (∀ j, j < 4 → r.getD j 0 < 2147481209) → PartOk par4 1 ⟨1, false, [r]⟩ := fun r hr hv => ⟨⟨hp, rfl, fun i hi => by
    obtain rfl : i = 0 := by simp at hi; omega
    refine ⟨by show ((r.length : Nat) : Int) = 4; omega, fun j hj => ?_⟩
    exact hv j (by rw [← hr]; exact hj)⟩, rfl, rfl⟩
  have ha : exA.parts = [⟨1, false, [[1, 2, 3, 4]]⟩, ⟨1, false, [[0, 0, 0, 0]]⟩] := by kernel_rfl
  have hb : exB.parts = [⟨1, false, [[5, 0, 0, 0]]⟩, ⟨1, false, [[0, 1, 0, 0]]⟩] := by kernel_rfl
  refine ⟨state4, ?_, fun i hi => ?_⟩
  · rcases h with rfl | rfl
    · rw [ha]; exact .inl rfl
    · rw [hb]; exact .inl rfl
  · have hi2 : i < l.length := hi
    unfold Ci.part
    simp only
    rcases h with rfl | rfl
    · rw [ha] at hi2 ⊢
      rcases (show i = 0 ∨ i = 1 by simp at hi2; omega) with rfl | rfl
      · exact hz _ rfl (by decide)
      · exact hz _ rfl (by decide)
    · rw [hb] at hi2 ⊢
      rcases (show i = 0 ∨ i = 1 by simp at hi2; omega) with rfl | rfl
      · exact hz _ rfl (by decide)
      · exact hz _ rfl (by decide)
theorem exMatch : CiMatch par4 exA exB := ⟨exOk _ (.inl rfl), exOk _ (.inr rfl), rfl, rfl⟩
theorem exTens : TensOk par4 exA exB := ⟨exMatch, rfl, rfl⟩
theorem CiOk.ciIn {w : World} {p : Par} {C : Ci} {ao : Option Addr} {c : Nat} (h : CiOk p C) (hr : RdE w ao C.parts) (h1 : C.parts.length ≤ c) (h2 : c ≤ 9223372036854775807) : CiIn w C ao c := by
  have hg := h.1.1
  have hl := hg.len
  have hpw : p.power ≤ 9223372036854775807 := by
    have := hg.plain
    have h3 : p.power.toNat < p.prime ^ p.power.toNat := Nat.lt_pow_self (by omega)
    omega
  have hfit : ∀ i, i < C.parts.length → ElFit (C.part i) := fun i hi => by
    have hp := h.2.2 i hi
    have hE := hp.1
    have hq := qs_len hE.1
    have hn := hg.n
    have e1 : (C.part i).level = C.level := hp.2.1
    have e2 : (C.part i).special = false := hp.2.2
    have a1 := h.1.2.1
    have a2 := h.1.2.2.1
    rw [e2, e1] at hq
    simp at hq
    refine ⟨by omega, by omega, ?_, fun j hj => ⟨by have := (hE.2.2 j hj).1; omega, fun k hk => ?_⟩⟩
    · rw [hE.2.1, e2, e1]; omega
    · have h5 := (hE.2.2 j hj).2 k hk
      have := hg.qs_le (C.part i).level (C.part i).special j
      exact Nat.le_trans (Nat.le_of_lt h5) (by omega)
  exact { rd := hr, l1 := by have := h.1.2.1; omega, l2 := by have := h.1.2.2.1; omega, e1 := by have := h.1.2.2.2.1; omega, e2 := by have := h.1.2.2.2.2; omega, len := by rcases h.2.1 with e | e <;> omega, room := h1, room2 := h2, fit := hfit }
theorem sumEx0 : sumEl par4 (partZ par4 exA 0) (partZ par4 exB 0) 1 = ⟨1, false, [[6, 2, 3, 4]]⟩ := by kernel_rfl
theorem sumEx1 : sumEl par4 (partZ par4 exA 1) (partZ par4 exB 1) 1 = ⟨1, false, [[0, 1, 0, 0]]⟩ := by kernel_rfl
theorem tensEx0 : tensF par4 exA exB 0 = ⟨1, false, [[5, 10, 15, 20]]⟩ := by kernel_rfl
theorem tensEx1 : tensF par4 exA exB 1 = ⟨1, false, [[2147481205, 1, 2, 3]]⟩ := by kernel_rfl
theorem tensEx2 : tensF par4 exA exB 2 = ⟨1, false, [[0, 0, 0, 0]]⟩ := by kernel_rfl
/-- One part of a result, its cells. -/
theorem Parts.cells {w : World} {g base many : Nat} {f : Nat → El} (h : Parts w g base many many f) {j : Nat} (hj : j < many) {E : El} (hE : f j = E) : ∃ a c, w.cell? ⟨g, j * 3, none⟩ = some (.int .i64 E.level) ∧ w.cell? ⟨g, j * 3 + 1, none⟩ = some (.bool E.special) ∧ w.cell? ⟨g, j * 3 + 2, none⟩ = some (.slice a E.rows.length c) ∧ RdR w a E.rows := by
  obtain ⟨cs, h1, h2, h3⟩ := h
  obtain ⟨a, c, bj, k1, k2, k3, k4, _⟩ := h3 j hj
  rw [hE] at k1 k2 k3 k4
  exact ⟨a, c, by rw [h1.cell]; exact k1, by rw [h1.cell]; exact k2, by rw [h1.cell]; exact k3, k4.rdn.rd⟩
/-- The examples' sum. -/
theorem arAdd_ex (ca a1 a2 : Option Addr) (cc c1 c2 : Nat) (w : World) (hin : ParIn w par4 ca cc) (hA : RdE w a1 exA.parts) (hB : RdE w a2 exB.parts) (h1 : 2 ≤ c1) (h2 : c1 ≤ 9223372036854775807) (h3 : 2 ≤ c2) (h4 : c2 ≤ 9223372036854775807) :
    Calls Tryz.prog 13 #[.agg (cells4 ca cc), .agg #[.int .i64 1, .int .i64 1, .slice a1 2 c1], .agg #[.int .i64 1, .int .i64 1, .slice a2 2 c2]] w fun e w' => (∃ g b0 d0 b1 d1, e = .returned (.tuple #[.agg #[.int .i64 1, .int .i64 1, .slice (some ⟨g, 0, none⟩) 2 2], .int .i64 0]) ∧ g < w'.heap.size ∧
      (w'.cell? ⟨g, 0, none⟩ = some (.int .i64 1) ∧ w'.cell? ⟨g, 1, none⟩ = some (.bool false) ∧ w'.cell? ⟨g, 2, none⟩ = some (.slice b0 1 d0) ∧ RdR w' b0 [[6, 2, 3, 4]]) ∧
      (w'.cell? ⟨g, 3, none⟩ = some (.int .i64 1) ∧ w'.cell? ⟨g, 4, none⟩ = some (.bool false) ∧ w'.cell? ⟨g, 5, none⟩ = some (.slice b1 1 d1) ∧ RdR w' b1 [[0, 1, 0, 0]])) ∧ Below w.heap.size w w' :=
  (arAdd_yes par4 ca cc exA exB a1 a2 c1 c2 w hin (exMatch.1.ciIn hA h1 h2) (exMatch.2.1.ciIn hB h3 h4) exMatch).mono (fun e w' ⟨⟨g, e1, hg, hP⟩, hb⟩ => by
    obtain ⟨b0, d0, x0, x1, x2, x3⟩ := hP.cells (j := 0) (by decide) sumEx0
    obtain ⟨b1, d1, y0, y1, y2, y3⟩ := hP.cells (j := 1) (by decide) sumEx1
    exact ⟨⟨g, b0, d0, b1, d1, e1, World.block_lt_of_cell? w' _ x0, ⟨x0, x1, x2, x3⟩, ⟨y0, y1, y2, y3⟩⟩, hb⟩)
/-- The examples' product. -/
theorem arTensor_ex (ca a1 a2 : Option Addr) (cc c1 c2 : Nat) (w : World) (hin : ParIn w par4 ca cc) (hA : RdE w a1 exA.parts) (hB : RdE w a2 exB.parts) (h1 : 2 ≤ c1) (h2 : c1 ≤ 9223372036854775807) (h3 : 2 ≤ c2) (h4 : c2 ≤ 9223372036854775807) :
    Calls Tryz.prog 10 #[.agg (cells4 ca cc), .agg #[.int .i64 1, .int .i64 1, .slice a1 2 c1], .agg #[.int .i64 1, .int .i64 1, .slice a2 2 c2]] w fun e w' => (∃ g b0 d0 b1 d1 b2 d2, e = .returned (.tuple #[.agg #[.int .i64 1, .int .i64 1, .slice (some ⟨g, 0, none⟩) 3 3], .int .i64 0]) ∧ g < w'.heap.size ∧
      (w'.cell? ⟨g, 0, none⟩ = some (.int .i64 1) ∧ w'.cell? ⟨g, 1, none⟩ = some (.bool false) ∧ w'.cell? ⟨g, 2, none⟩ = some (.slice b0 1 d0) ∧ RdR w' b0 [[5, 10, 15, 20]]) ∧
      (w'.cell? ⟨g, 3, none⟩ = some (.int .i64 1) ∧ w'.cell? ⟨g, 4, none⟩ = some (.bool false) ∧ w'.cell? ⟨g, 5, none⟩ = some (.slice b1 1 d1) ∧ RdR w' b1 [[2147481205, 1, 2, 3]]) ∧
      (w'.cell? ⟨g, 6, none⟩ = some (.int .i64 1) ∧ w'.cell? ⟨g, 7, none⟩ = some (.bool false) ∧ w'.cell? ⟨g, 8, none⟩ = some (.slice b2 1 d2) ∧ RdR w' b2 [[0, 0, 0, 0]])) ∧ Below w.heap.size w w' :=
  (arTensor_yes par4 ca cc exA exB a1 a2 c1 c2 w hin (exMatch.1.ciIn hA h1 h2) (exMatch.2.1.ciIn hB h3 h4) exTens).mono (fun e w' ⟨⟨g, e1, hg, hP⟩, hb⟩ => by
    obtain ⟨b0, d0, x0, x1, x2, x3⟩ := hP.cells (j := 0) (by decide) tensEx0
    obtain ⟨b1, d1, y0, y1, y2, y3⟩ := hP.cells (j := 1) (by decide) tensEx1
    obtain ⟨b2, d2, z0, z1, z2, z3⟩ := hP.cells (j := 2) (by decide) tensEx2
    exact ⟨⟨g, b0, d0, b1, d1, b2, d2, e1, World.block_lt_of_cell? w' _ x0, ⟨x0, x1, x2, x3⟩, ⟨y0, y1, y2, y3⟩, ⟨z0, z1, z2, z3⟩⟩, hb⟩)
end Go.Proofs.YtcipjbckcnkfaaaGreat

namespace Go.Proofs.YtcipjbckcnkfaaaGreat
open Go.RowKit Go.Shelf
/-- A result of the program's: its rows may be overwritten. -/
def OwnRes (base : Nat) (C : Ci) (er : Int) (e : Ending) (w' : World) : Prop := CiRes base C er e w' ∧ ((C.parts = [] ∧ ∃ a c, e = .returned (.tuple #[.agg #[.int .i64 C.level, .int .i64 C.exponent, .slice a 0 c], .int .i64 er])) ∨ (∃ f : Nat → El, PutCi base C.level C.exponent C.parts.length f e w' ∧ er = 0 ∧ C.parts.length ≤ 1000 ∧ ∀ i, i < C.parts.length → (f i).rows.length ≤ 1000000 ∧ ∀ k, k < (f i).rows.length → ((f i).rows.getD k []).length ≤ 1000000))
theorem OwnRes.yes {base : Nat} {L X : Int} {many : Nat} {f : Nat → El} {e : Ending} {w : World} {p : Par} (h : PutCi base L X many f e w) (hm : many ≤ 3) (hg : Good p) (hf : ∀ i, i < many → ElOk p (f i)) : OwnRes base ⟨L, X, (List.range many).map f⟩ 0 e w :=
  ⟨h.res (by omega), .inr ⟨f, by simpa using h, rfl, by simp; omega, fun i hi => by
    have hi' : i < many := by simpa using hi
    have := (hf i hi').small hg
    exact ⟨by omega, fun k hk => by have := this.2 k hk; exact Nat.le_trans this (by omega)⟩⟩⟩
theorem OwnRes.no {base : Nat} {e : Ending} {w : World} (h : e = .returned (.tuple #[.agg #[.int .i64 0, .int .i64 0, .slice none 0 0], .int .i64 2])) : OwnRes base noCi 2 e w := ⟨noRes h, .inl ⟨rfl, none, 0, h⟩⟩
theorem add_both (p : Par) (ca : Option Addr) (cc : Nat) (A B : Ci) (aa ab : Option Addr) (cA cB : Nat) (w : World) (hin : ParIn w p ca cc) (hA : CiIn w A aa cA) (hB : CiIn w B ab cB) : ∃ (C : Ci) (er : Int), CiBig C ∧
    (∀ (w' : World) (ax ay : Option Addr) (cx cy : Nat), Below w.heap.size w w' → RdE w' ax A.parts → A.parts.length ≤ cx → cx ≤ 9223372036854775807 → RdE w' ay B.parts → B.parts.length ≤ cy → cy ≤ 9223372036854775807 →
      Calls Tryz.prog 13 #[.agg (p.cells ca cc), A.val ax cx, B.val ay cy] w' fun e w2 => OwnRes w'.heap.size C er e w2 ∧ Below w'.heap.size w' w2) ∧
    (∀ (w' : World), Below w.heap.size w w' → Calls Tryz.prog 14 #[.agg (p.cells ca cc), A.val aa cA, B.val ab cB] w' fun e w2 => CiRes w'.heap.size C er e w2 ∧ Below w'.heap.size w' w2) := by
  by_cases hok : CiMatch p A B
  · refine ⟨⟨A.level, A.exponent, (List.range (max A.parts.length B.parts.length)).map fun i => sumEl p (partZ p A i) (partZ p B i) 1⟩, 0, CiBig.of hok.1.1.1 (by have := hok.1.2.1; have := hok.2.1.2.1; omega) (fun i hi => sumEl_ok hok.1.1.1 (partZ_match hok (by have := hok.1.2.1; have := hok.2.1.2.1; omega))), fun w' ax ay cx cy hb h1 h2 h3 h4 h5 h6 => ?_, fun w' hb => ?_⟩
    · exact (arAdd_yes p ca cc A B ax ay cx cy w' (hin.below hb) (hA.copy h1 h2 h3) (hB.copy h4 h5 h6) hok).mono (fun e w2 h => ⟨OwnRes.yes h.1 (by have := hok.1.2.1; have := hok.2.1.2.1; omega) hok.1.1.1 (fun i hi => sumEl_ok hok.1.1.1 (partZ_match hok (by have := hok.1.2.1; have := hok.2.1.2.1; omega))), h.2⟩)
    · exact (r16Add_yes p ca cc A B aa ab cA cB w' (hin.below hb) (hA.below hb) (hB.below hb) hok).mono (fun e w2 h => ⟨GiveCi.res h.1, h.2⟩)
  · refine ⟨noCi, 2, CiBig.no, fun w' ax ay cx cy hb h1 h2 h3 h4 h5 h6 => ?_, fun w' hb => ?_⟩
    · exact (arAdd_no p ca cc A B ax ay cx cy w' (hin.below hb) (hA.copy h1 h2 h3) (hB.copy h4 h5 h6) hok).mono (fun e w2 h => ⟨OwnRes.no h.1, h.2⟩)
    · exact (r16Add_no p ca cc A B aa ab cA cB w' (hin.below hb) (hA.below hb) (hB.below hb) hok).mono (fun e w2 h => ⟨noRes h.1, h.2⟩)
theorem sub_both (p : Par) (ca : Option Addr) (cc : Nat) (A B : Ci) (aa ab : Option Addr) (cA cB : Nat) (w : World) (hin : ParIn w p ca cc) (hA : CiIn w A aa cA) (hB : CiIn w B ab cB) : ∃ (C : Ci) (er : Int), CiBig C ∧
    (∀ (w' : World) (ax ay : Option Addr) (cx cy : Nat), Below w.heap.size w w' → RdE w' ax A.parts → A.parts.length ≤ cx → cx ≤ 9223372036854775807 → RdE w' ay B.parts → B.parts.length ≤ cy → cy ≤ 9223372036854775807 →
      Calls Tryz.prog 16 #[.agg (p.cells ca cc), A.val ax cx, B.val ay cy] w' fun e w2 => OwnRes w'.heap.size C er e w2 ∧ Below w'.heap.size w' w2) ∧
    (∀ (w' : World), Below w.heap.size w w' → Calls Tryz.prog 17 #[.agg (p.cells ca cc), A.val aa cA, B.val ab cB] w' fun e w2 => CiRes w'.heap.size C er e w2 ∧ Below w'.heap.size w' w2) := by
  by_cases hok : CiMatch p A B
  · refine ⟨⟨A.level, A.exponent, (List.range (max A.parts.length B.parts.length)).map fun i => sumEl p (partZ p A i) (partZ p B i) (-1)⟩, 0, CiBig.of hok.1.1.1 (by have := hok.1.2.1; have := hok.2.1.2.1; omega) (fun i hi => sumEl_ok hok.1.1.1 (partZ_match hok (by have := hok.1.2.1; have := hok.2.1.2.1; omega))), fun w' ax ay cx cy hb h1 h2 h3 h4 h5 h6 => ?_, fun w' hb => ?_⟩
    · exact (arSub_yes p ca cc A B ax ay cx cy w' (hin.below hb) (hA.copy h1 h2 h3) (hB.copy h4 h5 h6) hok).mono (fun e w2 h => ⟨OwnRes.yes h.1 (by have := hok.1.2.1; have := hok.2.1.2.1; omega) hok.1.1.1 (fun i hi => sumEl_ok hok.1.1.1 (partZ_match hok (by have := hok.1.2.1; have := hok.2.1.2.1; omega))), h.2⟩)
    · exact (r16Sub_yes p ca cc A B aa ab cA cB w' (hin.below hb) (hA.below hb) (hB.below hb) hok).mono (fun e w2 h => ⟨GiveCi.res h.1, h.2⟩)
  · refine ⟨noCi, 2, CiBig.no, fun w' ax ay cx cy hb h1 h2 h3 h4 h5 h6 => ?_, fun w' hb => ?_⟩
    · exact (arSub_no p ca cc A B ax ay cx cy w' (hin.below hb) (hA.copy h1 h2 h3) (hB.copy h4 h5 h6) hok).mono (fun e w2 h => ⟨OwnRes.no h.1, h.2⟩)
    · exact (r16Sub_no p ca cc A B aa ab cA cB w' (hin.below hb) (hA.below hb) (hB.below hb) hok).mono (fun e w2 h => ⟨noRes h.1, h.2⟩)
end Go.Proofs.YtcipjbckcnkfaaaGreat

namespace Go.Proofs.YtcipjbckcnkfaaaGreat
open Go.RowKit Go.Shelf
attribute [local go_sem ↓] Go.wp_at_zero Go.wp_at_succ

/-- Blocks of words keep their size, others stay; below base nothing turns. -/
structure Sp (base : Nat) (w w' : World) : Prop where
  below : Below base w w'
  other : ∀ (k : Nat) (cs : Array Value) (t : TypeId), t ≠ 22 → w.heap[k]? = some (.cells cs t (0, 0)) → w'.heap[k]? = some (.cells cs t (0, 0))
  words : ∀ (k : Nat) (cs : Array Value), w.heap[k]? = some (.cells cs 22 (0, 0)) → ∃ cs', w'.heap[k]? = some (.cells cs' 22 (0, 0)) ∧ cs'.size = cs.size
/-- What a spoiling leaves. -/
def Spd (base : Nat) (w w' : World) : Prop := Below base w w' ∧ ∀ (k : Nat) (cs : Array Value) (t : TypeId), t ≠ 22 → w.heap[k]? = some (.cells cs t (0, 0)) → w'.heap[k]? = some (.cells cs t (0, 0))
theorem Sp.refl (base : Nat) (w : World) : Sp base w w := ⟨Below.refl _ _, fun _ _ _ _ h => h, fun _ cs h => ⟨cs, h, rfl⟩⟩
theorem Sp.cell {base k i : Nat} {w w' : World} {cs : Array Value} {t : TypeId} {v : Value} (h : Sp base w w') (hb : Blk w k t cs) (ht : t ≠ 22) (hv : cs[i]? = some v) : w'.cell? ⟨k, i, none⟩ = some v := by
  have h2 : Blk w' k t cs := h.other k cs t ht hb
  rw [h2.cell i]
  exact hv
theorem Sp.poke {base g i : Nat} {w w' : World} {cs : Array Value} (h : Sp base w w') (hg : base ≤ g) (hc : w.heap[g]? = some (.cells cs 22 (0, 0))) (u : Value) : Sp base w (w'.setCell ⟨g, i, none⟩ u) := by
  obtain ⟨cs', h1, h2⟩ := h.words g cs hc
  have hB : Blk w' g 22 cs' := h1
  refine ⟨bS h.below hg u, fun k ks t ht hk => ?_, fun k ks hk => ?_⟩
  · have hk2 := h.other k ks t ht hk
    by_cases e : k = g
    · subst e; rw [hc] at hk; cases hk; exact absurd rfl ht
    · exact (Below.heap_setCell w' ⟨g, i, none⟩ u k e).trans hk2
  · by_cases e : k = g
    · subst e
      rw [hc] at hk
      cases hk
      exact ⟨_, hB.set i u, by simp [h2]⟩
    · obtain ⟨ks', h3, h4⟩ := h.words k ks hk
      exact ⟨ks', (Below.heap_setCell w' ⟨g, i, none⟩ u k e).trans h3, h4⟩
/-- A row of the call's own. -/
theorem OwR.row {w : World} {base n c k : Nat} {ao : Option Addr} {rows : List (List Nat)} (h : OwR w base (.slice ao n c) rows) (hk : k < rows.length) : ∃ gh cur ro rc, ao = some ⟨gh, 0, none⟩ ∧ Blk w gh 23 cur ∧ cur[k]? = some (.slice ro (rows.getD k []).length rc) ∧
    ∀ j, j < (rows.getD k []).length → ∃ gr o cs, ro = some ⟨gr, o, none⟩ ∧ base ≤ gr ∧ w.heap[gr]? = some (.cells cs 22 (0, 0)) ∧ o + j < cs.size := by
  obtain ⟨vals, ho, hg, hr⟩ := h
  obtain ⟨ro, rc, v0, rd0, hl, hu⟩ := hr k hk
  rcases ho.2 with ⟨e, h0⟩ | ⟨g, cap, cur, e, hb, hh, hcap, hml, hcs, htk⟩
  · simp only [h0] at hk; omega
  · cases e
    refine ⟨g, cur, ro, rc, rfl, hh, ?_, fun j hj => ?_⟩
    · rw [← Array.getElem?_toList]
      have e := congrArg (·[k]?) htk
      simp only [Nat.mul_one] at e
      rw [List.getElem?_take, if_pos hk] at e
      rw [e]
      exact v0
    · obtain ⟨gr, o, rfl, hc⟩ := rd0 j hj
      obtain ⟨_, ⟨cs, hcs2⟩, hbg⟩ := hu _ rfl
      refine ⟨gr, o, cs, rfl, hbg, hcs2, ?_⟩
      have h1 := hc j hj
      have hB : Blk w gr 22 cs := hcs2
      rw [hB.cell (o + j)] at h1
      rcases Nat.lt_or_ge (o + j) cs.size with q | q
      · exact q
      · rw [Array.getElem?_eq_none q] at h1; cases h1

set_option maxHeartbeats 6400000 in
set_option maxRecDepth 100000 in
theorem spoil16_walk (base g many : Nat) (L X : Int) (f : Nat → El) (w : World) (hm : many ≤ 1000) (hP : Parts w g base many many f) (hbw : base ≤ w.heap.size) (hf : ∀ i, i < many → (f i).rows.length ≤ 1000000 ∧ ∀ k, k < (f i).rows.length → ((f i).rows.getD k []).length ≤ 1000000) :
    Calls Tryz.prog 15 #[.agg #[.int .i64 L, .int .i64 X, .slice (some ⟨g, 0, none⟩) many many]] w fun e w' => e = .returned (.tuple #[]) ∧ Spd base w w' := by
  obtain ⟨cs, p1, p2, p3⟩ := hP
  have HF := Lib.hid hf
  have HP := Lib.hid (fun i hi => p3 i hi)
  have HG := Lib.hid p1
  clear p1 p2 p3 hf
  go_enter Tryz.func15, Tryz.ntmps15
  go_wp2
  refine gen_w _ _ (fun W0 hW0 => ?_)
  have K0 : Hid (Blk W0 w.heap.size 28 #[.int .i64 L, .int .i64 X, .slice (some ⟨g, 0, none⟩) many many]) := Lib.hid (by rw [hW0]; exact (by repeat (first | exact Blk.newAt (by (first | omega | (simp only [World.size_alloc, sz_set, sz_drew, sz_drewN]; done) | (simp only [World.size_alloc, sz_set, sz_drew, sz_drewN]; omega))) | (with_reducible refine Blk.alloc ?_ _) | (with_reducible refine Blk.drew ?_) | (with_reducible refine Blk.drewN ?_ _) | (with_reducible refine Blk.belowB ?_ (Hid.out (by assumption)) ?szk; case szk => (first | omega | (simp only [World.size_alloc, sz_set, sz_drew, sz_drewN]; done) | (simp only [World.size_alloc, sz_set, sz_drew, sz_drewN]; omega))))))
  have HB0 : Hid (Below w.heap.size w W0) := Lib.hid (by rw [hW0]; exact (by with_reducible (repeat first | exact bR _ _ | assumption | exact ho (by assumption) | refine bD ?_ | refine bN ?_ _ | refine bA ?_ ?_ _ | refine bS ?_ ?_ _) <;> (first | omega | (simp <;> omega))))
  have HG0 := Lib.hid (HG.out.below HB0.out)
  have HP0 : Hid (∀ i, i < many → OwnPart W0 g base cs i (f i)) := Lib.hid (fun i hi => (HP.out i hi).below HB0.out)
  clear hW0 HG HP
  go_loopg [2] many (fun fu v2 wr => ∃ i : Nat, v2 = .int .i64 i ∧ i ≤ many ∧ many - i ≤ fu ∧ Hid (Sp base W0 wr))
  case atStart => exact ⟨0, rfl, by omega, by omega, Lib.hid (Sp.refl _ _)⟩
  case round =>
    obtain ⟨i, rfl, hi, hfu, HS⟩ := hrel
    have a2 := HS.out.cell (i := 2) K0.out (by decide) rfl
    by_cases hlt : i < many
    case neg =>
      obtain rfl : i = many := by omega
      go_wp2
      refine bodyPost_end (results_none rfl _ _ _) rfl ?_
      exact ⟨rfl, (HB0.out.mono hbw).trans HS.out.below, fun k cs t ht hk => HS.out.other k cs t ht ((HB0.out.block k (block_lt hk)).trans hk)⟩
    obtain ⟨ao, c, bj, q1, q2, q3, q4, q5, q6⟩ := HP0.out i hlt
    have HFi := Lib.hid (HF.out i hlt)
    obtain ⟨E, hE⟩ : ∃ E, f i = E := ⟨_, rfl⟩
    rw [hE] at q3 q4 HFi
    obtain ⟨m, hm'⟩ : ∃ m, E.rows.length = m := ⟨_, rfl⟩
    have HM := Lib.hid hm'
    rw [hm'] at q3 q4 HFi
    have HO := Lib.hid q4
    have hm1 := HFi.out.1
    have Q3 := Lib.hid q3
    have HQ5 := Lib.hid q5
    have i0 : (0 : Int) ≤ (i : Int) := Int.natCast_nonneg _
    have i1 : (i : Int) < (many : Int) := by omega
    clear q1 q2 q3 q4 q5 q6 hE hm'
    go_wp2
    obtain ⟨wo, rfl⟩ : ∃ wo, wo = wr := ⟨_, rfl⟩
    clear a2
    go_loopg [3] m (fun fu v3 wr => ∃ k : Nat, v3 = .int .i64 k ∧ k ≤ m ∧ m - k ≤ fu ∧ Hid (Sp base W0 wr))
    case atStart => exact ⟨0, rfl, by omega, by omega, HS⟩
    case round =>
      obtain ⟨k, rfl, hk, hfu2, HS2⟩ := hrel
      have a2 := HS2.out.cell (i := 2) K0.out (by decide) rfl
      have b2 := HS2.out.cell (i := i * 3 + 2) HG0.out (by decide) Q3.out
      by_cases hkl : k < m
      case neg =>
        obtain rfl : k = m := by omega
        go_wp2
        go_roundg (many - (i + 1))
        case measure => omega
        case rel => exact ⟨i + 1, by go_num, by omega, Nat.le_refl _, HS2⟩
      obtain ⟨gh, cur, ro, rc, rfl, hH, hcur, hw⟩ := HO.out.row (k := k) (by rw [HM.out]; exact hkl)
      have HHH := Lib.hid hH
      have HCU := Lib.hid hcur
      have HW := Lib.hid hw
      have hlen := HFi.out.2 k hkl
      obtain ⟨len, hlen'⟩ : ∃ len, (E.rows.getD k []).length = len := ⟨_, rfl⟩
      rw [hlen'] at HCU HW hlen
      have k0 : (0 : Int) ≤ (k : Int) := Int.natCast_nonneg _
      have k1 : (k : Int) < (m : Int) := by omega
      clear hH hcur hw hlen'
      go_wp2
      obtain ⟨wp', rfl⟩ : ∃ wp', wp' = wr := ⟨_, rfl⟩
      clear a2 b2
      go_loopg [4] len (fun fu v4 wr => ∃ j : Nat, v4 = .int .i64 j ∧ j ≤ len ∧ len - j ≤ fu ∧ Hid (Sp base W0 wr))
      case atStart => exact ⟨0, rfl, by omega, by omega, HS2⟩
      case round =>
        obtain ⟨j, rfl, hj, hfu3, HS3⟩ := hrel
        have a2 := HS3.out.cell (i := 2) K0.out (by decide) rfl
        have b2 := HS3.out.cell (i := i * 3 + 2) HG0.out (by decide) Q3.out
        have d2 := HS3.out.cell (i := k) HHH.out (by decide) HCU.out
        by_cases hjl : j < len
        case neg =>
          obtain rfl : j = len := by omega
          go_wp2
          go_roundg (m - (k + 1))
          case measure => omega
          case rel => exact ⟨k + 1, by go_num, by omega, Nat.le_refl _, HS3⟩
        obtain ⟨gr, o, us, rfl, hgr, hus, hsz⟩ := HW.out j hjl
        obtain ⟨us', hu1, hu2⟩ := HS3.out.words _ _ hus
        have hB : Blk wr gr 22 us' := hu1
        have x0 : ∃ x, wr.cell? ⟨gr, o + j, none⟩ = some x := ⟨us'[o + j]'(by omega), by rw [hB.cell]; exact Array.getElem?_eq_getElem _⟩
        obtain ⟨x, x0⟩ := x0
        have x1 := hB.free (o + j)
        have HPK := Lib.hid (fun u => HS3.out.poke (i := o + j) (Nat.le_trans HQ5.out hgr) hus u)
        have j0 : (0 : Int) ≤ (j : Int) := Int.natCast_nonneg _
        have j1 : (j : Int) < (len : Int) := by omega
        clear hus hu1 hu2 hB hgr hsz
        go_wp2
        go_roundg (len - (j + 1))
        case measure => omega
        case rel => exact ⟨j + 1, by go_num, by omega, Nat.le_refl _, Lib.hid (HPK.out _)⟩
set_option maxHeartbeats 6400000 in
theorem spoil16_nil (L X : Int) (a : Option Addr) (c : Nat) (w : World) : Calls Tryz.prog 15 #[.agg #[.int .i64 L, .int .i64 X, .slice a 0 c]] w fun e w' => e = .returned (.tuple #[]) ∧ Spd w.heap.size w w' := by
  have HD : Hid (∀ W, Below w.heap.size w W → Spd w.heap.size w W) := Lib.hid (fun W hb => ⟨hb, fun k cs t _ hk => (hb.block k (block_lt hk)).trans hk⟩)
  go_enter Tryz.func15, Tryz.ntmps15
  go_wp2
  go_loopg [2] 0 (fun fu v2 wr => v2 = .int .i64 0 ∧ Hid (wr = w.alloc (.cells #[.int .i64 L, .int .i64 X, .slice a 0 c] 28)))
  case atStart => exact ⟨rfl, Lib.hid rfl⟩
  case round =>
    obtain ⟨rfl, HW⟩ := hrel
    have a2 : wr.cell? ⟨w.heap.size, 2, none⟩ = some (.slice a 0 c) := by rw [HW.out]; exact (Blk.new _ _ _).cell 2
    go_wp2
    refine bodyPost_end (results_none rfl _ _ _) rfl ?_
    exact ⟨rfl, HD.out _ (by rw [HW.out]; exact (by with_reducible (repeat first | exact bR _ _ | assumption | exact ho (by assumption) | refine bD ?_ | refine bN ?_ _ | refine bA ?_ ?_ _ | refine bS ?_ ?_ _) <;> (first | omega | (simp <;> omega))))⟩
end Go.Proofs.YtcipjbckcnkfaaaGreat

namespace Go.Proofs.YtcipjbckcnkfaaaGreat
open Go.RowKit Go.Shelf

theorem Spd.blk {base k : Nat} {w w' : World} {cs : Array Value} {t : TypeId} (h : Spd base w w') (ht : t ≠ 22) (hb : Blk w k t cs) : Blk w' k t cs := h.2 k cs t ht hb
theorem OwnRes.spoil {base : Nat} {C : Ci} {er : Int} {e : Ending} {w : World} {a : Option Addr} {c : Nat} (h : OwnRes base C er e w) (he : e = .returned (.tuple #[.agg #[.int .i64 C.level, .int .i64 C.exponent, .slice a C.parts.length c], .int .i64 er])) (hb : base ≤ w.heap.size) :
    ∀ W, Kp elT base w W → Calls Tryz.prog 15 #[.agg #[.int .i64 C.level, .int .i64 C.exponent, .slice a C.parts.length c]] W fun e w' => e = .returned (.tuple #[]) ∧ Spd base W w' := fun W hK => by
  rcases h.2 with ⟨h0, _⟩ | ⟨f, hP, _, hm, hf⟩
  · rw [h0]
    exact (spoil16_nil C.level C.exponent a c W).mono (fun e w' ⟨h1, h2, h3⟩ => ⟨h1, h2.mono (Nat.le_trans hb hK.1), h3⟩)
  · obtain ⟨g, e1, hg, hP2⟩ := hP.kp hK
    rw [he] at e1
    simp only [Ending.returned.injEq, Value.tuple.injEq, Array.mk.injEq, List.cons.injEq, Value.agg.injEq, Value.slice.injEq, true_and, and_true] at e1
    obtain ⟨⟨rfl, rfl⟩, _⟩ := e1
    exact spoil16_walk base g C.parts.length C.level C.exponent f W hm hP2 (Nat.le_trans hb hK.1) hf
end Go.Proofs.YtcipjbckcnkfaaaGreat
