/- The program's Tensor.
The reference's Same of ciphertexts that are the same.
The examples of layer 16: equal words, a row, the parameters, the two ciphertexts.
Lists of words that are lent: a copy with a mark behind its end. -/
import Derived.Test.YtcipjbckcnkfaaaGreatPs43
import Derived.Test.YtcipjbckcnkfaaaGreatPs40
import Derived.Test.YtcipjbckcnkfaaaGreatPs06
import Derived.Test.YtcipjbckcnkfaaaGreatPs08
import Derived.Test.YtcipjbckcnkfaaaGreatPs25
import Derived.Test.YtcipjbckcnkfaaaGreatPs09
import Derived.Lib.AppendZeros
import Derived.Laws.OwnMore
import Derived.Laws.MakeOwn
set_option linter.unusedSimpArgs false
set_option linter.unusedVariables false
namespace Go.Proofs.YtcipjbckcnkfaaaGreat
open Go.RowKit Go.Shelf
attribute [local go_sem ↓] Go.wp_at_zero Go.wp_at_succ

/-- A product is made. -/
def TensOk (p : Par) (A B : Ci) : Prop := CiMatch p A B ∧ A.parts.length = 2 ∧ B.parts.length = 2
theorem fills_tensor {w : World} {pb ba bb : Nat} {p : Par} {ca : Option Addr} {cc : Nat} {A B : Ci} {aa ab : Option Addr} {cA cB : Nat} (hT : TensAt w pb ba bb p ca cc A B aa ab cA cB) (hg : Good p) (hok : TensOk p A B) :
    ∀ i, i < 3 → ∀ w', Below w.heap.size w w' → Calls Tryz.prog 37 (#[.int .i64 (i : Int)] ++ #[.pointer (some ⟨pb, 0, none⟩), .pointer (some ⟨ba, 0, none⟩), .pointer (some ⟨bb, 0, none⟩)]) w' fun e w2 => PutEl w'.heap.size (tensF p A B i) e w2 ∧ Below w'.heap.size w' w2 := fun i hi w' hb => by
  obtain ⟨hM, ha, hb2⟩ := hok
  have hT' := hT.below hb
  rcases Nat.lt_or_ge i 1 with h | h
  · obtain rfl : i = 0 := by omega
    exact tensor1_side pb ba bb 0 0 p ca cc A B aa ab cA cB w' hT' hg hM ha hb2 rfl (by omega)
  · rcases Nat.lt_or_ge i 2 with h2 | h2
    · obtain rfl : i = 1 := by omega
      exact tensor1_mid pb ba bb p ca cc A B aa ab cA cB w' hT' hg hM ha hb2
    · obtain rfl : i = 2 := by omega
      exact tensor1_side pb ba bb 1 2 p ca cc A B aa ab cA cB w' hT' hg hM ha hb2 rfl (by omega)

set_option maxHeartbeats 6400000 in
set_option maxRecDepth 100000 in
theorem arTensor_no (p : Par) (ca : Option Addr) (cc : Nat) (A B : Ci) (aa ab : Option Addr) (cA cB : Nat) (w : World) (hin : ParIn w p ca cc) (hA : CiIn w A aa cA) (hB : CiIn w B ab cB) (hno : ¬ TensOk p A B) :
    Calls Tryz.prog 10 #[.agg (p.cells ca cc), A.val aa cA, B.val ab cB] w fun e w' => e = .returned (.tuple #[.agg #[.int .i64 0, .int .i64 0, .slice none 0 0], .int .i64 2]) ∧ Below w.heap.size w w' := by
  have H1 := Lib.hid (fun (w' : World) (hb : Below w.heap.size w w') => arMatch_walk p ca cc A B aa ab cA cB w' (hin.below hb) (hA.below hb) (hB.below hb))
  have hma := hA.len
  have hmb := hB.len
  obtain ⟨ma, hma'⟩ : ∃ ma, A.parts.length = ma := ⟨_, rfl⟩
  obtain ⟨mb, hmb'⟩ : ∃ mb, B.parts.length = mb := ⟨_, rfl⟩
  have HNO : Hid (¬ (CiMatch p A B ∧ ma = 2 ∧ mb = 2)) := Lib.hid (by rw [← hma', ← hmb']; exact hno)
  unfold Ci.val Par.cells at *
  rw [hma', hmb'] at H1 ⊢
  rw [hma'] at hma
  rw [hmb'] at hmb
  clear hin hA hB hno hma' hmb'
  by_cases hM : CiMatch p A B
  case' neg =>
    rw [tr_neg hM] at H1
    clear hM
  case' pos =>
    rw [tr_pos hM] at H1
    by_cases h1 : ma = 2
    case' neg =>
      have g1 : ((ma : Int) != 2) = true := by simp; omega
      clear hM h1
    case' pos =>
      have h2 : mb ≠ 2 := fun h => HNO.out ⟨hM, h1, h⟩
      have g1 : ((ma : Int) != 2) = false := by simp; omega
      have g2 : ((mb : Int) != 2) = true := by simp; omega
      clear hM h1 h2
  all_goals (
    go_enter Tryz.func10, Tryz.ntmps10
    go_wp2_with fail
    (with_reducible refine Calls.mono (H1.out _ (by with_reducible (repeat first | exact bR _ _ | assumption | exact ho (by assumption) | refine bD ?_ | refine bN ?_ _ | refine bA ?_ ?_ _ | refine bS ?_ ?_ _) <;> (first | omega | (simp <;> omega)))) ?_)
    rintro e w2 ⟨rfl, hb⟩
    obtain ⟨hc_w2, hf_w2⟩ := bcell hb
    have HB_w2 : Hid (Below w.heap.size w w2) := Lib.hid (below_step (by with_reducible (repeat first | exact bR _ _ | assumption | exact ho (by assumption) | refine bD ?_ | refine bN ?_ _ | refine bA ?_ ?_ _ | refine bS ?_ ?_ _) <;> (first | omega | (simp <;> omega))) hb)
    have hs_w2 := hb.size
    try simp only [World.size_alloc, sz_set, sz_drew, sz_drewN] at hs_w2
    have q0_w2 : w.heap.size < w2.heap.size := by omega
    have q1_w2 : w.heap.size + 1 < w2.heap.size := by omega
    have q2_w2 : w.heap.size + 1 + 1 < w2.heap.size := by omega
    have q3_w2 : w.heap.size + 1 + 1 + 1 < w2.heap.size := by omega
    have HK_w2 := Lib.hid hb
    clear hb
    go_wp2
    refine bodyPost_ret (v := .tuple #[.agg #[.int .i64 0, .int .i64 0, .slice none 0 0], .int .i64 2]) (by simp [results, Tryz.results10, go_sem, hc_w2, q3_w2]) rfl ⟨rfl, (by with_reducible (repeat first | exact bR _ _ | assumption | exact ho (by assumption) | refine bD ?_ | refine bN ?_ _ | refine bA ?_ ?_ _ | refine bS ?_ ?_ _) <;> (first | omega | (simp <;> omega)))⟩)

set_option maxHeartbeats 6400000 in
set_option maxRecDepth 100000 in
theorem arTensor_yes (p : Par) (ca : Option Addr) (cc : Nat) (A B : Ci) (aa ab : Option Addr) (cA cB : Nat) (w : World) (hin : ParIn w p ca cc) (hA : CiIn w A aa cA) (hB : CiIn w B ab cB) (hok : TensOk p A B) :
    Calls Tryz.prog 10 #[.agg (p.cells ca cc), A.val aa cA, B.val ab cB] w fun e w' => PutCi w.heap.size A.level A.exponent 3 (tensF p A B) e w' ∧ Below w.heap.size w w' := by
  have hg := hok.1.1.1.1
  have H1 := Lib.hid (fun (w' : World) (hb : Below w.heap.size w w') => arMatch_walk p ca cc A B aa ab cA cB w' (hin.below hb) (hA.below hb) (hB.below hb))
  rw [tr_pos hok.1] at H1
  have H2 : Hid (∀ w', Below w.heap.size w w' → Blk w' w.heap.size 25 (p.cells ca cc) → Blk w' (w.heap.size + 1) 28 #[.int .i64 A.level, .int .i64 A.exponent, .slice aa A.parts.length cA] → Blk w' (w.heap.size + 1 + 1) 28 #[.int .i64 B.level, .int .i64 B.exponent, .slice ab B.parts.length cB] →
      Calls Tryz.prog 36 #[A.val aa cA, .int .i64 3, .func (.func 37) #[] #[.pointer (some ⟨w.heap.size, 0, none⟩), .pointer (some ⟨w.heap.size + 1, 0, none⟩), .pointer (some ⟨w.heap.size + 1 + 1, 0, none⟩)]] w' fun e w2 => PutCi w'.heap.size A.level A.exponent 3 (tensF p A B) e w2 ∧ Below w'.heap.size w' w2) := Lib.hid (fun w' hb h0 h1 h2 =>
    arMade_walk A.level A.exponent aa A.parts.length cA 3 _ _ (tensF p A B) w' (by omega) enters_tensor1 (fills_tensor ⟨h0, h1, h2, hin.below hb, hA.rd.below hb, hB.rd.below hb⟩ hg hok))
  have ha := hok.2.1
  have hb' := hok.2.2
  obtain ⟨f, hf⟩ : ∃ f, tensF p A B = f := ⟨_, rfl⟩
  rw [hf] at H2 ⊢
  unfold PutCi Ci.val Par.cells at *
  rw [ha, hb'] at H1 H2 ⊢
  clear hin hA hB hok hg ha hb' hf
  go_enter Tryz.func10, Tryz.ntmps10
  go_wp2_with fail
  (with_reducible refine Calls.mono (H1.out _ (by with_reducible (repeat first | exact bR _ _ | assumption | exact ho (by assumption) | refine bD ?_ | refine bN ?_ _ | refine bA ?_ ?_ _ | refine bS ?_ ?_ _) <;> (first | omega | (simp <;> omega)))) ?_)
  rintro e w2 ⟨rfl, hb⟩
  obtain ⟨hc_w2, hf_w2⟩ := bcell hb
  have HB_w2 : Hid (Below w.heap.size w w2) := Lib.hid (below_step (by with_reducible (repeat first | exact bR _ _ | assumption | exact ho (by assumption) | refine bD ?_ | refine bN ?_ _ | refine bA ?_ ?_ _ | refine bS ?_ ?_ _) <;> (first | omega | (simp <;> omega))) hb)
  have hs_w2 := hb.size
  try simp only [World.size_alloc, sz_set, sz_drew, sz_drewN] at hs_w2
  have q0_w2 : w.heap.size < w2.heap.size := by omega
  have q1_w2 : w.heap.size + 1 < w2.heap.size := by omega
  have q2_w2 : w.heap.size + 1 + 1 < w2.heap.size := by omega
  have q3_w2 : w.heap.size + 1 + 1 + 1 < w2.heap.size := by omega
  have HK_w2 := Lib.hid hb
  clear hb
  go_wp2_with fail
  (with_reducible refine Calls.mono (H2.out _ (by with_reducible (repeat first | exact bR _ _ | assumption | exact ho (by assumption) | refine bD ?_ | refine bN ?_ _ | refine bA ?_ ?_ _ | refine bS ?_ ?_ _) <;> (first | omega | (simp <;> omega))) (by repeat (first | exact Blk.newAt (by (first | omega | (simp only [World.size_alloc, sz_set, sz_drew, sz_drewN]; done) | (simp only [World.size_alloc, sz_set, sz_drew, sz_drewN]; omega))) | (with_reducible refine Blk.alloc ?_ _) | (with_reducible refine Blk.drew ?_) | (with_reducible refine Blk.drewN ?_ _) | (with_reducible refine Blk.belowB ?_ (Hid.out (by assumption)) ?szk; case szk => (first | omega | (simp only [World.size_alloc, sz_set, sz_drew, sz_drewN]; done) | (simp only [World.size_alloc, sz_set, sz_drew, sz_drewN]; omega))))) (by repeat (first | exact Blk.newAt (by (first | omega | (simp only [World.size_alloc, sz_set, sz_drew, sz_drewN]; done) | (simp only [World.size_alloc, sz_set, sz_drew, sz_drewN]; omega))) | (with_reducible refine Blk.alloc ?_ _) | (with_reducible refine Blk.drew ?_) | (with_reducible refine Blk.drewN ?_ _) | (with_reducible refine Blk.belowB ?_ (Hid.out (by assumption)) ?szk; case szk => (first | omega | (simp only [World.size_alloc, sz_set, sz_drew, sz_drewN]; done) | (simp only [World.size_alloc, sz_set, sz_drew, sz_drewN]; omega))))) (by repeat (first | exact Blk.newAt (by (first | omega | (simp only [World.size_alloc, sz_set, sz_drew, sz_drewN]; done) | (simp only [World.size_alloc, sz_set, sz_drew, sz_drewN]; omega))) | (with_reducible refine Blk.alloc ?_ _) | (with_reducible refine Blk.drew ?_) | (with_reducible refine Blk.drewN ?_ _) | (with_reducible refine Blk.belowB ?_ (Hid.out (by assumption)) ?szk; case szk => (first | omega | (simp only [World.size_alloc, sz_set, sz_drew, sz_drewN]; done) | (simp only [World.size_alloc, sz_set, sz_drew, sz_drewN]; omega)))))) ?_)
  rintro e w3 ⟨⟨g, rfl, hgb, hP⟩, hb⟩
  have HP := Lib.hid hP
  clear hP
  obtain ⟨hc_w3, hf_w3⟩ := bcell hb
  have HB_w3 : Hid (Below w.heap.size w w3) := Lib.hid (below_step (by with_reducible (repeat first | exact bR _ _ | assumption | exact ho (by assumption) | refine bD ?_ | refine bN ?_ _ | refine bA ?_ ?_ _ | refine bS ?_ ?_ _) <;> (first | omega | (simp <;> omega))) hb)
  have hs_w3 := hb.size
  try simp only [World.size_alloc, sz_set, sz_drew, sz_drewN] at hs_w3
  have q0_w3 : w.heap.size < w3.heap.size := by omega
  have q1_w3 : w.heap.size + 1 < w3.heap.size := by omega
  have q2_w3 : w.heap.size + 1 + 1 < w3.heap.size := by omega
  have q3_w3 : w.heap.size + 1 + 1 + 1 < w3.heap.size := by omega
  have HK_w3 := Lib.hid hb
  clear hb
  go_wp2
  refine bodyPost_ret (v := .tuple #[.agg #[.int .i64 A.level, .int .i64 A.exponent, .slice (some ⟨g, 0, none⟩) 3 3], .int .i64 0]) (by simp [results, Tryz.results10, go_sem, hc_w3, hc_w2, q3_w2, q3_w3]) rfl ⟨⟨g, rfl, by omega, ?_⟩, (by with_reducible (repeat first | exact bR _ _ | assumption | exact ho (by assumption) | refine bD ?_ | refine bN ?_ _ | refine bA ?_ ?_ _ | refine bS ?_ ?_ _) <;> (first | omega | (simp <;> omega)))⟩
  obtain ⟨cs, p1, p2, p3⟩ := HP.out
  refine ⟨cs, ((p1.far (p := ⟨w.heap.size + 1 + 1 + 1, 0, none⟩) (by (try dsimp only); omega) _).far (p := ⟨w.heap.size + 1 + 1 + 1, 1, none⟩) (by (try dsimp only); omega) _).far (p := ⟨w.heap.size + 1 + 1 + 1, 2, none⟩) (by (try dsimp only); omega) _, p2, fun j hj => ?_⟩
  obtain ⟨ao', c', bj, q1, q2, q3, q4, q5, q6⟩ := p3 j hj
  exact ⟨ao', c', bj, q1, q2, q3, q4.turn (S := [w.heap.size + 1 + 1 + 1]) ((((Turn.refl w3 _).setCell (p := ⟨w.heap.size + 1 + 1 + 1, 0, none⟩) (.inl (by simp)) _).setCell (p := ⟨w.heap.size + 1 + 1 + 1, 1, none⟩) (.inl (by simp)) _).setCell (p := ⟨w.heap.size + 1 + 1 + 1, 2, none⟩) (.inl (by simp)) _) (fun x hx => by simp at hx; omega), by omega, q6⟩
end Go.Proofs.YtcipjbckcnkfaaaGreat

namespace Go.Proofs.YtcipjbckcnkfaaaGreat
open Go.RowKit Go.Shelf
attribute [local go_sem ↓] Go.wp_at_zero Go.wp_at_succ

set_option maxHeartbeats 6400000 in
set_option maxRecDepth 100000 in
theorem r14Same_walk (C : Ci) (a1 a2 : Option Addr) (c1 c2 : Nat) (w : World) (hn : C.parts.length ≤ 9223372036854775807) (hf : ∀ i, i < C.parts.length → (C.part i).rows.length ≤ 9223372036854775807 ∧ ∀ j, j < (C.part i).rows.length → ((C.part i).row j).length ≤ 9223372036854775807) (h1 : RdE w a1 C.parts) (h2 : RdE w a2 C.parts) :
    Calls Tryz.prog 12 #[C.val a1 c1, C.val a2 c2] w fun e w' => e = .returned (.bool true) ∧ Below w.heap.size w w' := by
  have HS := Lib.hid (fun (i : Nat) (hi : i < C.parts.length) (w' : World) (x1 x2 : Option Addr) (k1 k2 : Nat) (g1 : RdR w' x1 (C.part i).rows) (g2 : RdR w' x2 (C.part i).rows) => r09Same_walk (C.part i) x1 x2 k1 k2 w' (hf i hi).1 (hf i hi).2 g1 g2)
  have HR1 := Lib.hid h1
  have HR2 := Lib.hid h2
  obtain ⟨n, hn'⟩ : ∃ n, C.parts.length = n := ⟨_, rfl⟩
  have HL := Lib.hid hn'
  unfold Ci.val El.val at *
  rw [hn'] at hn HS ⊢
  clear hf h1 h2 hn'
  go_enter Tryz.func12, Tryz.ntmps12
  go_wp2
  go_loopg [5] n (fun fu v5 wr => ∃ k : Nat, v5 = .int .i64 k ∧ k ≤ n ∧ n - k ≤ fu ∧ Hid (Below w.heap.size w wr) ∧ Hid (Blk wr w.heap.size 28 #[.int .i64 C.level, .int .i64 C.exponent, .slice a1 n c1]) ∧ Hid (Blk wr (w.heap.size + 1) 28 #[.int .i64 C.level, .int .i64 C.exponent, .slice a2 n c2]))
  case atStart => exact ⟨0, rfl, by omega, by omega, Lib.hid (by with_reducible (repeat first | exact bR _ _ | assumption | exact ho (by assumption) | refine bD ?_ | refine bN ?_ _ | refine bA ?_ ?_ _ | refine bS ?_ ?_ _) <;> (first | omega | (simp <;> omega))), Lib.hid (by repeat (first | exact Blk.newAt (by (first | omega | (simp only [World.size_alloc, sz_set, sz_drew, sz_drewN]; done) | (simp only [World.size_alloc, sz_set, sz_drew, sz_drewN]; omega))) | (with_reducible refine Blk.alloc ?_ _) | (with_reducible refine Blk.drew ?_) | (with_reducible refine Blk.drewN ?_ _) | (with_reducible refine Blk.belowB ?_ (Hid.out (by assumption)) ?szk; case szk => (first | omega | (simp only [World.size_alloc, sz_set, sz_drew, sz_drewN]; done) | (simp only [World.size_alloc, sz_set, sz_drew, sz_drewN]; omega))))), Lib.hid (by repeat (first | exact Blk.newAt (by (first | omega | (simp only [World.size_alloc, sz_set, sz_drew, sz_drewN]; done) | (simp only [World.size_alloc, sz_set, sz_drew, sz_drewN]; omega))) | (with_reducible refine Blk.alloc ?_ _) | (with_reducible refine Blk.drew ?_) | (with_reducible refine Blk.drewN ?_ _) | (with_reducible refine Blk.belowB ?_ (Hid.out (by assumption)) ?szk; case szk => (first | omega | (simp only [World.size_alloc, sz_set, sz_drew, sz_drewN]; done) | (simp only [World.size_alloc, sz_set, sz_drew, sz_drewN]; omega)))))⟩
  case round =>
    obtain ⟨k, rfl, hk, hfu, HB, H1, H2⟩ := hrel
    obtain ⟨d0, d1, d2⟩ := el_cells H1.out
    obtain ⟨e0, e1, e2⟩ := el_cells H2.out
    by_cases hkl : k < n
    case neg =>
      obtain rfl : k = n := by omega
      go_wp2
      go_ret
      exact ⟨rfl, (by with_reducible (repeat first | exact bR _ _ | assumption | exact ho (by assumption) | refine bD ?_ | refine bN ?_ _ | refine bA ?_ ?_ _ | refine bS ?_ ?_ _) <;> (first | omega | (simp <;> omega)))⟩
    obtain ⟨b1, o1, rfl, hA⟩ := (HR1.out.below HB.out) k (by rw [HL.out]; exact hkl)
    obtain ⟨r1, s1, x0, x1, x2, x3, _⟩ := hA k (by rw [HL.out]; exact hkl)
    obtain ⟨b2, o2, rfl, hB⟩ := (HR2.out.below HB.out) k (by rw [HL.out]; exact hkl)
    obtain ⟨r2, s2, y0, y1, y2, y3, _⟩ := hB k (by rw [HL.out]; exact hkl)
    rw [show C.parts.getD k ⟨0, false, []⟩ = C.part k from rfl] at x0 x1 x2 x3 y0 y1 y2 y3
    have HC := Lib.hid (fun (w' : World) (hb : Below wr.heap.size wr w') => HS.out k hkl w' r1 r2 s1 s2 (x3.below hb) (y3.below hb))
    obtain ⟨E, hE⟩ : ∃ E, C.part k = E := ⟨_, rfl⟩
    rw [hE] at HC x0 x1 x2 y0 y1 y2
    have i0 : (0 : Int) ≤ (k : Int) := Int.natCast_nonneg _
    have i1 : (k : Int) < (n : Int) := by omega
    clear hA hB x3 y3 hE
    go_wp2
    have hS : (fun w' : World => w'.cell? ⟨w.heap.size, 2, none⟩ = some (.slice (some ⟨b1, o1, none⟩) n c1) ∧ w'.cell? ⟨w.heap.size + 1, 2, none⟩ = some (.slice (some ⟨b2, o2, none⟩) n c2) ∧ w'.cell? ⟨b1, o1 + k * 3, none⟩ = some (.int .i64 E.level) ∧ w'.cell? ⟨b1, o1 + k * 3 + 1, none⟩ = some (.bool E.special) ∧ w'.cell? ⟨b1, o1 + k * 3 + 2, none⟩ = some (.slice r1 E.rows.length s1) ∧ w'.cell? ⟨b2, o2 + k * 3, none⟩ = some (.int .i64 E.level) ∧ w'.cell? ⟨b2, o2 + k * 3 + 1, none⟩ = some (.bool E.special) ∧ w'.cell? ⟨b2, o2 + k * 3 + 2, none⟩ = some (.slice r2 E.rows.length s2)) wr.drew := ⟨d2, e2, x0, x1, x2, y0, y1, y2⟩
    have HK : Hid (∀ w', Below wr.heap.size wr w' → w'.cell? ⟨w.heap.size, 2, none⟩ = some (.slice (some ⟨b1, o1, none⟩) n c1) ∧ w'.cell? ⟨w.heap.size + 1, 2, none⟩ = some (.slice (some ⟨b2, o2, none⟩) n c2) ∧ w'.cell? ⟨b1, o1 + k * 3, none⟩ = some (.int .i64 E.level) ∧ w'.cell? ⟨b1, o1 + k * 3 + 1, none⟩ = some (.bool E.special) ∧ w'.cell? ⟨b1, o1 + k * 3 + 2, none⟩ = some (.slice r1 E.rows.length s1) ∧ w'.cell? ⟨b2, o2 + k * 3, none⟩ = some (.int .i64 E.level) ∧ w'.cell? ⟨b2, o2 + k * 3 + 1, none⟩ = some (.bool E.special) ∧ w'.cell? ⟨b2, o2 + k * 3 + 2, none⟩ = some (.slice r2 E.rows.length s2)) := Lib.hid (fun w' hb => by
      have t : ∀ {a : Addr} {v : Value}, wr.cell? a = some v → w'.cell? a = some v := fun {a v} h => (hb.cell (World.block_lt_of_cell? wr _ h)).trans h
      exact ⟨t d2, t e2, t x0, t x1, t x2, t y0, t y1, t y2⟩)
    refine wp_region_L (fun w' => w'.cell? ⟨w.heap.size, 2, none⟩ = some (.slice (some ⟨b1, o1, none⟩) n c1) ∧ w'.cell? ⟨w.heap.size + 1, 2, none⟩ = some (.slice (some ⟨b2, o2, none⟩) n c2) ∧ w'.cell? ⟨b1, o1 + k * 3, none⟩ = some (.int .i64 E.level) ∧ w'.cell? ⟨b1, o1 + k * 3 + 1, none⟩ = some (.bool E.special) ∧ w'.cell? ⟨b1, o1 + k * 3 + 2, none⟩ = some (.slice r1 E.rows.length s1) ∧ w'.cell? ⟨b2, o2 + k * 3, none⟩ = some (.int .i64 E.level) ∧ w'.cell? ⟨b2, o2 + k * 3 + 1, none⟩ = some (.bool E.special) ∧ w'.cell? ⟨b2, o2 + k * 3 + 2, none⟩ = some (.slice r2 E.rows.length s2)) 12 (by kernel_rfl) (by kernel_rfl) (by kernel_rfl) ?_
    refine tJ 0 (v := ?_) (by assumption) ?_ ?_
    rotate_left
    · (intro w h; (try dsimp only at h); go_simp; try with_reducible rfl)
    try simp only [Act.put, gA, gB, gC, sA, sB, sC]
    refine tJ 1 (v := ?_) (by assumption) ?_ ?_
    rotate_left
    · (intro w h; (try dsimp only at h); go_simp; try with_reducible rfl)
    try simp only [Act.put, gA, gB, gC, sA, sB, sC]
    refine tJ 2 (v := ?_) (by assumption) ?_ ?_
    rotate_left
    · (intro w h; (try dsimp only at h); go_simp; try with_reducible rfl)
    try simp only [Act.put, gA, gB, gC, sA, sB, sC]
    refine tJ 3 (v := ?_) (by assumption) ?_ ?_
    rotate_left
    · (intro w h; (try dsimp only at h); go_simp; try with_reducible rfl)
    try simp only [Act.put, gA, gB, gC, sA, sB, sC]
    refine tJ 4 (v := ?_) (by assumption) ?_ ?_
    rotate_left
    · (intro w h; (try dsimp only at h); go_simp; try with_reducible rfl)
    try simp only [Act.put, gA, gB, gC, sA, sB, sC]
    refine tJ 5 (v := ?_) (by assumption) ?_ ?_
    rotate_left
    · (intro w h; (try dsimp only at h); go_simp; try with_reducible rfl)
    try simp only [Act.put, gA, gB, gC, sA, sB, sC]
    refine tJ 6 (v := ?_) (by assumption) ?_ ?_
    rotate_left
    · (intro w h; (try dsimp only at h); go_simp; try with_reducible rfl)
    try simp only [Act.put, gA, gB, gC, sA, sB, sC]
    refine tJ 7 (v := ?_) (by assumption) ?_ ?_
    rotate_left
    · (intro w h; (try dsimp only at h); go_simp; try with_reducible rfl)
    try simp only [Act.put, gA, gB, gC, sA, sB, sC]
    refine tJ 8 (v := ?_) (by assumption) ?_ ?_
    rotate_left
    · (intro w h; (try dsimp only at h); go_simp; try with_reducible rfl)
    try simp only [Act.put, gA, gB, gC, sA, sB, sC]
    refine tJ 9 (v := ?_) (by assumption) ?_ ?_
    rotate_left
    · (intro w h; (try dsimp only at h); go_simp; try with_reducible rfl)
    try simp only [Act.put, gA, gB, gC, sA, sB, sC]
    clear d0 d1 d2 e0 e1 e2 x0 x1 x2 y0 y1 y2
    refine wpL.eff 10 rfl (by kernel_rfl) rfl ?_
    intro K hK
    go_wp2_with fail
    (with_reducible refine Calls.mono (HC.out _ (by with_reducible (repeat first | exact bR _ _ | assumption | exact ho (by assumption) | refine bD ?_ | refine bN ?_ _ | refine bA ?_ ?_ _ | refine bS ?_ ?_ _) <;> (first | omega | (simp <;> omega)))) ?_)
    rintro e w2 ⟨rfl, hb⟩
    have HB2 : Hid (Below wr.heap.size wr w2) := Lib.hid (below_step' (by with_reducible (repeat first | exact bR _ _ | assumption | exact ho (by assumption) | refine bD ?_ | refine bN ?_ _ | refine bA ?_ ?_ _ | refine bS ?_ ?_ _) <;> (first | omega | (simp <;> omega))) hb)
    clear hb
    refine hK _ _ (HK.out _ HB2.out) (fun hS => ?_)
    clear hK
    try simp only [Act.put, gA, gB, gC, sA, sB, sC]
    refine tJ 11 (v := ?_) (by assumption) ?_ ?_
    rotate_left
    · (intro w h; (try dsimp only at h); go_simp; try with_reducible rfl)
    try simp only [Act.put, gA, gB, gC, sA, sB, sC]
    refine wpL.done (by kernel_rfl) ?_
    go_wp2
    go_roundg (n - (k + 1))
    case measure => omega
    case rel => exact ⟨k + 1, by go_num, by omega, Nat.le_refl _, Lib.hid (HB.out.trans (HB2.out.mono HB.out.size)), Lib.hid (H1.out.below HB2.out), Lib.hid (H2.out.below HB2.out)⟩
end Go.Proofs.YtcipjbckcnkfaaaGreat

namespace Go.Proofs.YtcipjbckcnkfaaaGreat
open Go.RowKit Go.Shelf
attribute [local go_sem ↓] Go.wp_at_zero Go.wp_at_succ

set_option maxHeartbeats 1600000 in
theorem sameWordsN_walk (a1 a2 : Option Addr) (c1 c2 : Nat) (l : List Nat) (w : World) (hn : l.length ≤ 9223372036854775807) (h1 : Rd w a1 l) (h2 : Rd w a2 l) :
    Calls Tryz.prog 69 #[.slice a1 l.length c1, .slice a2 l.length c2] w fun e w' => e = .returned (.bool true) ∧ Below w.heap.size w w' := by
  obtain ⟨n, hn'⟩ : ∃ n, l.length = n := ⟨_, rfl⟩
  rw [hn'] at hn ⊢
  have HN := Lib.hid hn'
  have H1 := Lib.hid h1
  have H2 := Lib.hid h2
  clear h1 h2 hn'
  go_enter Tryz.func69, Tryz.ntmps69
  go_wp2
  go_loopg [5] n (fun k vi wr => ∃ i : Nat, vi = .int .i64 i ∧ i ≤ n ∧ n - i ≤ k ∧ Hid (Below w.heap.size w wr))
  case atStart => exact ⟨0, rfl, by omega, by omega, Lib.hid (Below.refl _ _)⟩
  case round =>
    obtain ⟨i, rfl, hi, hk, HB⟩ := hrel
    by_cases hlt : i < n
    · obtain ⟨b1, o1, rfl, hc1⟩ := (H1.out.below HB.out) i (by rw [HN.out]; exact hlt)
      obtain ⟨b2, o2, rfl, hc2⟩ := (H2.out.below HB.out) i (by rw [HN.out]; exact hlt)
      have d1 := hc1 i (by rw [HN.out]; exact hlt)
      have d2 := hc2 i (by rw [HN.out]; exact hlt)
      obtain ⟨x, hx⟩ : ∃ x, l.getD i 0 = x := ⟨_, rfl⟩
      rw [hx] at d1 d2
      clear hx hc1 hc2
      go_wp2
      go_quiet (fail)
      go_wp2
      go_roundg (n - (i + 1))
      case measure => omega
      case rel => exact ⟨i + 1, by go_num, by omega, Nat.le_refl _, Lib.hid (below_step HB.out ((Turn.refl wr []).drewN _).below)⟩
    · obtain rfl : i = n := by omega
      go_wp2
      go_ret
      exact ⟨rfl, HB.out⟩

/-- One row: its cells; a store into it. -/
theorem OwR.poke {w : World} {base c j : Nat} {ao : Option Addr} {r : List Nat} (h : OwR w base (.slice ao 1 c) [r]) (hj : j < r.length) : ∃ gh gr o rc, ao = some ⟨gh, 0, none⟩ ∧ w.cell? ⟨gh, 0, none⟩ = some (.slice (some ⟨gr, o, none⟩) r.length rc) ∧ w.cell? ⟨gr, o + j, none⟩ = some (.int .u32 ((r.getD j 0 : Nat) : Int)) ∧
    (∀ i, w.frozen? ⟨gr, i, none⟩ = false) ∧ base ≤ gr ∧ (∃ cs, w.heap[gr]? = some (.cells cs 22 (0, 0))) ∧ ∀ W, Kp rowT base w W → ∀ u : Nat, OwR (W.setCell ⟨gr, o + j, none⟩ (.int .u32 (u : Int))) base (.slice ao 1 c) [r.set j u] := by
  obtain ⟨vals, ho, hg, hr⟩ := h
  obtain ⟨ro, rc, v0, rd0, hl, hu⟩ := hr 0 (by simp)
  simp only [List.getD_cons_zero] at v0 rd0 hl
  rcases ho.2 with ⟨_, h0⟩ | ⟨g, cap, cur, e, hb, hh, hcap, hml, hcs, htk⟩
  · simp at h0
  cases e
  obtain ⟨gr, o, rfl, hc⟩ := rd0 j hj
  obtain ⟨hne, ⟨cs, hcs2⟩, hbg⟩ := hu _ rfl
  simp only [Value.ownBlock, ne_eq, Option.some.injEq] at hne
  have hcell : w.cell? ⟨g, 0, none⟩ = some (.slice (some ⟨gr, o, none⟩) r.length rc) := by
    rw [cell_of_row w g 0 cur _ _ hh, ← Array.getElem?_toList]
    have e := congrArg (·[0]?) htk
    simp only [List.length_cons, List.length_nil, Nat.zero_add, Nat.mul_one] at e
    rw [List.getElem?_take, if_pos (by omega)] at e
    rw [e]
    exact v0
  have hfr : ∀ i, w.frozen? ⟨gr, i, none⟩ = false := fun i => Blk.free (t := 22) (cs := cs) hcs2 i
  refine ⟨g, gr, o, rc, rfl, hcell, hc j hj, hfr, hbg, ⟨cs, hcs2⟩, fun W hK u => ?_⟩
  have hhW := hK.2 _ _ _ hb (by decide) hh
  have hs : (W.setCell ⟨gr, o + j, none⟩ (.int .u32 (u : Int))).heap.size = W.heap.size := sz_set _ _ _
  have hBw : Blk w gr 22 cs := hcs2
  have hB : Blk W gr 22 cs := hK.2 _ _ _ hbg (by decide) hcs2
  have hB2 := hB.set (o + j) (.int .u32 (u : Int))
  have hcsz : ∀ i, i < r.length → cs[o + i]? = some (.int .u32 ((r.getD i 0 : Nat) : Int)) := fun i hi => by rw [← hBw.cell (o + i)]; exact hc i hi
  refine ⟨vals, ⟨by simpa using ho.1, .inr ⟨g, _, cur, rfl, hb, ?_, hcap, hml, hcs, htk⟩⟩, fun x hx => by rw [hs]; exact Nat.lt_of_lt_of_le (hg x hx) hK.1, fun i hi => ?_⟩
  · exact (Below.heap_setCell W ⟨gr, o + j, none⟩ _ g (fun e => hne e)).trans hhW
  · obtain rfl : i = 0 := by simp at hi; omega
    refine ⟨_, rc, by simpa using v0, fun k hk => ⟨gr, o, rfl, fun t ht => ?_⟩, by simpa using hl, fun a e => ?_⟩
    · simp only [List.getD_cons_zero, List.length_set] at hk ht ⊢
      rw [hB2.cell (o + t), Array.getElem?_setIfInBounds]
      by_cases e : j = t
      · subst e
        rw [if_pos rfl, if_pos (by have := hcsz j hj; rcases Nat.lt_or_ge (o + j) cs.size with q | q; exact q; rw [Array.getElem?_eq_none q] at this; cases this)]
        simp [List.getD_eq_getElem?_getD, ht]
      · rw [if_neg (by omega), hcsz t ht]
        simp [List.getD_eq_getElem?_getD, List.getElem?_set, e]
    · cases e
      exact ⟨by simpa [Value.ownBlock] using hne, ⟨_, hB2⟩, hbg⟩

set_option maxHeartbeats 1600000 in
set_option maxRecDepth 100000 in
theorem row16_walk (E : El) (r : List Nat) (ao al : Option Addr) (c cl : Nat) (w : World) (hE : E.rows = [r]) (hn : r.length ≤ 9223372036854775807) (h1 : RdR w ao E.rows) (h2 : Rd w al r) :
    Calls Tryz.prog 33 #[E.val ao c, .slice al r.length cl] w fun e w' => e = .returned (.bool true) ∧ Below w.heap.size w w' := by
  obtain ⟨b, o, rfl, hc⟩ := h1 0 (by rw [hE]; simp)
  obtain ⟨ro, rc, x0, x1, _⟩ := hc 0 (by rw [hE]; simp)
  rw [hE] at x0 x1
  simp only [List.getD_cons_zero, Nat.add_zero] at x0 x1
  have lb : b < w.heap.size := World.block_lt_of_cell? w _ x0
  have H1 := Lib.hid (fun (w' : World) (hb : Below w.heap.size w w') => sameWordsN_walk ro al rc cl r w' hn (x1.below hb) (h2.below hb))
  obtain ⟨n, hn'⟩ : ∃ n, r.length = n := ⟨_, rfl⟩
  rw [hn'] at H1 x0 ⊢
  have hl1 : E.rows.length = 1 := by rw [hE]; rfl
  unfold El.val
  rw [hl1]
  clear hE hn h1 h2 hc x1 hn' hl1
  go_enter Tryz.func33, Tryz.ntmps33
  go_upto_region 1 with fail
  refine gen_w _ _ (fun W0 hW_W0 => ?_)
  have HB_W0 : Hid (Below w.heap.size w W0) := Lib.hid (by rw [hW_W0]; exact (by with_reducible (repeat first | exact bR _ _ | assumption | exact ho (by assumption) | refine bD ?_ | refine bA ?_ ?_ _ | refine bS ?_ ?_ _ | refine bC ?_ (ho (by assumption)) ?_) <;> (first | omega | (simp <;> omega))))
  obtain ⟨hw_W0, hwf_W0⟩ := bcellB HB_W0.out
  have K0_W0 : Hid (Blk W0 w.heap.size 54 #[.int .i64 E.level, .bool E.special, .slice (some ⟨b, o, none⟩) 1 c]) := Lib.hid (by rw [hW_W0]; exact (by repeat (first | exact Blk.newAt (by (first | omega | (simp only [World.size_alloc, sz_set, sz_drew, sz_drewN]; done) | (simp only [World.size_alloc, sz_set, sz_drew, sz_drewN]; omega))) | (with_reducible refine Blk.alloc ?_ _) | (with_reducible refine Blk.drew ?_) | (with_reducible refine Blk.drewN ?_ _) | (with_reducible refine Blk.belowB ?_ (Hid.out (by assumption)) ?szk; case szk => (first | omega | (simp only [World.size_alloc, sz_set, sz_drew, sz_drewN]; done) | (simp only [World.size_alloc, sz_set, sz_drew, sz_drewN]; omega))))))
  have q0_W0 : w.heap.size < W0.heap.size := K0_W0.out.lt
  have k0_0_W0 := K0_W0.out.cell 0
  have f0_0_W0 := K0_W0.out.free 0
  have k0_1_W0 := K0_W0.out.cell 1
  have f0_1_W0 := K0_W0.out.free 1
  have k0_2_W0 := K0_W0.out.cell 2
  have f0_2_W0 := K0_W0.out.free 2
  simp only [List.getElem?_toArray, List.getElem?_cons_zero, List.getElem?_cons_succ] at k0_0_W0 k0_1_W0 k0_2_W0
  clear hW_W0
  go_wp2_with fail
  (with_reducible refine Calls.mono (H1.out _ (by with_reducible (repeat first | exact bR _ _ | assumption | exact ho (by assumption) | refine bD ?_ | refine bA ?_ ?_ _ | refine bS ?_ ?_ _ | refine bC ?_ (ho (by assumption)) ?_) <;> (first | omega | (simp <;> omega)))) ?_)
  rintro e w2 ⟨rfl, hb⟩
  obtain ⟨hc_w2, hf_w2⟩ := bcell hb
  have HB_w2 : Hid (Below w.heap.size w w2) := Lib.hid (below_step (by with_reducible (repeat first | exact bR _ _ | assumption | exact ho (by assumption) | refine bD ?_ | refine bN ?_ _ | refine bA ?_ ?_ _ | refine bS ?_ ?_ _) <;> (first | omega | (simp <;> omega))) hb)
  have hs_w2 := hb.size
  try simp only [World.size_alloc, sz_set, sz_drew, sz_drewN] at hs_w2
  have HK_w2 := Lib.hid hb
  have HC_w2 := Lib.hid (callTo hb)
  clear hb
  go_wp2
  go_ret
  exact ⟨rfl, (by with_reducible (repeat first | exact bR _ _ | assumption | exact ho (by assumption) | refine bD ?_ | refine bA ?_ ?_ _ | refine bS ?_ ?_ _ | refine bC ?_ (ho (by assumption)) ?_) <;> (first | omega | (simp <;> omega)))⟩

abbrev cells4 (ca : Option Addr) (cc : Nat) : Array Value := #[.int .i64 4, .int .u32 17, .int .i64 1, .slice ca 1 cc, .int .u32 2147483249, .int .i64 4, .int .u32 2]
theorem default4 (w : World) : Calls Tryz.prog 67 #[.int .i64 4, .int .u32 17, .int .i64 1, .int .i64 1] w fun e w' => ∃ ca cc, e = .returned (.tuple #[.agg (cells4 ca cc), .int .i64 0]) ∧ ParIn w' par4 ca cc ∧ (∀ W S, Turn w' W S → (∀ x, x ∈ S → x < w.heap.size) → ParIn W par4 ca cc) ∧ Below w.heap.size w w' :=
  r12default_own 4 17 1 17 2147483249 1 [2147481209] w (by omega) (by omega) (by omega) (by omega) (by omega) (by omega) (plainV_pos plain417) (by omega) (by omega) (by omega) (by omega) chain4 rfl
set_option maxHeartbeats 1600000 in
set_option maxRecDepth 100000 in
theorem small13_walk (w : World) : Calls Tryz.prog 31 #[.int .i64 1] w fun e w' => ∃ ca cc, e = .returned (.agg (cells4 ca cc)) ∧ ParIn w' par4 ca cc ∧ Below w.heap.size w w' := by
  have HD := Lib.hid default4
  go_enter Tryz.func31, Tryz.ntmps31
  go_wp2_with fail
  (with_reducible refine Calls.mono (HD.out _) ?_)
  rintro e w2 ⟨ca, cc, rfl, _, hin, hb⟩
  have HI := Lib.hid hin
  clear hin
  obtain ⟨hc_w2, hf_w2⟩ := bcell hb
  have HB_w2 : Hid (Below w.heap.size w w2) := Lib.hid (below_step (by with_reducible (repeat first | exact bR _ _ | assumption | exact ho (by assumption) | refine bD ?_ | refine bN ?_ _ | refine bA ?_ ?_ _ | refine bS ?_ ?_ _) <;> (first | omega | (simp <;> omega))) hb)
  have hs_w2 := hb.size
  try simp only [World.size_alloc, sz_set, sz_drew, sz_drewN] at hs_w2
  have q0_w2 : w.heap.size < w2.heap.size := by omega
  have HK_w2 := Lib.hid hb
  have HC_w2 := Lib.hid (callTo hb)
  clear hb
  go_wp2
  refine bodyPost_ret (v := .agg (cells4 ca cc)) (by simp [results, Tryz.results31, go_sem, hc_w2, q0_w2]) rfl ⟨ca, cc, rfl, ?_, (by with_reducible (repeat first | exact bR _ _ | assumption | exact ho (by assumption) | refine bD ?_ | refine bA ?_ ?_ _ | refine bS ?_ ?_ _ | refine bC ?_ (ho (by assumption)) ?_) <;> (first | omega | (simp <;> omega)))⟩
  exact HI.out _ [w.heap.size] (by with_reducible (repeat first | exact tR _ _ | assumption | exact ho (by assumption) | refine tD ?_ | refine tA ?_ _ | refine tS ?_ (by simp) _ | refine tC ?_ (ho (by assumption)))) (by simp)
theorem rdI_lit {w : World} {b : Nat} {t : TypeId} {l : List Int} (h : Blk w b t (l.map (Value.int .i64)).toArray) : RdI w (some ⟨b, 0, none⟩) l := fun k hk => ⟨b, 0, rfl, fun j hj => by
  rw [h.cell (0 + j), Nat.zero_add]
  simp [hj]⟩
/-- The examples' ciphertexts. -/
def exA : Ci := trivCi par4 [1, 2, 3, 4] 1 1
def exE : El := ofEl par4 1 false [5, 0, 0, 0]
def exB : Ci := ⟨1, 1, [exE, ⟨1, false, [[0, 1, 0, 0]]⟩]⟩
theorem state4 : StateOk par4 1 1 := ⟨good4, by decide, by decide, by decide, by decide⟩
theorem poly4 (l : List Int) (hl : l.length = 4) (h : ∀ j, j < 4 → -8 ≤ l.getD j 0 ∧ l.getD j 0 ≤ 8) : PolyOk par4 1 l := ⟨fun j hj => h j (by omega), by rw [hl]; rfl⟩
theorem trivA : TrivOk par4 [1, 2, 3, 4] 1 1 := ⟨state4, poly4 _ rfl (by decide)⟩
theorem trivB : TrivOk par4 [5, 0, 0, 0] 1 1 := ⟨state4, poly4 _ rfl (by decide)⟩
theorem exE_rows : exE.rows = [[5, 0, 0, 0]] := by decide +kernel
theorem exZ_rows : (ofEl par4 1 false [0, 0, 0, 0]).rows = [[0, 0, 0, 0]] := by decide +kernel
theorem pairA (ca : Option Addr) (cc g : Nat) (w : World) (hin : ParIn w par4 ca cc) (hB : Blk w g 2 #[.int .i64 1, .int .i64 2, .int .i64 3, .int .i64 4]) :
    Calls Tryz.prog 68 #[.agg (cells4 ca cc), .slice (some ⟨g, 0, none⟩) 4 4, .int .i64 1, .int .i64 1] w fun e w' => (∃ ao c, e = .returned (.tuple #[.agg #[.int .i64 1, .int .i64 1, .slice ao 2 c], .int .i64 0]) ∧ RdEN w' w.heap.size ao exA.parts ∧ 2 ≤ c ∧ c ≤ 9223372036854775807) ∧ Below w.heap.size w w' :=
  (r14Trivial_yes par4 ca cc [1, 2, 3, 4] (some ⟨g, 0, none⟩) 4 1 1 w hin (by decide) (rdI_lit hB) (by decide) trivA).mono (fun _ _ ⟨⟨_, h1, ao, c, h2, h3, h4, h5⟩, hb⟩ => ⟨⟨ao, c, by rw [h1, h2]; rfl, h3, h4, h5⟩, hb⟩)
theorem pairB (ca : Option Addr) (cc g : Nat) (w : World) (hin : ParIn w par4 ca cc) (hB : Blk w g 2 #[.int .i64 5, .int .i64 0, .int .i64 0, .int .i64 0]) :
    Calls Tryz.prog 68 #[.agg (cells4 ca cc), .slice (some ⟨g, 0, none⟩) 4 4, .int .i64 1, .int .i64 1] w fun e w' => (∃ g aa cA ab cB mid, e = .returned (.tuple #[.agg #[.int .i64 1, .int .i64 1, .slice (some ⟨g, 0, none⟩) 2 2], .int .i64 0]) ∧
      Blk w' g 54 #[.int .i64 1, .bool false, .slice aa 1 cA, .int .i64 1, .bool false, .slice ab 1 cB] ∧ w.heap.size ≤ mid ∧ mid ≤ g ∧ (∃ c, OwR w' mid (.slice ab 1 c) [[0, 0, 0, 0]]) ∧ (∀ W, Below mid w' W → RdRN W w.heap.size aa exE.rows) ∧ 1 ≤ cA ∧ cA ≤ 9223372036854775807 ∧ 1 ≤ cB ∧ cB ≤ 9223372036854775807) ∧ Below w.heap.size w w' :=
  (r14Trivial_two par4 ca cc [5, 0, 0, 0] (some ⟨g, 0, none⟩) 4 1 1 w hin (by decide) (rdI_lit hB) (by decide) trivB).mono (fun _ _ ⟨⟨_, h1, g, aa, cA, ab, cB, mid, h2, h3, h4, h5, h6, h7, h8, h9, h10, h11, h12, h13, h14⟩, hb⟩ => by
    have e1 : (ofEl par4 1 false (List.replicate par4.n.toNat 0)).rows = [[0, 0, 0, 0]] := exZ_rows
    have e2 : (ofEl par4 1 false [5, 0, 0, 0]).rows = [[5, 0, 0, 0]] := exE_rows
    rw [e1] at h3 h9 h13
    rw [e2] at h3 h7
    exact ⟨⟨g, aa, cA, ab, cB, mid, by rw [h1, h2], h3, h11, h12, h13, h14, h7, h8, h9, h10⟩, hb⟩)
end Go.Proofs.YtcipjbckcnkfaaaGreat

namespace Go.Proofs.YtcipjbckcnkfaaaGreat
open Go.RowKit

/-- A made slice, what came in appended to it, then one more. -/
theorem lend_go (T E ty : TypeId) (i0 : TypeInfo) (z : Value) (bytes : Nat) (hu : Tryz.prog.underlying T = some (.slice E)) (hi : Tryz.prog.info? E = some i0) (hz0 : i0.zero = some z) (hz1 : i0.size = 1) (hz2 : i0.bytes = bytes) (hb8 : bytes ≤ 8)
    (a : Addr) (c : Nat) (vs : List Value) (mark : Value) (w : World) (hn : vs.length ≤ 1000000) (hv : ∀ j u, vs[j]? = some u → w.cell? (a.add j) = some u) (h1 : ∀ u ∈ vs, u.oneCell' = true) (hm : mark.oneCell' = true) :
    ∃ w1 w2 w3, (Instr.makeSlice T (.int .i64 0) (.int .i64 ((vs.length : Int) + 1))).run Tryz.prog w = .ok (.slice (some ⟨w.heap.size, 0, none⟩) 0 (vs.length + 1)) w1 ∧
      (Builtin.append_ #[T, T] ty #[.slice (some ⟨w.heap.size, 0, none⟩) 0 (vs.length + 1), .slice (some a) vs.length c]).run Tryz.prog w1 = .ok (.slice (some ⟨w.heap.size, 0, none⟩) vs.length (vs.length + 1)) w2 ∧
      (Builtin.append_ #[T, T] ty #[.slice (some ⟨w.heap.size, 0, none⟩) vs.length (vs.length + 1), .slice (some ⟨w2.heap.size, 0, none⟩) 1 1]).run Tryz.prog (w2.alloc (.cells #[mark] E)) = .ok (.slice (some ⟨w.heap.size, 0, none⟩) (vs.length + 1) (vs.length + 1)) w3 ∧
      Blk w3 w.heap.size E (vs ++ [mark]).toArray ∧ Below w.heap.size w w3 := by
  have hbytes : i0.bytes * (vs.length + 1) ≤ 281474976710656 := by rw [hz2]; exact Nat.le_trans (Nat.mul_le_mul_right _ hb8) (by omega)
  obtain ⟨w1, hr1, ho1, hg1⟩ := run_make_own (P := Tryz.prog) w w.heap.size T E i0 z 1 hu hi hz0 hz1 .i64 .i64 (vs.length + 1) hbytes (by unfold maxLen; omega) (Nat.le_refl _)
  have B1 : Below w.heap.size w w1 := (Turn.of_grown (S := []) hg1 (fun k hk => by simp at hk)).below
  have hs1 : w.heap.size < w1.heap.size := by
    rcases ho1.2 with ⟨h, _⟩ | ⟨g, cap, cur, h, _, hh, _⟩
    · simp at h
    · simp at h; obtain ⟨rfl, _⟩ := h; exact block_lt hh
  have hv1 : ∀ j u, vs[j]? = some u → w1.cell? (a.add j) = some u := fun j u hj => (B1.cell (World.block_lt_of_cell? w _ (hv j u hj))).trans (hv j u hj)
  obtain ⟨w2, hr2, ho2, hg2⟩ := run_append_fits (P := Tryz.prog) w1 w.heap.size T ty E i0 1 hu hi hz1 w.heap.size 0 (vs.length + 1) [] ho1 a vs.length c vs (by omega) hv1 h1 (by omega)
  rw [Nat.zero_add, List.nil_append] at ho2
  have T2 : Turn w1 w2 [w.heap.size] := Turn.of_grown hg2 (fun k hk => by simp at hk; simp [hk])
  have ho2' := World.ownsRow.alloc ho2 (.cells #[mark] E)
  obtain ⟨w3, hr3, ho3, hg3⟩ := run_append_fits (P := Tryz.prog) (w2.alloc (.cells #[mark] E)) w.heap.size T ty E i0 1 hu hi hz1 w.heap.size vs.length (vs.length + 1) vs ho2' ⟨w2.heap.size, 0, none⟩ 1 1 [mark] rfl (by
    intro j u hj
    match j, hj with
    | 0, hj =>
      simp at hj
      subst hj
      exact (Blk.new w2 _ _).cell 0) (by simpa using hm) (by omega)
  have T3 : Turn (w2.alloc (.cells #[mark] E)) w3 [w.heap.size] := Turn.of_grown hg3 (fun k hk => by simp at hk; simp [hk])
  refine ⟨w1, w2, w3, by simpa using hr1, ?_, hr3, ?_, ?_⟩
  · simpa using hr2
  · rcases ho3.2 with ⟨h, _⟩ | ⟨g, cap, cur, h, _, hh, _, _, hcs, htk⟩
    · simp at h
    · simp only [Value.slice.injEq, Option.some.injEq, Addr.mk.injEq, and_true, true_and] at h
      obtain ⟨rfl, rfl⟩ := h
      show w3.heap[w.heap.size]? = _
      rw [hh]
      have e : cur = (vs ++ [mark]).toArray := Array.toList_inj.1 (by rw [List.toList_toArray, ← htk, List.take_of_length_le (by rw [Array.length_toList, hcs]; omega)])
      rw [e]
  · refine ((B1.trans (T2.belowN (Nat.le_of_lt hs1) (by simp))).alloc (by have := T2.size; omega) _).trans (T3.belowN ?_ (by simp))
    have := T2.size
    simp
    omega


/-- A list of words of the call's own. -/
def PutWords (base : Nat) (l : List Nat) (v : Value) (w' : World) : Prop := ∃ ro rc, v = .slice ro l.length rc ∧ Rd w' ro l ∧ l.length ≤ rc ∧ rc ≤ 9223372036854775807 ∧ ∀ a : Addr, ro = some a → U32 w' a.block ∧ base ≤ a.block
abbrev markWord : Value := .int .u32 77177
set_option maxHeartbeats 1600000 in
theorem lendWords_nil (c : Nat) (w : World) : Calls Tryz.prog 34 #[.slice none 0 c] w fun e w' => (∃ v, e = .returned v ∧ PutWords w.heap.size [] v w') ∧ Below w.heap.size w w' := by
  have heq : ∀ w, (binOp .eql 23 (.slice none 0 c) (.slice none 0 0)).run Tryz.prog w = .ok (.bool true) w := fun w =>
    Lib.run_eql_slice_nil w _ _ none _ _ _ _ Tryz.underlying23
  go_enter Tryz.func34, Tryz.ntmps34
  go_wp2
  go_ret
  exact ⟨⟨_, rfl, none, 0, rfl, fun k hk => by simp at hk, by simp, by omega, fun a h => by cases h⟩, Below.refl _ _⟩
set_option maxHeartbeats 1600000 in
set_option maxRecDepth 100000 in
theorem lendWords_some (a : Addr) (c : Nat) (l : List Nat) (w : World) (hn : l.length ≤ 1000000) (h : Rd w (some a) l) :
    Calls Tryz.prog 34 #[.slice (some a) l.length c] w fun e w' => (∃ v, e = .returned v ∧ PutWords w.heap.size l v w') ∧ Below w.heap.size w w' := by
  obtain ⟨i0, hi, hz0, hz1, hz2⟩ := info_parts info_u32
  obtain ⟨w1, w2, w3, hr1, hr2, hr3, hb, hB⟩ := lend_go 23 22 23 i0 _ 4 Tryz.underlying23 hi hz0 hz1 hz2 (by omega) a c (l.map fun x : Nat => Value.int .u32 (x : Int)) markWord w (by simpa using hn) (by
    intro j u hj
    simp only [List.getElem?_map, Option.map_eq_some_iff] at hj
    obtain ⟨y, hy, rfl⟩ := hj
    obtain ⟨hjl, hy'⟩ := List.getElem?_eq_some_iff.1 hy
    obtain ⟨b, off, e, hc⟩ := h j hjl
    cases e
    have := hc j hjl
    rw [List.getD_eq_getElem?_getD, hy, Option.getD_some] at this
    rw [add_zero_addr]
    exact this) (by simp [Value.oneCell']) rfl
  rw [List.length_map] at hr1 hr2 hr3
  have heq : ∀ w, (binOp .eql 23 (.slice (some a) l.length c) (.slice none 0 0)).run Tryz.prog w = .ok (.bool false) w := fun w =>
    Lib.run_eql_slice_nil w _ _ _ _ _ _ _ Tryz.underlying23
  have HP : Hid (PutWords w.heap.size l (.slice (some ⟨w.heap.size, 0, none⟩) l.length (l.length + 1)) w3) := Lib.hid ⟨_, _, rfl, fun k hk => ⟨w.heap.size, 0, rfl, fun j hj => by
    rw [hb.cell (0 + j), Nat.zero_add]
    simp [hj, List.getElem?_append_left, List.getD_eq_getElem?_getD]⟩, by omega, by omega, fun a' e => by cases e; exact ⟨⟨_, hb⟩, Nat.le_refl _⟩⟩
  obtain ⟨n, hn'⟩ : ∃ n, l.length = n := ⟨_, rfl⟩
  rw [hn'] at hr1 hr2 hr3 heq hn HP ⊢
  have HB := Lib.hid hB
  have hne : ¬ n + 1 = 0 := by omega
  clear h hn' hb hB hi hz0 hz1 hz2
  go_enter Tryz.func34, Tryz.ntmps34
  go_wp2_with (at_builtin; first | refine Lib.wpList_append_run _ rfl (.tmp 8) (.tmp 9) 23 23 rfl _ _ rfl rfl _ _ hr2 ?_ | refine Lib.wpList_append_run _ rfl (.tmp 10) (.tmp 11) 23 23 rfl _ _ rfl rfl _ _ hr3 ?_)
  go_ret
  exact ⟨⟨_, rfl, HP.out⟩, HB.out⟩
theorem lendWords_walk (ao : Option Addr) (c : Nat) (l : List Nat) (w : World) (hn : l.length ≤ 1000000) (h : Rd w ao l) :
    Calls Tryz.prog 34 #[.slice ao l.length c] w fun e w' => (∃ v, e = .returned v ∧ PutWords w.heap.size l v w') ∧ Below w.heap.size w w' := by
  cases ao with
  | some a => exact lendWords_some a c l w hn h
  | none =>
    cases l with
    | nil => exact lendWords_nil c w
    | cons x l => obtain ⟨b, o, e, _⟩ := h 0 (by simp); cases e
end Go.Proofs.YtcipjbckcnkfaaaGreat
