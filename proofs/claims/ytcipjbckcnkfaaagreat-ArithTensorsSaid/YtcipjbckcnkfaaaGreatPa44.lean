/- The program's Tensor.
The examples of layer 16: equal words, a row, the parameters, the two ciphertexts.
The examples' two ciphertexts. -/
import Derived.Test.YtcipjbckcnkfaaaGreatPa43
import Derived.Test.YtcipjbckcnkfaaaGreatPa40
import Derived.Test.YtcipjbckcnkfaaaGreatPa06
import Derived.Test.YtcipjbckcnkfaaaGreatPa08
import Derived.Test.YtcipjbckcnkfaaaGreatPa25
import Derived.Test.YtcipjbckcnkfaaaGreatPa09
namespace Go.Proofs.YtcipjbckcnkfaaaGreat
open Go.RowKit Go.Shelf
attribute [local go_sem ↓] Go.wp_at_zero Go.wp_at_succ

/-- A product is made. -/
def TensOk (p : Par) (A B : Ci) : Prop := CiMatch p A B ∧ A.parts.length = 2 ∧ B.parts.length = 2
theorem fills_tensor {w : World} {pb ba bb : Nat} {p : Par} {ca : Option Addr} {cc : Nat} {A B : Ci} {aa ab : Option Addr} {cA cB : Nat} (hT : TensAt w pb ba bb p ca cc A B aa ab cA cB) (hg : Good p) (hok : TensOk p A B) :
    ∀ i, i < 3 → ∀ w', Below w.heap.size w w' → Calls Tryz.prog 37 (#[.int .i64 (i : Int)] ++ #[.pointer (some ⟨pb, 0, none⟩), .pointer (some ⟨ba, 0, none⟩), .pointer (some ⟨bb, 0, none⟩)]) w' fun e w2 => PutEl w'.heap.size (tensF p A B i) e w2 ∧ Below w'.heap.size w' w2 := fun i hi w' hb => by
  obtain ⟨hM, ha, hb2⟩ := hok
  have hT' := hT.below hb
  rcases Nat.lt_or_ge i 1 with h | h
  · obtain rfl : i = 0 := by omega
    exact tensor1_side pb ba bb 0 0 p ca cc A B aa ab cA cB w' hT' hg hM ha hb2 rfl (by omega)
  · rcases Nat.lt_or_ge i 2 with h2 | h2
    · obtain rfl : i = 1 := by omega
      exact tensor1_mid pb ba bb p ca cc A B aa ab cA cB w' hT' hg hM ha hb2
    · obtain rfl : i = 2 := by omega
      exact tensor1_side pb ba bb 1 2 p ca cc A B aa ab cA cB w' hT' hg hM ha hb2 rfl (by omega)

set_option maxHeartbeats 6400000 in
set_option maxRecDepth 100000 in
theorem arTensor_no (p : Par) (ca : Option Addr) (cc : Nat) (A B : Ci) (aa ab : Option Addr) (cA cB : Nat) (w : World) (hin : ParIn w p ca cc) (hA : CiIn w A aa cA) (hB : CiIn w B ab cB) (hno : ¬ TensOk p A B) :
    Calls Tryz.prog 10 #[.agg (p.cells ca cc), A.val aa cA, B.val ab cB] w fun e w' => e = .returned (.tuple #[.agg #[.int .i64 0, .int .i64 0, .slice none 0 0], .int .i64 2]) ∧ Below w.heap.size w w' := by
  have H1 := Lib.hid (fun (w' : World) (hb : Below w.heap.size w w') => arMatch_walk p ca cc A B aa ab cA cB w' (hin.below hb) (hA.below hb) (hB.below hb))
  have hma := hA.len
  have hmb := hB.len
  obtain ⟨ma, hma'⟩ : ∃ ma, A.parts.length = ma := ⟨_, rfl⟩
  obtain ⟨mb, hmb'⟩ : ∃ mb, B.parts.length = mb := ⟨_, rfl⟩
  have HNO : Hid (¬ (CiMatch p A B ∧ ma = 2 ∧ mb = 2)) := Lib.hid (by rw [← hma', ← hmb']; exact hno)
  unfold Ci.val Par.cells at *
  rw [hma', hmb'] at H1 ⊢
  rw [hma'] at hma
  rw [hmb'] at hmb
  clear hin hA hB hno hma' hmb'
  by_cases hM : CiMatch p A B
  case' neg =>
    rw [tr_neg hM] at H1
    clear hM
  case' pos =>
    rw [tr_pos hM] at H1
    by_cases h1 : ma = 2
    case' neg =>
      have g1 : ((ma : Int) != 2) = true := by simp; omega
      clear hM h1
    case' pos =>
      have h2 : mb ≠ 2 := fun h => HNO.out ⟨hM, h1, h⟩
      have g1 : ((ma : Int) != 2) = false := by simp; omega
      have g2 : ((mb : Int) != 2) = true := by simp; omega
      clear hM h1 h2
  all_goals (
    go_enter Tryz.func10, Tryz.ntmps10
    go_wp2_with fail
    (with_reducible refine Calls.mono (H1.out _ (by with_reducible (repeat first | exact bR _ _ | assumption | exact ho (by assumption) | refine bD ?_ | refine bN ?_ _ | refine bA ?_ ?_ _ | refine bS ?_ ?_ _) <;> (first | omega | (simp <;> omega)))) ?_)
    rintro e w2 ⟨rfl, hb⟩
    obtain ⟨hc_w2, hf_w2⟩ := bcell hb
    have HB_w2 : Hid (Below w.heap.size w w2) := Lib.hid (below_step (by with_reducible (repeat first | exact bR _ _ | assumption | exact ho (by assumption) | refine bD ?_ | refine bN ?_ _ | refine bA ?_ ?_ _ | refine bS ?_ ?_ _) <;> (first | omega | (simp <;> omega))) hb)
    have hs_w2 := hb.size
    try simp only [World.size_alloc, sz_set, sz_drew, sz_drewN] at hs_w2
    have q0_w2 : w.heap.size < w2.heap.size := by omega
    have q1_w2 : w.heap.size + 1 < w2.heap.size := by omega
    have q2_w2 : w.heap.size + 1 + 1 < w2.heap.size := by omega
    have q3_w2 : w.heap.size + 1 + 1 + 1 < w2.heap.size := by omega
    have HK_w2 := Lib.hid hb
    clear hb
    go_wp2
    refine bodyPost_ret (v := .tuple #[.agg #[.int .i64 0, .int .i64 0, .slice none 0 0], .int .i64 2]) (by simp [results, Tryz.results10, go_sem, hc_w2, q3_w2]) rfl ⟨rfl, (by with_reducible (repeat first | exact bR _ _ | assumption | exact ho (by assumption) | refine bD ?_ | refine bN ?_ _ | refine bA ?_ ?_ _ | refine bS ?_ ?_ _) <;> (first | omega | (simp <;> omega)))⟩)

set_option maxHeartbeats 6400000 in
set_option maxRecDepth 100000 in
theorem arTensor_yes (p : Par) (ca : Option Addr) (cc : Nat) (A B : Ci) (aa ab : Option Addr) (cA cB : Nat) (w : World) (hin : ParIn w p ca cc) (hA : CiIn w A aa cA) (hB : CiIn w B ab cB) (hok : TensOk p A B) :
    Calls Tryz.prog 10 #[.agg (p.cells ca cc), A.val aa cA, B.val ab cB] w fun e w' => PutCi w.heap.size A.level A.exponent 3 (tensF p A B) e w' ∧ Below w.heap.size w w' := by
  have hg := hok.1.1.1.1
  have H1 := Lib.hid (fun (w' : World) (hb : Below w.heap.size w w') => arMatch_walk p ca cc A B aa ab cA cB w' (hin.below hb) (hA.below hb) (hB.below hb))
  rw [tr_pos hok.1] at H1
  have H2 : Hid (∀ w', Below w.heap.size w w' → Blk w' w.heap.size 25 (p.cells ca cc) → Blk w' (w.heap.size + 1) 28 #[.int .i64 A.level, .int .i64 A.exponent, .slice aa A.parts.length cA] → Blk w' (w.heap.size + 1 + 1) 28 #[.int .i64 B.level, .int .i64 B.exponent, .slice ab B.parts.length cB] →
      Calls Tryz.prog 36 #[A.val aa cA, .int .i64 3, .func (.func 37) #[] #[.pointer (some ⟨w.heap.size, 0, none⟩), .pointer (some ⟨w.heap.size + 1, 0, none⟩), .pointer (some ⟨w.heap.size + 1 + 1, 0, none⟩)]] w' fun e w2 => PutCi w'.heap.size A.level A.exponent 3 (tensF p A B) e w2 ∧ Below w'.heap.size w' w2) := Lib.hid (fun w' hb h0 h1 h2 =>
    arMade_walk A.level A.exponent aa A.parts.length cA 3 _ _ (tensF p A B) w' (by omega) enters_tensor1 (fills_tensor ⟨h0, h1, h2, hin.below hb, hA.rd.below hb, hB.rd.below hb⟩ hg hok))
  have ha := hok.2.1
  have hb' := hok.2.2
  obtain ⟨f, hf⟩ : ∃ f, tensF p A B = f := ⟨_, rfl⟩
  rw [hf] at H2 ⊢
  unfold PutCi Ci.val Par.cells at *
  rw [ha, hb'] at H1 H2 ⊢
  clear hin hA hB hok hg ha hb' hf
  go_enter Tryz.func10, Tryz.ntmps10
  go_wp2_with fail
  (with_reducible refine Calls.mono (H1.out _ (by with_reducible (repeat first | exact bR _ _ | assumption | exact ho (by assumption) | refine bD ?_ | refine bN ?_ _ | refine bA ?_ ?_ _ | refine bS ?_ ?_ _) <;> (first | omega | (simp <;> omega)))) ?_)
  rintro e w2 ⟨rfl, hb⟩
  obtain ⟨hc_w2, hf_w2⟩ := bcell hb
  have HB_w2 : Hid (Below w.heap.size w w2) := Lib.hid (below_step (by with_reducible (repeat first | exact bR _ _ | assumption | exact ho (by assumption) | refine bD ?_ | refine bN ?_ _ | refine bA ?_ ?_ _ | refine bS ?_ ?_ _) <;> (first | omega | (simp <;> omega))) hb)
  have hs_w2 := hb.size
  try simp only [World.size_alloc, sz_set, sz_drew, sz_drewN] at hs_w2
  have q0_w2 : w.heap.size < w2.heap.size := by omega
  have q1_w2 : w.heap.size + 1 < w2.heap.size := by omega
  have q2_w2 : w.heap.size + 1 + 1 < w2.heap.size := by omega
  have q3_w2 : w.heap.size + 1 + 1 + 1 < w2.heap.size := by omega
  have HK_w2 := Lib.hid hb
  clear hb
  go_wp2_with fail
  (with_reducible refine Calls.mono (H2.out _ (by with_reducible (repeat first | exact bR _ _ | assumption | exact ho (by assumption) | refine bD ?_ | refine bN ?_ _ | refine bA ?_ ?_ _ | refine bS ?_ ?_ _) <;> (first | omega | (simp <;> omega))) (by repeat (first | exact Blk.newAt (by (first | omega | (simp only [World.size_alloc, sz_set, sz_drew, sz_drewN]; done) | (simp only [World.size_alloc, sz_set, sz_drew, sz_drewN]; omega))) | (with_reducible refine Blk.alloc ?_ _) | (with_reducible refine Blk.drew ?_) | (with_reducible refine Blk.drewN ?_ _) | (with_reducible refine Blk.belowB ?_ (Hid.out (by assumption)) ?szk; case szk => (first | omega | (simp only [World.size_alloc, sz_set, sz_drew, sz_drewN]; done) | (simp only [World.size_alloc, sz_set, sz_drew, sz_drewN]; omega))))) (by repeat (first | exact Blk.newAt (by (first | omega | (simp only [World.size_alloc, sz_set, sz_drew, sz_drewN]; done) | (simp only [World.size_alloc, sz_set, sz_drew, sz_drewN]; omega))) | (with_reducible refine Blk.alloc ?_ _) | (with_reducible refine Blk.drew ?_) | (with_reducible refine Blk.drewN ?_ _) | (with_reducible refine Blk.belowB ?_ (Hid.out (by assumption)) ?szk; case szk => (first | omega | (simp only [World.size_alloc, sz_set, sz_drew, sz_drewN]; done) | (simp only [World.size_alloc, sz_set, sz_drew, sz_drewN]; omega))))) (by repeat (first | exact Blk.newAt (by (first | omega | (simp only [World.size_alloc, sz_set, sz_drew, sz_drewN]; done) | (simp only [World.size_alloc, sz_set, sz_drew, sz_drewN]; omega))) | (with_reducible refine Blk.alloc ?_ _) | (with_reducible refine Blk.drew ?_) | (with_reducible refine Blk.drewN ?_ _) | (with_reducible refine Blk.belowB ?_ (Hid.out (by assumption)) ?szk; case szk => (first | omega | (simp only [World.size_alloc, sz_set, sz_drew, sz_drewN]; done) | (simp only [World.size_alloc, sz_set, sz_drew, sz_drewN]; omega)))))) ?_)
  rintro e w3 ⟨⟨g, rfl, hgb, hP⟩, hb⟩
  have HP := Lib.hid hP
  clear hP
  obtain ⟨hc_w3, hf_w3⟩ := bcell hb
  have HB_w3 : Hid (Below w.heap.size w w3) := Lib.hid (below_step (by with_reducible (repeat first | exact bR _ _ | assumption | exact ho (by assumption) | refine bD ?_ | refine bN ?_ _ | refine bA ?_ ?_ _ | refine bS ?_ ?_ _) <;> (first | omega | (simp <;> omega))) hb)
  have hs_w3 := hb.size
  try simp only [World.size_alloc, sz_set, sz_drew, sz_drewN] at hs_w3
  have q0_w3 : w.heap.size < w3.heap.size := by omega
  have q1_w3 : w.heap.size + 1 < w3.heap.size := by omega
  have q2_w3 : w.heap.size + 1 + 1 < w3.heap.size := by omega
  have q3_w3 : w.heap.size + 1 + 1 + 1 < w3.heap.size := by omega
  have HK_w3 := Lib.hid hb
  clear hb
  go_wp2
  refine bodyPost_ret (v := .tuple #[.agg #[.int .i64 A.level, .int .i64 A.exponent, .slice (some ⟨g, 0, none⟩) 3 3], .int .i64 0]) (by simp [results, Tryz.results10, go_sem, hc_w3, hc_w2, q3_w2, q3_w3]) rfl ⟨⟨g, rfl, by omega, ?_⟩, (by with_reducible (repeat first | exact bR _ _ | assumption | exact ho (by assumption) | refine bD ?_ | refine bN ?_ _ | refine bA ?_ ?_ _ | refine bS ?_ ?_ _) <;> (first | omega | (simp <;> omega)))⟩
  obtain ⟨cs, p1, p2, p3⟩ := HP.out
  refine ⟨cs, ((p1.far (p := ⟨w.heap.size + 1 + 1 + 1, 0, none⟩) (by (try dsimp only); omega) _).far (p := ⟨w.heap.size + 1 + 1 + 1, 1, none⟩) (by (try dsimp only); omega) _).far (p := ⟨w.heap.size + 1 + 1 + 1, 2, none⟩) (by (try dsimp only); omega) _, p2, fun j hj => ?_⟩
  obtain ⟨ao', c', bj, q1, q2, q3, q4, q5, q6⟩ := p3 j hj
  exact ⟨ao', c', bj, q1, q2, q3, q4.turn (S := [w.heap.size + 1 + 1 + 1]) ((((Turn.refl w3 _).setCell (p := ⟨w.heap.size + 1 + 1 + 1, 0, none⟩) (.inl (by simp)) _).setCell (p := ⟨w.heap.size + 1 + 1 + 1, 1, none⟩) (.inl (by simp)) _).setCell (p := ⟨w.heap.size + 1 + 1 + 1, 2, none⟩) (.inl (by simp)) _) (fun x hx => by simp at hx; omega), by omega, q6⟩
end Go.Proofs.YtcipjbckcnkfaaaGreat

namespace Go.Proofs.YtcipjbckcnkfaaaGreat
open Go.RowKit Go.Shelf
attribute [local go_sem ↓] Go.wp_at_zero Go.wp_at_succ

set_option maxHeartbeats 1600000 in
theorem sameWordsN_walk (a1 a2 : Option Addr) (c1 c2 : Nat) (l : List Nat) (w : World) (hn : l.length ≤ 9223372036854775807) (h1 : Rd w a1 l) (h2 : Rd w a2 l) :
    Calls Tryz.prog 69 #[.slice a1 l.length c1, .slice a2 l.length c2] w fun e w' => e = .returned (.bool true) ∧ Below w.heap.size w w' := by
  obtain ⟨n, hn'⟩ : ∃ n, l.length = n := ⟨_, rfl⟩
  rw [hn'] at hn ⊢
  have HN := Lib.hid hn'
  have H1 := Lib.hid h1
  have H2 := Lib.hid h2
  clear h1 h2 hn'
  go_enter Tryz.func69, Tryz.ntmps69
  go_wp2
  go_loopg [5] n (fun k vi wr => ∃ i : Nat, vi = .int .i64 i ∧ i ≤ n ∧ n - i ≤ k ∧ Hid (Below w.heap.size w wr))
  case atStart => exact ⟨0, rfl, by omega, by omega, Lib.hid (Below.refl _ _)⟩
  case round =>
    obtain ⟨i, rfl, hi, hk, HB⟩ := hrel
    by_cases hlt : i < n
    · obtain ⟨b1, o1, rfl, hc1⟩ := (H1.out.below HB.out) i (by rw [HN.out]; exact hlt)
      obtain ⟨b2, o2, rfl, hc2⟩ := (H2.out.below HB.out) i (by rw [HN.out]; exact hlt)
      have d1 := hc1 i (by rw [HN.out]; exact hlt)
      have d2 := hc2 i (by rw [HN.out]; exact hlt)
      obtain ⟨x, hx⟩ : ∃ x, l.getD i 0 = x := ⟨_, rfl⟩
      rw [hx] at d1 d2
      clear hx hc1 hc2
      go_wp2
      go_quiet (fail)
      go_wp2
      go_roundg (n - (i + 1))
      case measure => omega
      case rel => exact ⟨i + 1, by go_num, by omega, Nat.le_refl _, Lib.hid (below_step HB.out ((Turn.refl wr []).drewN _).below)⟩
    · obtain rfl : i = n := by omega
      go_wp2
      go_ret
      exact ⟨rfl, HB.out⟩

/-- One row: its cells; a store into it. -/
theorem OwR.poke {w : World} {base c j : Nat} {ao : Option Addr} {r : List Nat} (h : OwR w base (.slice ao 1 c) [r]) (hj : j < r.length) : ∃ gh gr o rc, ao = some ⟨gh, 0, none⟩ ∧ w.cell? ⟨gh, 0, none⟩ = some (.slice (some ⟨gr, o, none⟩) r.length rc) ∧ w.cell? ⟨gr, o + j, none⟩ = some (.int .u32 ((r.getD j 0 : Nat) : Int)) ∧
    (∀ i, w.frozen? ⟨gr, i, none⟩ = false) ∧ base ≤ gr ∧ (∃ cs, w.heap[gr]? = some (.cells cs 22 (0, 0))) ∧ ∀ W, Kp rowT base w W → ∀ u : Nat, OwR (W.setCell ⟨gr, o + j, none⟩ (.int .u32 (u : Int))) base (.slice ao 1 c) [r.set j u] := by
  obtain ⟨vals, ho, hg, hr⟩ := h
  obtain ⟨ro, rc, v0, rd0, hl, hu⟩ := hr 0 (by simp)
  simp only [List.getD_cons_zero] at v0 rd0 hl
  rcases ho.2 with ⟨_, h0⟩ | ⟨g, cap, cur, e, hb, hh, hcap, hml, hcs, htk⟩
  · simp at h0
  cases e
  obtain ⟨gr, o, rfl, hc⟩ := rd0 j hj
  obtain ⟨hne, ⟨cs, hcs2⟩, hbg⟩ := hu _ rfl
  simp only [Value.ownBlock, ne_eq, Option.some.injEq] at hne
  have hcell : w.cell? ⟨g, 0, none⟩ = some (.slice (some ⟨gr, o, none⟩) r.length rc) := by
    rw [cell_of_row w g 0 cur _ _ hh, ← Array.getElem?_toList]
    have e := congrArg (·[0]?) htk
    simp only [List.length_cons, List.length_nil, Nat.zero_add, Nat.mul_one] at e
    rw [List.getElem?_take, if_pos (by omega)] at e
    rw [e]
    exact v0
  have hfr : ∀ i, w.frozen? ⟨gr, i, none⟩ = false := fun i => Blk.free (t := 22) (cs := cs) hcs2 i
  refine ⟨g, gr, o, rc, rfl, hcell, hc j hj, hfr, hbg, ⟨cs, hcs2⟩, fun W hK u => ?_⟩
  have hhW := hK.2 _ _ _ hb (by decide) hh
  have hs : (W.setCell ⟨gr, o + j, none⟩ (.int .u32 (u : Int))).heap.size = W.heap.size := sz_set _ _ _
  have hBw : Blk w gr 22 cs := hcs2
  have hB : Blk W gr 22 cs := hK.2 _ _ _ hbg (by decide) hcs2
  have hB2 := hB.set (o + j) (.int .u32 (u : Int))
  have hcsz : ∀ i, i < r.length → cs[o + i]? = some (.int .u32 ((r.getD i 0 : Nat) : Int)) := fun i hi => by rw [← hBw.cell (o + i)]; exact hc i hi
  refine ⟨vals, ⟨by simpa using ho.1, .inr ⟨g, _, cur, rfl, hb, ?_, hcap, hml, hcs, htk⟩⟩, fun x hx => by rw [hs]; exact Nat.lt_of_lt_of_le (hg x hx) hK.1, fun i hi => ?_⟩
  · exact (Below.heap_setCell W ⟨gr, o + j, none⟩ _ g (fun e => hne e)).trans hhW
  · obtain rfl : i = 0 := by simp at hi; omega
    refine ⟨_, rc, by simpa using v0, fun k hk => ⟨gr, o, rfl, fun t ht => ?_⟩, by simpa using hl, fun a e => ?_⟩
    · simp only [List.getD_cons_zero, List.length_set] at hk ht ⊢
      rw [hB2.cell (o + t), Array.getElem?_setIfInBounds]
      by_cases e : j = t
      · subst e
        rw [if_pos rfl, if_pos (by have := hcsz j hj; rcases Nat.lt_or_ge (o + j) cs.size with q | q; exact q; rw [Array.getElem?_eq_none q] at this; cases this)]
        simp [List.getD_eq_getElem?_getD, ht]
      · rw [if_neg (by omega), hcsz t ht]
        simp [List.getD_eq_getElem?_getD, List.getElem?_set, e]
    · cases e
      exact ⟨by simpa [Value.ownBlock] using hne, ⟨_, hB2⟩, hbg⟩

set_option maxHeartbeats 1600000 in
set_option maxRecDepth 100000 in
theorem row16_walk (E : El) (r : List Nat) (ao al : Option Addr) (c cl : Nat) (w : World) (hE : E.rows = [r]) (hn : r.length ≤ 9223372036854775807) (h1 : RdR w ao E.rows) (h2 : Rd w al r) :
    Calls Tryz.prog 33 #[E.val ao c, .slice al r.length cl] w fun e w' => e = .returned (.bool true) ∧ Below w.heap.size w w' := by
  obtain ⟨b, o, rfl, hc⟩ := h1 0 (by rw [hE]; simp)
  obtain ⟨ro, rc, x0, x1, _⟩ := hc 0 (by rw [hE]; simp)
  rw [hE] at x0 x1
  simp only [List.getD_cons_zero, Nat.add_zero] at x0 x1
  have lb : b < w.heap.size := World.block_lt_of_cell? w _ x0
  have H1 := Lib.hid (fun (w' : World) (hb : Below w.heap.size w w') => sameWordsN_walk ro al rc cl r w' hn (x1.below hb) (h2.below hb))
  obtain ⟨n, hn'⟩ : ∃ n, r.length = n := ⟨_, rfl⟩
  rw [hn'] at H1 x0 ⊢
  have hl1 : E.rows.length = 1 := by rw [hE]; rfl
  unfold El.val
  rw [hl1]
  clear hE hn h1 h2 hc x1 hn' hl1
  go_enter Tryz.func33, Tryz.ntmps33
  go_upto_region 1 with fail
  refine gen_w _ _ (fun W0 hW_W0 => ?_)
  have HB_W0 : Hid (Below w.heap.size w W0) := Lib.hid (by rw [hW_W0]; exact (by with_reducible (repeat first | exact bR _ _ | assumption | exact ho (by assumption) | refine bD ?_ | refine bA ?_ ?_ _ | refine bS ?_ ?_ _ | refine bC ?_ (ho (by assumption)) ?_) <;> (first | omega | (simp <;> omega))))
  obtain ⟨hw_W0, hwf_W0⟩ := bcellB HB_W0.out
  have K0_W0 : Hid (Blk W0 w.heap.size 54 #[.int .i64 E.level, .bool E.special, .slice (some ⟨b, o, none⟩) 1 c]) := Lib.hid (by rw [hW_W0]; exact (by repeat (first | exact Blk.newAt (by (first | omega | (simp only [World.size_alloc, sz_set, sz_drew, sz_drewN]; done) | (simp only [World.size_alloc, sz_set, sz_drew, sz_drewN]; omega))) | (with_reducible refine Blk.alloc ?_ _) | (with_reducible refine Blk.drew ?_) | (with_reducible refine Blk.drewN ?_ _) | (with_reducible refine Blk.belowB ?_ (Hid.out (by assumption)) ?szk; case szk => (first | omega | (simp only [World.size_alloc, sz_set, sz_drew, sz_drewN]; done) | (simp only [World.size_alloc, sz_set, sz_drew, sz_drewN]; omega))))))
  have q0_W0 : w.heap.size < W0.heap.size := K0_W0.out.lt
  have k0_0_W0 := K0_W0.out.cell 0
  have f0_0_W0 := K0_W0.out.free 0
  have k0_1_W0 := K0_W0.out.cell 1
  have f0_1_W0 := K0_W0.out.free 1
  have k0_2_W0 := K0_W0.out.cell 2
  have f0_2_W0 := K0_W0.out.free 2
  simp only [List.getElem?_toArray, List.getElem?_cons_zero, List.getElem?_cons_succ] at k0_0_W0 k0_1_W0 k0_2_W0
  clear hW_W0
  go_wp2_with fail
  (with_reducible refine Calls.mono (H1.out _ (by with_reducible (repeat first | exact bR _ _ | assumption | exact ho (by assumption) | refine bD ?_ | refine bA ?_ ?_ _ | refine bS ?_ ?_ _ | refine bC ?_ (ho (by assumption)) ?_) <;> (first | omega | (simp <;> omega)))) ?_)
  rintro e w2 ⟨rfl, hb⟩
  obtain ⟨hc_w2, hf_w2⟩ := bcell hb
  have HB_w2 : Hid (Below w.heap.size w w2) := Lib.hid (below_step (by with_reducible (repeat first | exact bR _ _ | assumption | exact ho (by assumption) | refine bD ?_ | refine bN ?_ _ | refine bA ?_ ?_ _ | refine bS ?_ ?_ _) <;> (first | omega | (simp <;> omega))) hb)
  have hs_w2 := hb.size
  try simp only [World.size_alloc, sz_set, sz_drew, sz_drewN] at hs_w2
  have HK_w2 := Lib.hid hb
  have HC_w2 := Lib.hid (callTo hb)
  clear hb
  go_wp2
  go_ret
  exact ⟨rfl, (by with_reducible (repeat first | exact bR _ _ | assumption | exact ho (by assumption) | refine bD ?_ | refine bA ?_ ?_ _ | refine bS ?_ ?_ _ | refine bC ?_ (ho (by assumption)) ?_) <;> (first | omega | (simp <;> omega)))⟩

abbrev cells4 (ca : Option Addr) (cc : Nat) : Array Value := #[.int .i64 4, .int .u32 17, .int .i64 1, .slice ca 1 cc, .int .u32 2147483249, .int .i64 4, .int .u32 2]
theorem default4 (w : World) : Calls Tryz.prog 67 #[.int .i64 4, .int .u32 17, .int .i64 1, .int .i64 1] w fun e w' => ∃ ca cc, e = .returned (.tuple #[.agg (cells4 ca cc), .int .i64 0]) ∧ ParIn w' par4 ca cc ∧ (∀ W S, Turn w' W S → (∀ x, x ∈ S → x < w.heap.size) → ParIn W par4 ca cc) ∧ Below w.heap.size w w' :=
  r12default_own 4 17 1 17 2147483249 1 [2147481209] w (by omega) (by omega) (by omega) (by omega) (by omega) (by omega) (plainV_pos plain417) (by omega) (by omega) (by omega) (by omega) chain4 rfl
set_option maxHeartbeats 1600000 in
set_option maxRecDepth 100000 in
theorem small13_walk (w : World) : Calls Tryz.prog 31 #[.int .i64 1] w fun e w' => ∃ ca cc, e = .returned (.agg (cells4 ca cc)) ∧ ParIn w' par4 ca cc ∧ Below w.heap.size w w' := by
  have HD := Lib.hid default4
  go_enter Tryz.func31, Tryz.ntmps31
  go_wp2_with fail
  (with_reducible refine Calls.mono (HD.out _) ?_)
  rintro e w2 ⟨ca, cc, rfl, _, hin, hb⟩
  have HI := Lib.hid hin
  clear hin
  obtain ⟨hc_w2, hf_w2⟩ := bcell hb
  have HB_w2 : Hid (Below w.heap.size w w2) := Lib.hid (below_step (by with_reducible (repeat first | exact bR _ _ | assumption | exact ho (by assumption) | refine bD ?_ | refine bN ?_ _ | refine bA ?_ ?_ _ | refine bS ?_ ?_ _) <;> (first | omega | (simp <;> omega))) hb)
  have hs_w2 := hb.size
  try simp only [World.size_alloc, sz_set, sz_drew, sz_drewN] at hs_w2
  have q0_w2 : w.heap.size < w2.heap.size := by omega
  have HK_w2 := Lib.hid hb
  have HC_w2 := Lib.hid (callTo hb)
  clear hb
  go_wp2
  refine bodyPost_ret (v := .agg (cells4 ca cc)) (by simp [results, Tryz.results31, go_sem, hc_w2, q0_w2]) rfl ⟨ca, cc, rfl, ?_, (by with_reducible (repeat first | exact bR _ _ | assumption | exact ho (by assumption) | refine bD ?_ | refine bA ?_ ?_ _ | refine bS ?_ ?_ _ | refine bC ?_ (ho (by assumption)) ?_) <;> (first | omega | (simp <;> omega)))⟩
  exact HI.out _ [w.heap.size] (by with_reducible (repeat first | exact tR _ _ | assumption | exact ho (by assumption) | refine tD ?_ | refine tA ?_ _ | refine tS ?_ (by simp) _ | refine tC ?_ (ho (by assumption)))) (by simp)
theorem rdI_lit {w : World} {b : Nat} {t : TypeId} {l : List Int} (h : Blk w b t (l.map (Value.int .i64)).toArray) : RdI w (some ⟨b, 0, none⟩) l := fun k hk => ⟨b, 0, rfl, fun j hj => by
  rw [h.cell (0 + j), Nat.zero_add]
  simp [hj]⟩
/-- The examples' ciphertexts. -/
def exA : Ci := trivCi par4 [1, 2, 3, 4] 1 1
def exE : El := ofEl par4 1 false [5, 0, 0, 0]
def exB : Ci := ⟨1, 1, [exE, ⟨1, false, [[0, 1, 0, 0]]⟩]⟩
theorem state4 : StateOk par4 1 1 := ⟨good4, by decide, by decide, by decide, by decide⟩
theorem poly4 (l : List Int) (hl : l.length = 4) (h : ∀ j, j < 4 → -8 ≤ l.getD j 0 ∧ l.getD j 0 ≤ 8) : PolyOk par4 1 l := ⟨fun j hj => h j (by omega), by rw [hl]; rfl⟩
theorem trivA : TrivOk par4 [1, 2, 3, 4] 1 1 := ⟨state4, poly4 _ rfl (by decide)⟩
theorem trivB : TrivOk par4 [5, 0, 0, 0] 1 1 := ⟨state4, poly4 _ rfl (by decide)⟩
theorem exE_rows : exE.rows = [[5, 0, 0, 0]] := by decide +kernel
theorem exZ_rows : (ofEl par4 1 false [0, 0, 0, 0]).rows = [[0, 0, 0, 0]] := by decide +kernel
theorem pairA (ca : Option Addr) (cc g : Nat) (w : World) (hin : ParIn w par4 ca cc) (hB : Blk w g 2 #[.int .i64 1, .int .i64 2, .int .i64 3, .int .i64 4]) :
    Calls Tryz.prog 68 #[.agg (cells4 ca cc), .slice (some ⟨g, 0, none⟩) 4 4, .int .i64 1, .int .i64 1] w fun e w' => (∃ ao c, e = .returned (.tuple #[.agg #[.int .i64 1, .int .i64 1, .slice ao 2 c], .int .i64 0]) ∧ RdEN w' w.heap.size ao exA.parts ∧ 2 ≤ c ∧ c ≤ 9223372036854775807) ∧ Below w.heap.size w w' :=
  (r14Trivial_yes par4 ca cc [1, 2, 3, 4] (some ⟨g, 0, none⟩) 4 1 1 w hin (by decide) (rdI_lit hB) (by decide) trivA).mono (fun _ _ ⟨⟨_, h1, ao, c, h2, h3, h4, h5⟩, hb⟩ => ⟨⟨ao, c, by rw [h1, h2]; rfl, h3, h4, h5⟩, hb⟩)
theorem pairB (ca : Option Addr) (cc g : Nat) (w : World) (hin : ParIn w par4 ca cc) (hB : Blk w g 2 #[.int .i64 5, .int .i64 0, .int .i64 0, .int .i64 0]) :
    Calls Tryz.prog 68 #[.agg (cells4 ca cc), .slice (some ⟨g, 0, none⟩) 4 4, .int .i64 1, .int .i64 1] w fun e w' => (∃ g aa cA ab cB mid, e = .returned (.tuple #[.agg #[.int .i64 1, .int .i64 1, .slice (some ⟨g, 0, none⟩) 2 2], .int .i64 0]) ∧
      Blk w' g 54 #[.int .i64 1, .bool false, .slice aa 1 cA, .int .i64 1, .bool false, .slice ab 1 cB] ∧ w.heap.size ≤ mid ∧ mid ≤ g ∧ (∃ c, OwR w' mid (.slice ab 1 c) [[0, 0, 0, 0]]) ∧ (∀ W, Below mid w' W → RdRN W w.heap.size aa exE.rows) ∧ 1 ≤ cA ∧ cA ≤ 9223372036854775807 ∧ 1 ≤ cB ∧ cB ≤ 9223372036854775807) ∧ Below w.heap.size w w' :=
  (r14Trivial_two par4 ca cc [5, 0, 0, 0] (some ⟨g, 0, none⟩) 4 1 1 w hin (by decide) (rdI_lit hB) (by decide) trivB).mono (fun _ _ ⟨⟨_, h1, g, aa, cA, ab, cB, mid, h2, h3, h4, h5, h6, h7, h8, h9, h10, h11, h12, h13, h14⟩, hb⟩ => by
    have e1 : (ofEl par4 1 false (List.replicate par4.n.toNat 0)).rows = [[0, 0, 0, 0]] := exZ_rows
    have e2 : (ofEl par4 1 false [5, 0, 0, 0]).rows = [[5, 0, 0, 0]] := exE_rows
    rw [e1] at h3 h9 h13
    rw [e2] at h3 h7
    exact ⟨⟨g, aa, cA, ab, cB, mid, by rw [h1, h2], h3, h11, h12, h13, h14, h7, h8, h9, h10⟩, hb⟩)
end Go.Proofs.YtcipjbckcnkfaaaGreat

namespace Go.Proofs.YtcipjbckcnkfaaaGreat
open Go.RowKit Go.Shelf
attribute [local go_sem ↓] Go.wp_at_zero Go.wp_at_succ

set_option maxHeartbeats 6400000 in
set_option maxRecDepth 100000 in
theorem pair16_walk (ca : Option Addr) (cc : Nat) (w : World) (hin : ParIn w par4 ca cc) :
    Calls Tryz.prog 32 #[.agg (cells4 ca cc)] w fun e w' => (∃ a1 c1 a2 c2, e = .returned (.tuple #[.agg #[.int .i64 1, .int .i64 1, .slice a1 2 c1], .agg #[.int .i64 1, .int .i64 1, .slice a2 2 c2]]) ∧ RdEN w' w.heap.size a1 exA.parts ∧ RdEN w' w.heap.size a2 exB.parts ∧ 2 ≤ c1 ∧ c1 ≤ 9223372036854775807 ∧ 2 ≤ c2 ∧ c2 ≤ 9223372036854775807) ∧ Below w.heap.size w w' := by
  have H1 := Lib.hid (fun (w' : World) (g : Nat) (hb : Below w.heap.size w w') (h : Blk w' g 2 #[.int .i64 1, .int .i64 2, .int .i64 3, .int .i64 4]) => pairA ca cc g w' (hin.below hb) h)
  have H2 := Lib.hid (fun (w' : World) (g : Nat) (hb : Below w.heap.size w w') (h : Blk w' g 2 #[.int .i64 5, .int .i64 0, .int .i64 0, .int .i64 0]) => pairB ca cc g w' (hin.below hb) h)
  obtain ⟨PA, hPA⟩ : ∃ l, exA.parts = l := ⟨_, rfl⟩
  rw [hPA] at H1 ⊢
  clear hin hPA
  go_enter Tryz.func32, Tryz.ntmps32
  go_upto_region 1 with fail
  refine gen_w _ _ (fun W0 hW_W0 => ?_)
  have HB_W0 : Hid (Below w.heap.size w W0) := Lib.hid (by rw [hW_W0]; exact (by with_reducible (repeat first | exact bR _ _ | assumption | exact ho (by assumption) | refine bD ?_ | refine bA ?_ ?_ _ | refine bS ?_ ?_ _ | refine bC ?_ (ho (by assumption)) ?_) <;> (first | omega | (simp <;> omega))))
  obtain ⟨hw_W0, hwf_W0⟩ := bcellB HB_W0.out
  have K0_W0 : Hid (Blk W0 w.heap.size 25 #[.int .i64 4, .int .u32 17, .int .i64 1, .slice ca 1 cc, .int .u32 2147483249, .int .i64 4, .int .u32 2]) := Lib.hid (by rw [hW_W0]; exact (by repeat (first | exact Blk.newAt (by (first | omega | (simp only [World.size_alloc, sz_set, sz_drew, sz_drewN]; done) | (simp only [World.size_alloc, sz_set, sz_drew, sz_drewN]; omega))) | (with_reducible refine Blk.alloc ?_ _) | (with_reducible refine Blk.drew ?_) | (with_reducible refine Blk.drewN ?_ _) | (with_reducible refine Blk.belowB ?_ (Hid.out (by assumption)) ?szk; case szk => (first | omega | (simp only [World.size_alloc, sz_set, sz_drew, sz_drewN]; done) | (simp only [World.size_alloc, sz_set, sz_drew, sz_drewN]; omega))))))
  have q0_W0 : w.heap.size < W0.heap.size := K0_W0.out.lt
  have k0_0_W0 := K0_W0.out.cell 0
  have f0_0_W0 := K0_W0.out.free 0
  have k0_1_W0 := K0_W0.out.cell 1
  have f0_1_W0 := K0_W0.out.free 1
  have k0_2_W0 := K0_W0.out.cell 2
  have f0_2_W0 := K0_W0.out.free 2
  have k0_3_W0 := K0_W0.out.cell 3
  have f0_3_W0 := K0_W0.out.free 3
  have k0_4_W0 := K0_W0.out.cell 4
  have f0_4_W0 := K0_W0.out.free 4
  have k0_5_W0 := K0_W0.out.cell 5
  have f0_5_W0 := K0_W0.out.free 5
  have k0_6_W0 := K0_W0.out.cell 6
  have f0_6_W0 := K0_W0.out.free 6
  simp only [List.getElem?_toArray, List.getElem?_cons_zero, List.getElem?_cons_succ] at k0_0_W0 k0_1_W0 k0_2_W0 k0_3_W0 k0_4_W0 k0_5_W0 k0_6_W0
  have K1_W0 : Hid (Blk W0 (w.heap.size + 1) 28 #[.int .i64 0, .int .i64 0, .slice none 0 0]) := Lib.hid (by rw [hW_W0]; exact (by repeat (first | exact Blk.newAt (by (first | omega | (simp only [World.size_alloc, sz_set, sz_drew, sz_drewN]; done) | (simp only [World.size_alloc, sz_set, sz_drew, sz_drewN]; omega))) | (with_reducible refine Blk.alloc ?_ _) | (with_reducible refine Blk.drew ?_) | (with_reducible refine Blk.drewN ?_ _) | (with_reducible refine Blk.belowB ?_ (Hid.out (by assumption)) ?szk; case szk => (first | omega | (simp only [World.size_alloc, sz_set, sz_drew, sz_drewN]; done) | (simp only [World.size_alloc, sz_set, sz_drew, sz_drewN]; omega))))))
  have q1_W0 : w.heap.size + 1 < W0.heap.size := K1_W0.out.lt
  have k1_0_W0 := K1_W0.out.cell 0
  have f1_0_W0 := K1_W0.out.free 0
  have k1_1_W0 := K1_W0.out.cell 1
  have f1_1_W0 := K1_W0.out.free 1
  have k1_2_W0 := K1_W0.out.cell 2
  have f1_2_W0 := K1_W0.out.free 2
  simp only [List.getElem?_toArray, List.getElem?_cons_zero, List.getElem?_cons_succ] at k1_0_W0 k1_1_W0 k1_2_W0
  have K2_W0 : Hid (Blk W0 (w.heap.size + 1 + 1) 28 #[.int .i64 0, .int .i64 0, .slice none 0 0]) := Lib.hid (by rw [hW_W0]; exact (by repeat (first | exact Blk.newAt (by (first | omega | (simp only [World.size_alloc, sz_set, sz_drew, sz_drewN]; done) | (simp only [World.size_alloc, sz_set, sz_drew, sz_drewN]; omega))) | (with_reducible refine Blk.alloc ?_ _) | (with_reducible refine Blk.drew ?_) | (with_reducible refine Blk.drewN ?_ _) | (with_reducible refine Blk.belowB ?_ (Hid.out (by assumption)) ?szk; case szk => (first | omega | (simp only [World.size_alloc, sz_set, sz_drew, sz_drewN]; done) | (simp only [World.size_alloc, sz_set, sz_drew, sz_drewN]; omega))))))
  have q2_W0 : w.heap.size + 1 + 1 < W0.heap.size := K2_W0.out.lt
  have k2_0_W0 := K2_W0.out.cell 0
  have f2_0_W0 := K2_W0.out.free 0
  have k2_1_W0 := K2_W0.out.cell 1
  have f2_1_W0 := K2_W0.out.free 1
  have k2_2_W0 := K2_W0.out.cell 2
  have f2_2_W0 := K2_W0.out.free 2
  simp only [List.getElem?_toArray, List.getElem?_cons_zero, List.getElem?_cons_succ] at k2_0_W0 k2_1_W0 k2_2_W0
  clear hW_W0
  go_wp2_with fail
  (with_reducible refine Calls.mono (H1.out _ _ (by with_reducible (repeat first | exact bR _ _ | assumption | exact ho (by assumption) | refine bD ?_ | refine bA ?_ ?_ _ | refine bS ?_ ?_ _ | refine bC ?_ (ho (by assumption)) ?_) <;> (first | omega | (simp <;> omega))) (by repeat (first | exact Blk.newAt (by (first | omega | (simp only [World.size_alloc, sz_set, sz_drew, sz_drewN]; done) | (simp only [World.size_alloc, sz_set, sz_drew, sz_drewN]; omega))) | (with_reducible refine Blk.alloc ?_ _) | (with_reducible refine Blk.drew ?_) | (with_reducible refine Blk.drewN ?_ _) | (with_reducible refine Blk.belowB ?_ (Hid.out (by assumption)) ?szk; case szk => (first | omega | (simp only [World.size_alloc, sz_set, sz_drew, sz_drewN]; done) | (simp only [World.size_alloc, sz_set, sz_drew, sz_drewN]; omega)))))) ?_)
  rintro e w5 ⟨⟨a1, c1, rfl, hr, hca⟩, hb⟩
  have HR5 := Lib.hid hr
  have HCA := Lib.hid hca
  obtain ⟨hc_w5, hf_w5⟩ := bcell hb
  have HB_w5 : Hid (Below W0.heap.size W0 w5) := Lib.hid (below_step (by with_reducible (repeat first | exact bR _ _ | assumption | exact ho (by assumption) | refine bD ?_ | refine bN ?_ _ | refine bA ?_ ?_ _ | refine bS ?_ ?_ _) <;> (first | omega | (simp <;> omega))) hb)
  have hs_w5 := hb.size
  try simp only [World.size_alloc, sz_set, sz_drew, sz_drewN] at hs_w5
  have HK_w5 := Lib.hid hb
  have HC_w5 := Lib.hid (callTo hb)
  clear hb
  have hs5 : W0.heap.size < w5.heap.size := by omega
  have t0 : w.heap.size < w5.heap.size := by omega
  have t1 : w.heap.size + 1 < w5.heap.size := by omega
  have t2 : w.heap.size + 1 + 1 < w5.heap.size := by omega
  clear hr hca
  go_wp2_with fail
  (with_reducible refine Calls.mono (H2.out _ _ (by with_reducible (repeat first | exact bR _ _ | assumption | exact ho (by assumption) | refine bD ?_ | refine bA ?_ ?_ _ | refine bS ?_ ?_ _ | refine bC ?_ (ho (by assumption)) ?_) <;> (first | omega | (simp <;> omega))) (by repeat (first | exact Blk.newAt (by (first | omega | (simp only [World.size_alloc, sz_set, sz_drew, sz_drewN]; done) | (simp only [World.size_alloc, sz_set, sz_drew, sz_drewN]; omega))) | (with_reducible refine Blk.alloc ?_ _) | (with_reducible refine Blk.drew ?_) | (with_reducible refine Blk.drewN ?_ _) | (with_reducible refine Blk.belowB ?_ (Hid.out (by assumption)) ?szk; case szk => (first | omega | (simp only [World.size_alloc, sz_set, sz_drew, sz_drewN]; done) | (simp only [World.size_alloc, sz_set, sz_drew, sz_drewN]; omega)))))) ?_)
  rintro e w6 ⟨⟨g, aa, cA, ab, cB, mid, rfl, hG, hm1, hm2, ⟨cO, hO⟩, hst, hl⟩, hb⟩
  obtain ⟨gh, gr, o, rc, rfl, x0, x1, x2, x3, ⟨cs, x4⟩, x5⟩ := hO.poke (j := 1) (by simp)
  have hm3 : w5.heap.size < mid := by (try simp only [World.size_alloc, sz_drew, sz_set] at hm1); omega
  have hm4 : w.heap.size < gr := by omega
  have ht : gr ≠ g := fun e => by subst e; rw [show w6.heap[gr]? = _ from hG] at x4; cases x4
  have HG := Lib.hid hG
  have HST := Lib.hid hst
  have HPO := Lib.hid x5
  have HL := Lib.hid hl
  have y0 := hG.cell 3
  have y1 := hG.cell 4
  have y2 := hG.cell 5
  simp only [List.getElem?_toArray, List.getElem?_cons_zero, List.getElem?_cons_succ] at y0 y1 y2
  have lg : g < w6.heap.size := hG.lt
  have lr : gr < w6.heap.size := block_lt x4
  have lh : gh < w6.heap.size := World.block_lt_of_cell? w6 _ x0
  have x2' := x2 (o + 1)
  simp only [List.length_cons, List.length_nil] at x0
  obtain ⟨hc_w6, hf_w6⟩ := bcell hb
  have HB_w6 : Hid (Below w5.heap.size w5 w6) := Lib.hid (below_step (by with_reducible (repeat first | exact bR _ _ | assumption | exact ho (by assumption) | refine bD ?_ | refine bN ?_ _ | refine bA ?_ ?_ _ | refine bS ?_ ?_ _) <;> (first | omega | (simp <;> omega))) hb)
  have hs_w6 := hb.size
  try simp only [World.size_alloc, sz_set, sz_drew, sz_drewN] at hs_w6
  have HK_w6 := Lib.hid hb
  have HC_w6 := Lib.hid (callTo hb)
  clear hb
  have hs6 : w5.heap.size < w6.heap.size := by omega
  clear hO hst x5 hG hl x2 x4
  go_wp2
  refine gen_w _ _ (fun W7 hW7 => ?_)
  have HB7 : Hid (Below w.heap.size w W7) := Lib.hid (by rw [hW7]; exact (by with_reducible (repeat first | exact bR _ _ | assumption | exact ho (by assumption) | refine bD ?_ | refine bA ?_ ?_ _ | refine bS ?_ ?_ _ | refine bC ?_ (ho (by assumption)) ?_) <;> (first | omega | (simp <;> omega))))
  have HKA : Hid (RdEN W7 W0.heap.size a1 PA) := Lib.hid ((HR5.out.kp (by rw [hW7]; exact (by with_reducible (repeat first | exact kR _ _ _ | assumption | exact ho (by assumption) | refine kD ?_ | refine kA ?_ _ | refine kS ?_ ?_ _ | refine kC ?_ (ho (by assumption))) <;> (first | omega | (simp <;> omega))))).mono (by (first | omega | (simp only [World.size_alloc, sz_set, sz_drew, sz_drewN]; done) | (simp only [World.size_alloc, sz_set, sz_drew, sz_drewN]; omega))))
  have HKB : Hid (RdEN W7 W0.heap.size (some ⟨g, 0, none⟩) exB.parts) := Lib.hid (by
    rw [hW7]
    refine rdEN_two (A := exE) (B := ⟨1, false, [[0, 1, 0, 0]]⟩) (aa := aa) (ab := some ⟨gh, 0, none⟩) (cA := cA) (cB := cB) ?_ (by omega) ((HST.out _ (by with_reducible (repeat first | exact bR _ _ | assumption | exact ho (by assumption) | refine bD ?_ | refine bA ?_ ?_ _ | refine bS ?_ ?_ _ | refine bC ?_ (ho (by assumption)) ?_) <;> (first | omega | (simp <;> omega)))).mono (by (first | omega | (simp only [World.size_alloc, sz_set, sz_drew, sz_drewN]; done) | (simp only [World.size_alloc, sz_set, sz_drew, sz_drewN]; omega)))) ((OwR.rdn ((HPO.out w6 (Kp.refl _ _ _) 1).below ((Below.refl _ _).alloc (Nat.le_refl _) _))).mono (by omega)) ?_ HL.out.2.1 HL.out.2.2.1 HL.out.2.2.2
    · rw [exE_rows]; exact (HG.out.far (fun e => ht e.symm) _).alloc _
    · rw [exE_rows]; exact HL.out.1)
  have HA7 : Hid (Blk W7 w5.heap.size 28 #[.int .i64 1, .int .i64 1, .slice a1 2 c1]) := Lib.hid (by rw [hW7]; exact (by with_reducible (repeat first | assumption | exact ho (by assumption) | (refine Blk.newAt ?z; case z => first | rfl | (first | omega | (simp <;> omega))) | apply Blk.three | apply Blk.seven | apply Blk.nine | (refine Blk.far ?_ ?z _; case z => ((try dsimp only); (first | omega | (simp <;> omega)))) | refine Blk.alloc ?_ _ | refine Blk.drew ?_ | refine Blk.belowB ?_ (ho (by assumption)) ?_) <;> (first | omega | (simp <;> omega))))
  have HB7' : Hid (Blk W7 w6.heap.size 28 #[.int .i64 1, .int .i64 1, .slice (some ⟨g, 0, none⟩) 2 2]) := Lib.hid (by rw [hW7]; exact (by with_reducible (repeat first | assumption | exact ho (by assumption) | (refine Blk.newAt ?z; case z => first | rfl | (first | omega | (simp <;> omega))) | apply Blk.three | apply Blk.seven | apply Blk.nine | (refine Blk.far ?_ ?z _; case z => ((try dsimp only); (first | omega | (simp <;> omega)))) | refine Blk.alloc ?_ _ | refine Blk.drew ?_ | refine Blk.belowB ?_ (ho (by assumption)) ?_) <;> (first | omega | (simp <;> omega))))
  have HR7 : Hid (Blk W7 (w.heap.size + 1) 28 #[.int .i64 0, .int .i64 0, .slice none 0 0]) := Lib.hid (by rw [hW7]; exact (by with_reducible (repeat first | assumption | exact ho (by assumption) | (refine Blk.newAt ?z; case z => first | rfl | (first | omega | (simp <;> omega))) | apply Blk.three | apply Blk.seven | apply Blk.nine | (refine Blk.far ?_ ?z _; case z => ((try dsimp only); (first | omega | (simp <;> omega)))) | refine Blk.alloc ?_ _ | refine Blk.drew ?_ | refine Blk.belowB ?_ (ho (by assumption)) ?_) <;> (first | omega | (simp <;> omega))))
  have HR7' : Hid (Blk W7 (w.heap.size + 1 + 1) 28 #[.int .i64 0, .int .i64 0, .slice none 0 0]) := Lib.hid (by rw [hW7]; exact (by with_reducible (repeat first | assumption | exact ho (by assumption) | (refine Blk.newAt ?z; case z => first | rfl | (first | omega | (simp <;> omega))) | apply Blk.three | apply Blk.seven | apply Blk.nine | (refine Blk.far ?_ ?z _; case z => ((try dsimp only); (first | omega | (simp <;> omega)))) | refine Blk.alloc ?_ _ | refine Blk.drew ?_ | refine Blk.belowB ?_ (ho (by assumption)) ?_) <;> (first | omega | (simp <;> omega))))
  have n1 : w5.heap.size ≠ w.heap.size + 1 := by omega
  have n2 : w5.heap.size ≠ w.heap.size + 1 + 1 := by omega
  have n3 : w6.heap.size ≠ w.heap.size + 1 := by omega
  have n4 : w6.heap.size ≠ w.heap.size + 1 + 1 := by omega
  have l1 : w5.heap.size < W7.heap.size := HA7.out.lt
  have l2 : w6.heap.size < W7.heap.size := HB7'.out.lt
  clear hW7 HST HPO HG HR5 HC_w6 HK_w6 HB_w6 hc_w6 hf_w6
  obtain ⟨a0, a1', a2⟩ := el_cells HA7.out
  obtain ⟨b0, b1, b2⟩ := el_cells HB7'.out
  obtain ⟨r0, r1, r2⟩ := el_cells HR7.out
  obtain ⟨s0, s1, s2⟩ := el_cells HR7'.out
  have g0 := HR7.out.free
  have g1 := HR7'.out.free
  have hS : (fun w' : World => Turn W7 w' [w.heap.size + 1, w.heap.size + 1 + 1]) W7.drew := (Turn.refl _ _).drew
  refine wp_region_L (fun w' : World => Turn W7 w' [w.heap.size + 1, w.heap.size + 1 + 1]) 3 (by kernel_rfl) (by kernel_rfl) (by kernel_rfl) ?_
  refine wpL.take 0 (v := ?_) rfl (by kernel_rfl) (by kernel_rfl) rfl (fun _ _ _ h => h) (by assumption) ?_ ?_
  rotate_left
  · (intro w hSw; (try dsimp only at hSw); obtain ⟨hcS, hfS⟩ := tcell2 hSw; go_simp; try with_reducible rfl)
  try simp only [Act.put, gA, gB, gC, sA, sB, sC]
  refine wpL.take 1 (v := ?_) rfl (by kernel_rfl) (by kernel_rfl) rfl (fun _ _ _ h => h) (by assumption) ?_ ?_
  rotate_left
  · (intro w hSw; (try dsimp only at hSw); obtain ⟨hcS, hfS⟩ := tcell2 hSw; go_simp; try with_reducible rfl)
  try simp only [Act.put, gA, gB, gC, sA, sB, sC]
  refine wpL.eff 2 rfl (by kernel_rfl) rfl ?_
  intro K hK
  go_wp2
  refine hK _ _ (by with_reducible (repeat first | exact tR _ _ | assumption | exact ho (by assumption) | refine tD ?_ | refine tA ?_ _ | refine tS ?_ (by simp) _ | refine tC ?_ (ho (by assumption)))) (fun hS => ?_)
  clear hK
  try simp only [Act.put, gA, gB, gC, sA, sB, sC]
  refine wpL.last 3 rfl (by kernel_rfl) rfl (by kernel_rfl) rfl ?_
  go_wp2
  refine bodyPost_ret (v := .tuple #[.agg #[.int .i64 1, .int .i64 1, .slice a1 2 c1], .agg #[.int .i64 1, .int .i64 1, .slice (some ⟨g, 0, none⟩) 2 2]]) (by simp [results, Tryz.results32, go_sem, r0, r1, r2, s0, s1, s2]) rfl ⟨⟨_, _, _, _, rfl, (HKA.out.kp (by with_reducible (repeat first | exact kR _ _ _ | assumption | exact ho (by assumption) | refine kD ?_ | refine kA ?_ _ | refine kS ?_ ?_ _ | refine kC ?_ (ho (by assumption))) <;> (first | omega | (simp <;> omega)))).mono (by omega), (HKB.out.kp (by with_reducible (repeat first | exact kR _ _ _ | assumption | exact ho (by assumption) | refine kD ?_ | refine kA ?_ _ | refine kS ?_ ?_ _ | refine kC ?_ (ho (by assumption))) <;> (first | omega | (simp <;> omega)))).mono (by omega), HCA.out.1, HCA.out.2, Nat.le_refl _, by omega⟩, (by with_reducible (repeat first | exact bR _ _ | assumption | exact ho (by assumption) | refine bD ?_ | refine bA ?_ ?_ _ | refine bS ?_ ?_ _ | refine bC ?_ (ho (by assumption)) ?_) <;> (first | omega | (simp <;> omega)))⟩
end Go.Proofs.YtcipjbckcnkfaaaGreat
