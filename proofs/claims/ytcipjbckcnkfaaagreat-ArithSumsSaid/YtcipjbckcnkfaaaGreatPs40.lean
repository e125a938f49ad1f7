/- The reference's Trivial. (Printed by gentriv.py.) -/
import Derived.Test.YtcipjbckcnkfaaaGreatPs38
import Derived.Test.YtcipjbckcnkfaaaGreatPs29
import Derived.Test.YtcipjbckcnkfaaaGreatPs23
set_option linter.unusedSimpArgs false
set_option linter.unusedVariables false
namespace Go.Proofs.YtcipjbckcnkfaaaGreat
open Go.RowKit
attribute [local go_sem ↓] Go.wp_at_zero Go.wp_at_succ

set_option maxHeartbeats 6400000 in
set_option maxRecDepth 100000 in
theorem r14Trivial_no (p : Par) (ca : Option Addr) (cc : Nat) (l : List Int) (al : Option Addr) (cl : Nat) (level exponent : Int) (w : World) (hin : ParIn w p ca cc) (hl : l.length ≤ 9223372036854775807) (hrd : RdI w al l) (hno : ¬ TrivOk p l level exponent) :
    Calls Tryz.prog 68 #[.agg (p.cells ca cc), .slice al l.length cl, .int .i64 level, .int .i64 exponent] w fun e w' => (∃ v, e = .returned (.tuple #[v, .int .i64 2]) ∧ GiveCi w.heap.size noCi v w') ∧ Below w.heap.size w w' := by
  have H1 := Lib.hid (fun (w' : World) (hb : Below w.heap.size w w') => r14State_walk p ca cc level exponent w' (hin.below hb))
  have HG := Lib.hid (fun (b : Nat) (w' : World) => noCi_give b w')
  by_cases hs : StateOk p level exponent
  case neg =>
    rw [tr_neg hs] at H1
    unfold Par.cells at *
    clear hin hs hno hrd
    go_enter Tryz.func68, Tryz.ntmps68
    go_wp2_with fail
    (with_reducible refine Calls.mono (H1.out _ (by with_reducible (repeat first | exact bR _ _ | assumption | exact ho (by assumption) | refine bD ?_ | refine bN ?_ _ | refine bA ?_ ?_ _ | refine bS ?_ ?_ _) <;> (first | omega | (simp <;> omega)))) ?_)
    rintro e w2 ⟨rfl, hb⟩
    obtain ⟨hc_w2, hf_w2⟩ := bcell hb
    have HB_w2 : Hid (Below w.heap.size w w2) := Lib.hid (below_step (by with_reducible (repeat first | exact bR _ _ | assumption | exact ho (by assumption) | refine bD ?_ | refine bN ?_ _ | refine bA ?_ ?_ _ | refine bS ?_ ?_ _) <;> (first | omega | (simp <;> omega))) hb)
    have hs_w2 := hb.size
    try simp only [World.size_alloc, sz_set, sz_drew, sz_drewN] at hs_w2
    have q0_w2 : w.heap.size < w2.heap.size := by omega
    have q1_w2 : w.heap.size + 1 < w2.heap.size := by omega
    have HK_w2 := Lib.hid hb
    clear hb
    go_wp2
    refine bodyPost_ret (v := .tuple #[.agg #[.int .i64 0, .int .i64 0, .slice none 0 0], .int .i64 2]) (by simp [results, Tryz.results68, go_sem, hc_w2, q1_w2]) rfl ⟨⟨_, rfl, HG.out _ _⟩, (by with_reducible (repeat first | exact bR _ _ | assumption | exact ho (by assumption) | refine bD ?_ | refine bN ?_ _ | refine bA ?_ ?_ _ | refine bS ?_ ?_ _) <;> (first | omega | (simp <;> omega)))⟩
  rw [tr_pos hs] at H1
  obtain ⟨ex, hex⟩ := Int.eq_ofNat_of_zero_le (show 0 ≤ exponent by have := hs.2.2.2.1; omega)
  have hpo : ¬ PolyOk p ex l := fun h => hno ⟨hs, by rw [hex, Int.toNat_natCast]; exact h⟩
  have H2 : Hid (∀ w', Below w.heap.size w w' → Calls Tryz.prog 23 #[.agg (p.cells ca cc), .slice al l.length cl, .int .i64 exponent] w' fun e w2 => e = .returned (.bool false) ∧ Below w'.heap.size w' w2) := Lib.hid (fun w' hb => by
    have := r14Polynomial_walk p ca cc ex l al cl w' hs.1 (by rw [← hex]; exact hs.2.2.2.2) hl (hrd.below hb)
    rw [tr_neg hpo, ← hex] at this
    exact this)
  unfold Par.cells at *
  clear hin hs hno hrd hpo hex
  go_enter Tryz.func68, Tryz.ntmps68
  go_wp2_with fail
  (with_reducible refine Calls.mono (H1.out _ (by with_reducible (repeat first | exact bR _ _ | assumption | exact ho (by assumption) | refine bD ?_ | refine bN ?_ _ | refine bA ?_ ?_ _ | refine bS ?_ ?_ _) <;> (first | omega | (simp <;> omega)))) ?_)
  rintro e w2 ⟨rfl, hb⟩
  obtain ⟨hc_w2, hf_w2⟩ := bcell hb
  have HB_w2 : Hid (Below w.heap.size w w2) := Lib.hid (below_step (by with_reducible (repeat first | exact bR _ _ | assumption | exact ho (by assumption) | refine bD ?_ | refine bN ?_ _ | refine bA ?_ ?_ _ | refine bS ?_ ?_ _) <;> (first | omega | (simp <;> omega))) hb)
  have hs_w2 := hb.size
  try simp only [World.size_alloc, sz_set, sz_drew, sz_drewN] at hs_w2
  have q0_w2 : w.heap.size < w2.heap.size := by omega
  have q1_w2 : w.heap.size + 1 < w2.heap.size := by omega
  have HK_w2 := Lib.hid hb
  clear hb
  go_wp2_with fail
  (with_reducible refine Calls.mono (H2.out _ (by with_reducible (repeat first | exact bR _ _ | assumption | exact ho (by assumption) | refine bD ?_ | refine bN ?_ _ | refine bA ?_ ?_ _ | refine bS ?_ ?_ _) <;> (first | omega | (simp <;> omega)))) ?_)
  rintro e w3 ⟨rfl, hb⟩
  obtain ⟨hc_w3, hf_w3⟩ := bcell hb
  have HB_w3 : Hid (Below w.heap.size w w3) := Lib.hid (below_step (by with_reducible (repeat first | exact bR _ _ | assumption | exact ho (by assumption) | refine bD ?_ | refine bN ?_ _ | refine bA ?_ ?_ _ | refine bS ?_ ?_ _) <;> (first | omega | (simp <;> omega))) hb)
  have hs_w3 := hb.size
  try simp only [World.size_alloc, sz_set, sz_drew, sz_drewN] at hs_w3
  have q0_w3 : w.heap.size < w3.heap.size := by omega
  have q1_w3 : w.heap.size + 1 < w3.heap.size := by omega
  have HK_w3 := Lib.hid hb
  clear hb
  go_wp2
  refine bodyPost_ret (v := .tuple #[.agg #[.int .i64 0, .int .i64 0, .slice none 0 0], .int .i64 2]) (by simp [results, Tryz.results68, go_sem, hc_w3, hc_w2, q1_w2, q1_w3]) rfl ⟨⟨_, rfl, HG.out _ _⟩, (by with_reducible (repeat first | exact bR _ _ | assumption | exact ho (by assumption) | refine bD ?_ | refine bN ?_ _ | refine bA ?_ ?_ _ | refine bS ?_ ?_ _) <;> (first | omega | (simp <;> omega)))⟩


/-- Two elements of the call's own in one block: the second one lies beyond the first. -/
def GiveTwo (base : Nat) (L X : Int) (A B : El) (v : Value) (w' : World) : Prop := ∃ g aa cA ab cB mid, v = .agg #[.int .i64 L, .int .i64 X, .slice (some ⟨g, 0, none⟩) 2 2] ∧
  Blk w' g 54 #[.int .i64 A.level, .bool A.special, .slice aa A.rows.length cA, .int .i64 B.level, .bool B.special, .slice ab B.rows.length cB] ∧ base ≤ g ∧ RdRN w' base aa A.rows ∧ RdRN w' base ab B.rows ∧ A.rows.length ≤ cA ∧ cA ≤ 9223372036854775807 ∧ B.rows.length ≤ cB ∧ cB ≤ 9223372036854775807 ∧
  base ≤ mid ∧ mid ≤ g ∧ RdRN w' mid ab B.rows ∧ ∀ W, Below mid w' W → RdRN W base aa A.rows
set_option maxHeartbeats 1600000 in
theorem r14with_walk (a b : Int) (ao : Option Addr) (n c : Nat) (w : World) : Calls Tryz.prog 100 #[.int .i64 a, .int .i64 b, .slice ao n c] w fun e w' => e = .returned (.agg #[.int .i64 a, .int .i64 b, .slice ao n c]) ∧ Below w.heap.size w w' := by
  go_enter Tryz.func100, Tryz.ntmps100
  go_wp2
  refine bodyPost_ret (v := .agg #[.int .i64 a, .int .i64 b, .slice ao n c]) (by simp [results, Tryz.results100, go_sem]) rfl ⟨rfl, (by with_reducible (repeat first | exact bR _ _ | assumption | exact ho (by assumption) | refine bD ?_ | refine bN ?_ _ | refine bA ?_ ?_ _ | refine bS ?_ ?_ _) <;> (first | omega | (simp <;> omega)))⟩

set_option maxHeartbeats 6400000 in
set_option maxRecDepth 100000 in
theorem r14Trivial_two (p : Par) (ca : Option Addr) (cc : Nat) (l : List Int) (al : Option Addr) (cl : Nat) (level exponent : Int) (w : World) (hin : ParIn w p ca cc) (hl : l.length ≤ 9223372036854775807) (hrd : RdI w al l) (hlv : ∀ j, j < l.length → -9223372036854775808 ≤ l.getD j 0 ∧ l.getD j 0 ≤ 9223372036854775807) (hok : TrivOk p l level exponent) :
    Calls Tryz.prog 68 #[.agg (p.cells ca cc), .slice al l.length cl, .int .i64 level, .int .i64 exponent] w fun e w' => (∃ v, e = .returned (.tuple #[v, .int .i64 0]) ∧ GiveTwo w.heap.size level exponent (ofEl p level false l) (ofEl p level false (List.replicate p.n.toNat 0)) v w') ∧ Below w.heap.size w w' := by
  obtain ⟨hs, hpo⟩ := hok
  have hg := hs.1
  have hpl : PlaceOk p level false := PlaceOk.of hs.2.1 hs.2.2.1
  obtain ⟨lv, m, n, rfl, hpn, hqm, hlv1, hlv2, hn0, hn32, hs0, hs1, hm25, hqb⟩ := hpl.shape hg
  have hln : l.length = n := by have := hpo.2; omega
  obtain ⟨ex, hex⟩ := Int.eq_ofNat_of_zero_le (show 0 ≤ exponent by have := hs.2.2.2.1; omega)
  have H1 := Lib.hid (fun (w' : World) (hb : Below w.heap.size w w') => r14State_walk p ca cc lv exponent w' (hin.below hb))
  rw [tr_pos hs] at H1
  have H2 : Hid (∀ w', Below w.heap.size w w' → Calls Tryz.prog 23 #[.agg (p.cells ca cc), .slice al l.length cl, .int .i64 exponent] w' fun e w2 => e = .returned (.bool true) ∧ Below w'.heap.size w' w2) := Lib.hid (fun w' hb => by
    have := r14Polynomial_walk p ca cc ex l al cl w' hs.1 (by rw [← hex]; exact hs.2.2.2.2) hl (hrd.below hb)
    rw [tr_pos (by rw [hex, Int.toNat_natCast] at hpo; exact hpo), ← hex] at this
    exact this)
  have H3 : Hid (∀ w', Below w.heap.size w w' → Calls Tryz.prog 79 #[.agg (p.cells ca cc), .agg #[.int .i64 lv, .bool false, .slice none 0 0], .slice al l.length cl] w' fun e w2 => (∃ v, e = .returned v ∧ GiveEl w'.heap.size (ofEl p lv false l) v w2) ∧ Below w'.heap.size w' w2) := Lib.hid (fun w' hb => r13Of_walk p ca cc ⟨lv, false, []⟩ none 0 l al cl w' (hin.below hb) hg hpl (by omega) hlv (hrd.below hb))
  have H4 : Hid (∀ (w' : World) (g : Nat), Below w.heap.size w w' → Blk w' g 2 (zeroLs n) → Calls Tryz.prog 79 #[.agg (p.cells ca cc), .agg #[.int .i64 lv, .bool false, .slice none 0 0], .slice (some ⟨g, 0, none⟩) n n] w' fun e w2 => (∃ v, e = .returned v ∧ GiveEl w'.heap.size (ofEl p lv false (List.replicate n 0)) v w2) ∧ Below w'.heap.size w' w2) := Lib.hid (fun w' g hb hB => by
    have := r13Of_walk p ca cc ⟨lv, false, []⟩ none 0 (List.replicate n 0) (some ⟨g, 0, none⟩) n w' (hin.below hb) hg hpl (by simp [hpn]) (fun j hj => by simp at hj; simp [List.getD_eq_getElem?_getD, hj]) (rdI_zeros hB)
    rw [List.length_replicate] at this
    exact this)
  have HW := Lib.hid (fun (a b : Int) (ao : Option Addr) (n c : Nat) (w' : World) => r14with_walk a b ao n c w')
  have hZn : p.n.toNat = n := by omega
  rw [hZn]
  have hl1 : (ofEl p lv false l).level = lv := rfl
  have hl2 : (ofEl p lv false l).special = false := rfl
  have hl3 : (ofEl p lv false l).rows.length = m := by show (mkRows _ _ _).length = m; rw [mkRows_len, hqm]
  have hz1 : (ofEl p lv false (List.replicate n 0)).level = lv := rfl
  have hz2 : (ofEl p lv false (List.replicate n 0)).special = false := rfl
  have hz3 : (ofEl p lv false (List.replicate n 0)).rows.length = m := by show (mkRows _ _ _).length = m; rw [mkRows_len, hqm]
  obtain ⟨T, hT⟩ : ∃ T, ofEl p lv false l = T := ⟨_, rfl⟩
  obtain ⟨Z, hZ⟩ : ∃ Z, ofEl p lv false (List.replicate n 0) = Z := ⟨_, rfl⟩
  rw [hT] at H3 hl1 hl2 hl3 ⊢
  rw [hZ] at H4 hz1 hz2 hz3 ⊢
  have HTL := Lib.hid (And.intro hl1 (And.intro hl2 hl3))
  have HZL := Lib.hid (And.intro hz1 (And.intro hz2 hz3))
  have hmk := makeLs n (by omega)
  unfold GiveEl El.val Par.cells at *
  rw [hl1, hl2, hl3] at H3
  rw [hz1, hz2, hz3] at H4
  rw [hpn] at H1 H2 H3 H4 ⊢
  rw [hln] at H2 H3 ⊢
  clear hin hg hpl hs hpo hrd hlv hln hl hpn hqm hs0 hs1 hqb hex hZn hl1 hl2 hl3 hz1 hz2 hz3 hT hZ
  go_enter Tryz.func68, Tryz.ntmps68
  go_wp2_with fail
  (with_reducible refine Calls.mono (H1.out _ (by with_reducible (repeat first | exact bR _ _ | assumption | exact ho (by assumption) | refine bD ?_ | refine bN ?_ _ | refine bA ?_ ?_ _ | refine bS ?_ ?_ _) <;> (first | omega | (simp <;> omega)))) ?_)
  rintro e w2 ⟨rfl, hb⟩
  obtain ⟨hc_w2, hf_w2⟩ := bcell hb
  have HB_w2 : Hid (Below w.heap.size w w2) := Lib.hid (below_step (by with_reducible (repeat first | exact bR _ _ | assumption | exact ho (by assumption) | refine bD ?_ | refine bN ?_ _ | refine bA ?_ ?_ _ | refine bS ?_ ?_ _) <;> (first | omega | (simp <;> omega))) hb)
  have hs_w2 := hb.size
  try simp only [World.size_alloc, sz_set, sz_drew, sz_drewN] at hs_w2
  have q0_w2 : w.heap.size < w2.heap.size := by omega
  have q1_w2 : w.heap.size + 1 < w2.heap.size := by omega
  have HK_w2 := Lib.hid hb
  clear hb
  go_wp2_with fail
  (with_reducible refine Calls.mono (H2.out _ (by with_reducible (repeat first | exact bR _ _ | assumption | exact ho (by assumption) | refine bD ?_ | refine bN ?_ _ | refine bA ?_ ?_ _ | refine bS ?_ ?_ _) <;> (first | omega | (simp <;> omega)))) ?_)
  rintro e w3 ⟨rfl, hb⟩
  have b0 : Blk w3 w.heap.size 25 #[.int .i64 (n : Int), .int .u32 (p.prime : Int), .int .i64 p.power, .slice ca p.chain.length cc, .int .u32 (p.special : Int), .int .i64 p.weight, .int .u32 (p.err : Int)] := Blk.below (Blk.below (by repeat (first | exact Blk.newAt (by (first | omega | (simp only [World.size_alloc, sz_set, sz_drew, sz_drewN]; done) | (simp only [World.size_alloc, sz_set, sz_drew, sz_drewN]; omega))) | (with_reducible refine Blk.alloc ?_ _) | (with_reducible refine Blk.drew ?_) | (with_reducible refine Blk.drewN ?_ _) | (with_reducible refine Blk.belowB ?_ (Hid.out (by assumption)) ?szk; case szk => (first | omega | (simp only [World.size_alloc, sz_set, sz_drew, sz_drewN]; done) | (simp only [World.size_alloc, sz_set, sz_drew, sz_drewN]; omega))))) HK_w2.out) hb
  have b1 : Blk w3 (w.heap.size + 1) 28 #[.int .i64 0, .int .i64 0, .slice none 0 0] := Blk.below (Blk.below (by repeat (first | exact Blk.newAt (by (first | omega | (simp only [World.size_alloc, sz_set, sz_drew, sz_drewN]; done) | (simp only [World.size_alloc, sz_set, sz_drew, sz_drewN]; omega))) | (with_reducible refine Blk.alloc ?_ _) | (with_reducible refine Blk.drew ?_) | (with_reducible refine Blk.drewN ?_ _) | (with_reducible refine Blk.belowB ?_ (Hid.out (by assumption)) ?szk; case szk => (first | omega | (simp only [World.size_alloc, sz_set, sz_drew, sz_drewN]; done) | (simp only [World.size_alloc, sz_set, sz_drew, sz_drewN]; omega))))) HK_w2.out) hb
  obtain ⟨hc_w3, hf_w3⟩ := bcell hb
  have HB_w3 : Hid (Below w.heap.size w w3) := Lib.hid (below_step (by with_reducible (repeat first | exact bR _ _ | assumption | exact ho (by assumption) | refine bD ?_ | refine bN ?_ _ | refine bA ?_ ?_ _ | refine bS ?_ ?_ _) <;> (first | omega | (simp <;> omega))) hb)
  have hs_w3 := hb.size
  try simp only [World.size_alloc, sz_set, sz_drew, sz_drewN] at hs_w3
  have q0_w3 : w.heap.size < w3.heap.size := by omega
  have q1_w3 : w.heap.size + 1 < w3.heap.size := by omega
  have HK_w3 := Lib.hid hb
  clear hb
  obtain ⟨w4, hw4⟩ : ∃ w4, w3.alloc (.cells #[.int .i64 (lv : Int), .bool false, .slice none 0 0] 54) = w4 := ⟨_, rfl⟩
  have hs4 : w4.heap.size = w3.heap.size + 1 := by rw [← hw4]; simp
  have b2 : Blk w4 w3.heap.size 54 #[.int .i64 (lv : Int), .bool false, .slice none 0 0] := by rw [← hw4]; exact Blk.new _ _ _
  have b0' : Blk w4 w.heap.size 25 #[.int .i64 (n : Int), .int .u32 (p.prime : Int), .int .i64 p.power, .slice ca p.chain.length cc, .int .u32 (p.special : Int), .int .i64 p.weight, .int .u32 (p.err : Int)] := by rw [← hw4]; exact b0.alloc _
  have b1' : Blk w4 (w.heap.size + 1) 28 #[.int .i64 0, .int .i64 0, .slice none 0 0] := by rw [← hw4]; exact b1.alloc _
  have HB4w : Hid (Below w.heap.size w w4) := Lib.hid (by rw [← hw4]; exact HB_w3.out.alloc (by omega) _)
  have HSK : Hid (∀ w', Below w4.heap.size w4 w' → w'.cell? ⟨w.heap.size, 0, none⟩ = some (.int .i64 (n : Int)) ∧ w'.cell? ⟨w.heap.size, 1, none⟩ = some (.int .u32 (p.prime : Int)) ∧ w'.cell? ⟨w.heap.size, 2, none⟩ = some (.int .i64 p.power) ∧ w'.cell? ⟨w.heap.size, 3, none⟩ = some (.slice ca p.chain.length cc) ∧ w'.cell? ⟨w.heap.size, 4, none⟩ = some (.int .u32 (p.special : Int)) ∧ w'.cell? ⟨w.heap.size, 5, none⟩ = some (.int .i64 p.weight) ∧ w'.cell? ⟨w.heap.size, 6, none⟩ = some (.int .u32 (p.err : Int)) ∧ w'.cell? ⟨w3.heap.size, 0, none⟩ = some (.int .i64 (lv : Int)) ∧ w'.cell? ⟨w3.heap.size, 1, none⟩ = some (.bool false) ∧ w'.cell? ⟨w3.heap.size, 2, none⟩ = some (.slice none 0 0)) := Lib.hid (fun w' hb => by
    obtain ⟨c0, c1, c2, c3, c4, c5, c6⟩ := par_cells (b0'.below hb)
    obtain ⟨d0, d1, d2⟩ := el_cells (b2.below hb)
    exact ⟨c0, c1, c2, c3, c4, c5, c6, d0, d1, d2⟩)
  have HSK2 : Hid (∀ w7, Below w4.heap.size w4 w7 → ∀ x y z, (fun w' : World => w'.cell? ⟨w.heap.size, 0, none⟩ = some (.int .i64 (n : Int)) ∧ w'.cell? ⟨w.heap.size, 1, none⟩ = some (.int .u32 (p.prime : Int)) ∧ w'.cell? ⟨w.heap.size, 2, none⟩ = some (.int .i64 p.power) ∧ w'.cell? ⟨w.heap.size, 3, none⟩ = some (.slice ca p.chain.length cc) ∧ w'.cell? ⟨w.heap.size, 4, none⟩ = some (.int .u32 (p.special : Int)) ∧ w'.cell? ⟨w.heap.size, 5, none⟩ = some (.int .i64 p.weight) ∧ w'.cell? ⟨w.heap.size, 6, none⟩ = some (.int .u32 (p.err : Int)) ∧ w'.cell? ⟨w3.heap.size, 0, none⟩ = some (.int .i64 (lv : Int)) ∧ w'.cell? ⟨w3.heap.size, 1, none⟩ = some (.bool false) ∧ w'.cell? ⟨w3.heap.size, 2, none⟩ = some (.slice none 0 0)) (((w7.setCell ⟨w.heap.size + 1, 0, none⟩ x).setCell ⟨w.heap.size + 1, 1, none⟩ y).setCell ⟨w.heap.size + 1, 2, none⟩ z)) := Lib.hid (fun w7 hb x y z => by
    obtain ⟨c0, c1, c2, c3, c4, c5, c6⟩ := par_cells (((((b0'.below hb).far (p := ⟨w.heap.size + 1, 0, none⟩) (by (try dsimp only); omega) x)).far (p := ⟨w.heap.size + 1, 1, none⟩) (by (try dsimp only); omega) y).far (p := ⟨w.heap.size + 1, 2, none⟩) (by (try dsimp only); omega) z)
    obtain ⟨d0, d1, d2⟩ := el_cells (((((b2.below hb).far (p := ⟨w.heap.size + 1, 0, none⟩) (by (try dsimp only); omega) x)).far (p := ⟨w.heap.size + 1, 1, none⟩) (by (try dsimp only); omega) y).far (p := ⟨w.heap.size + 1, 2, none⟩) (by (try dsimp only); omega) z)
    exact ⟨c0, c1, c2, c3, c4, c5, c6, d0, d1, d2⟩)
  have HB1 := Lib.hid b1'
  have HW4 := Lib.hid hw4
  clear b0 b1 b0' b1' b2 hw4
  go_wp2
  rw [HW4.out]
  have hS : (fun w' : World => w'.cell? ⟨w.heap.size, 0, none⟩ = some (.int .i64 (n : Int)) ∧ w'.cell? ⟨w.heap.size, 1, none⟩ = some (.int .u32 (p.prime : Int)) ∧ w'.cell? ⟨w.heap.size, 2, none⟩ = some (.int .i64 p.power) ∧ w'.cell? ⟨w.heap.size, 3, none⟩ = some (.slice ca p.chain.length cc) ∧ w'.cell? ⟨w.heap.size, 4, none⟩ = some (.int .u32 (p.special : Int)) ∧ w'.cell? ⟨w.heap.size, 5, none⟩ = some (.int .i64 p.weight) ∧ w'.cell? ⟨w.heap.size, 6, none⟩ = some (.int .u32 (p.err : Int)) ∧ w'.cell? ⟨w3.heap.size, 0, none⟩ = some (.int .i64 (lv : Int)) ∧ w'.cell? ⟨w3.heap.size, 1, none⟩ = some (.bool false) ∧ w'.cell? ⟨w3.heap.size, 2, none⟩ = some (.slice none 0 0)) w4.drew := HSK.out _ (by with_reducible (repeat first | exact bR _ _ | assumption | exact ho (by assumption) | refine bD ?_ | refine bN ?_ _ | refine bA ?_ ?_ _ | refine bS ?_ ?_ _) <;> (first | omega | (simp <;> omega)))
  refine wp_region_L (fun w' => w'.cell? ⟨w.heap.size, 0, none⟩ = some (.int .i64 (n : Int)) ∧ w'.cell? ⟨w.heap.size, 1, none⟩ = some (.int .u32 (p.prime : Int)) ∧ w'.cell? ⟨w.heap.size, 2, none⟩ = some (.int .i64 p.power) ∧ w'.cell? ⟨w.heap.size, 3, none⟩ = some (.slice ca p.chain.length cc) ∧ w'.cell? ⟨w.heap.size, 4, none⟩ = some (.int .u32 (p.special : Int)) ∧ w'.cell? ⟨w.heap.size, 5, none⟩ = some (.int .i64 p.weight) ∧ w'.cell? ⟨w.heap.size, 6, none⟩ = some (.int .u32 (p.err : Int)) ∧ w'.cell? ⟨w3.heap.size, 0, none⟩ = some (.int .i64 (lv : Int)) ∧ w'.cell? ⟨w3.heap.size, 1, none⟩ = some (.bool false) ∧ w'.cell? ⟨w3.heap.size, 2, none⟩ = some (.slice none 0 0)) 16 (by kernel_rfl) (by kernel_rfl) (by kernel_rfl) ?_
  refine tJ 0 (v := ?_) (by assumption) ?_ ?_
  rotate_left
  · (intro w h; (try dsimp only at h); go_simp; try with_reducible rfl)
  try simp only [Act.put, gA, gB, gC, sA, sB, sC]
  refine tJ 1 (v := ?_) (by assumption) ?_ ?_
  rotate_left
  · (intro w h; (try dsimp only at h); go_simp; try with_reducible rfl)
  try simp only [Act.put, gA, gB, gC, sA, sB, sC]
  refine tJ 2 (v := ?_) (by assumption) ?_ ?_
  rotate_left
  · (intro w h; (try dsimp only at h); go_simp; try with_reducible rfl)
  try simp only [Act.put, gA, gB, gC, sA, sB, sC]
  refine tJ 3 (v := ?_) (by assumption) ?_ ?_
  rotate_left
  · (intro w h; (try dsimp only at h); go_simp; try with_reducible rfl)
  try simp only [Act.put, gA, gB, gC, sA, sB, sC]
  refine tJ 4 (v := ?_) (by assumption) ?_ ?_
  rotate_left
  · (intro w h; (try dsimp only at h); go_simp; try with_reducible rfl)
  try simp only [Act.put, gA, gB, gC, sA, sB, sC]
  refine tJ 6 (v := ?_) (by assumption) ?_ ?_
  rotate_left
  · (intro w h; (try dsimp only at h); go_simp; try with_reducible rfl)
  try simp only [Act.put, gA, gB, gC, sA, sB, sC]
  refine tJ 7 (v := ?_) (by assumption) ?_ ?_
  rotate_left
  · (intro w h; (try dsimp only at h); go_simp; try with_reducible rfl)
  try simp only [Act.put, gA, gB, gC, sA, sB, sC]
  refine tJ 8 (v := ?_) (by assumption) ?_ ?_
  rotate_left
  · (intro w h; (try dsimp only at h); go_simp; try with_reducible rfl)
  try simp only [Act.put, gA, gB, gC, sA, sB, sC]
  refine tJ 9 (v := ?_) (by assumption) ?_ ?_
  rotate_left
  · (intro w h; (try dsimp only at h); go_simp; try with_reducible rfl)
  try simp only [Act.put, gA, gB, gC, sA, sB, sC]
  refine wpL.two 5 10 rfl rfl (by kernel_rfl) rfl rfl ?_ ?_ <;> intro K hK
  · go_wp2_with fail
    (with_reducible refine Calls.mono (H3.out _ (by with_reducible (repeat first | exact bR _ _ | assumption | exact ho (by assumption) | refine bD ?_ | refine bN ?_ _ | refine bA ?_ ?_ _ | refine bS ?_ ?_ _) <;> (first | omega | (simp <;> omega)))) ?_)
    rintro e w5 ⟨⟨v5, rfl, at1, ct1, rfl, hO1, ht1, ht2⟩, hb5⟩
    have HO1 := Lib.hid hO1
    have H45 : Hid (Below w4.heap.size w4 w5) := Lib.hid (below_step' (by with_reducible (repeat first | exact bR _ _ | assumption | exact ho (by assumption) | refine bD ?_ | refine bN ?_ _ | refine bA ?_ ?_ _ | refine bS ?_ ?_ _) <;> (first | omega | (simp <;> omega))) hb5)
    have hs5 := hb5.size
    try simp only [World.size_alloc, sz_set, sz_drew, sz_drewN] at hs5
    have HBw5 : Hid (Below w.heap.size w w5) := Lib.hid (HB4w.out.trans (H45.out.mono (by omega)))
    have HK5 := Lib.hid hb5
    clear hO1
    refine hK _ _ (HSK.out _ (by with_reducible (repeat first | exact bR _ _ | assumption | exact ho (by assumption) | refine bD ?_ | refine bN ?_ _ | refine bA ?_ ?_ _ | refine bS ?_ ?_ _) <;> (first | omega | (simp <;> omega)))) (fun hS => ?_)
    clear hK
    try simp only [Act.put, gA, gB, gC, sA, sB, sC]
    refine wpL.eff 10 rfl (by kernel_rfl) rfl ?_
    intro K hK

    go_wp2
    refine hK _ _ (HSK.out _ (by with_reducible (repeat first | exact bR _ _ | assumption | exact ho (by assumption) | refine bD ?_ | refine bN ?_ _ | refine bA ?_ ?_ _ | refine bS ?_ ?_ _) <;> (first | omega | (simp <;> omega)))) (fun hS => ?_)
    clear hK
    try simp only [Act.put, gA, gB, gC, sA, sB, sC]
    refine wpL.eff 11 rfl (by kernel_rfl) rfl ?_
    intro K hK

    go_wp2_with fail
    (with_reducible refine Calls.mono (H4.out _ _ (by with_reducible (repeat first | exact bR _ _ | assumption | exact ho (by assumption) | refine bD ?_ | refine bN ?_ _ | refine bA ?_ ?_ _ | refine bS ?_ ?_ _) <;> (first | omega | (simp <;> omega))) (by repeat (first | exact Blk.newAt (by (first | omega | (simp only [World.size_alloc, sz_set, sz_drew, sz_drewN]; done) | (simp only [World.size_alloc, sz_set, sz_drew, sz_drewN]; omega))) | (with_reducible refine Blk.alloc ?_ _) | (with_reducible refine Blk.drew ?_) | (with_reducible refine Blk.drewN ?_ _) | (with_reducible refine Blk.belowB ?_ (Hid.out (by assumption)) ?szk; case szk => (first | omega | (simp only [World.size_alloc, sz_set, sz_drew, sz_drewN]; done) | (simp only [World.size_alloc, sz_set, sz_drew, sz_drewN]; omega)))))) ?_)
    rintro e w6 ⟨⟨v6, rfl, az, cz, rfl, hO2, hz1, hz2⟩, hb6⟩
    have HO2 := Lib.hid hO2
    have H46 : Hid (Below w4.heap.size w4 w6) := Lib.hid (below_step' (by with_reducible (repeat first | exact bR _ _ | assumption | exact ho (by assumption) | refine bD ?_ | refine bN ?_ _ | refine bA ?_ ?_ _ | refine bS ?_ ?_ _) <;> (first | omega | (simp <;> omega))) hb6)
    have H56 : Hid (Below w5.heap.size w5 w6) := Lib.hid (below_step' (by with_reducible (repeat first | exact bR _ _ | assumption | exact ho (by assumption) | refine bD ?_ | refine bN ?_ _ | refine bA ?_ ?_ _ | refine bS ?_ ?_ _) <;> (first | omega | (simp <;> omega))) hb6)
    have hs6 := hb6.size
    try simp only [World.size_alloc, sz_set, sz_drew, sz_drewN] at hs6
    have HBw6 : Hid (Below w.heap.size w w6) := Lib.hid (HB4w.out.trans (H46.out.mono (by omega)))
    clear hO2 hb6
    refine hK _ _ (HSK.out _ (by with_reducible (repeat first | exact bR _ _ | assumption | exact ho (by assumption) | refine bD ?_ | refine bN ?_ _ | refine bA ?_ ?_ _ | refine bS ?_ ?_ _) <;> (first | omega | (simp <;> omega)))) (fun hS => ?_)
    clear hK
    try simp only [Act.put, gA, gB, gC, sA, sB, sC]
    refine wpL.eff 12 rfl (by kernel_rfl) rfl ?_
    intro K hK
    go_wp2
    refine hK _ _ (HSK.out _ (by with_reducible (repeat first | exact bR _ _ | assumption | exact ho (by assumption) | refine bD ?_ | refine bN ?_ _ | refine bA ?_ ?_ _ | refine bS ?_ ?_ _) <;> (first | omega | (simp <;> omega)))) (fun hS => ?_)
    clear hK
    try simp only [Act.put, gA, gB, gC, sA, sB, sC]
    refine wpL.eff 13 rfl (by kernel_rfl) rfl ?_
    intro K hK
    go_wp2_with fail
    (with_reducible refine Calls.mono (HW.out _ _ _ _ _ _) ?_)
    rintro e w7 ⟨rfl, hb7⟩
    have H67 : Hid (Below w6.heap.size w6 w7) := Lib.hid (below_step' (by with_reducible (repeat first | exact bR _ _ | assumption | exact ho (by assumption) | refine bD ?_ | refine bN ?_ _ | refine bA ?_ ?_ _ | refine bS ?_ ?_ _) <;> (first | omega | (simp <;> omega))) hb7)
    have H47 : Hid (Below w4.heap.size w4 w7) := Lib.hid (H46.out.trans (H67.out.mono (by omega)))
    have hs7 := hb7.size
    try simp only [World.size_alloc, sz_set, sz_drew, sz_drewN] at hs7
    have hB6 : Blk w7 w6.heap.size 54 #[.int .i64 (lv : Int), .bool false, .slice at1 m ct1, .int .i64 (lv : Int), .bool false, .slice az m cz] := Blk.below (by repeat (first | exact Blk.newAt (by (first | omega | (simp only [World.size_alloc, sz_set, sz_drew, sz_drewN]; done) | (simp only [World.size_alloc, sz_set, sz_drew, sz_drewN]; omega))) | (with_reducible refine Blk.alloc ?_ _) | (with_reducible refine Blk.drew ?_) | (with_reducible refine Blk.drewN ?_ _) | (with_reducible refine Blk.belowB ?_ (Hid.out (by assumption)) ?szk; case szk => (first | omega | (simp only [World.size_alloc, sz_set, sz_drew, sz_drewN]; done) | (simp only [World.size_alloc, sz_set, sz_drew, sz_drewN]; omega))))) hb7
    have HB6 := Lib.hid hB6
    have hbo := HB1.out.below H47.out
    obtain ⟨k0, k1, k2⟩ := el_cells hbo
    have f0 := hbo.free 0
    have f1 := hbo.free 1
    have f2 := hbo.free 2
    have HBw7 : Hid (Below w.heap.size w w7) := Lib.hid (HB4w.out.trans (H47.out.mono (by omega)))
    clear hb7 hB6 hbo
    refine hK _ _ (HSK.out _ (by with_reducible (repeat first | exact bR _ _ | assumption | exact ho (by assumption) | refine bD ?_ | refine bN ?_ _ | refine bA ?_ ?_ _ | refine bS ?_ ?_ _) <;> (first | omega | (simp <;> omega)))) (fun hS => ?_)
    clear hK
    try simp only [Act.put, gA, gB, gC, sA, sB, sC]
    refine wpL.eff 14 rfl (by kernel_rfl) rfl ?_
    intro K hK
    go_wp2
    refine hK _ _ (HSK2.out _ H47.out _ _ _) (fun hS => ?_)
    clear hK
    try simp only [Act.put, gA, gB, gC, sA, sB, sC]
    refine tJ 15 (v := ?_) (by assumption) ?_ ?_
    rotate_left
    · (intro w h; (try dsimp only at h); go_simp; try with_reducible rfl)
    try simp only [Act.put, gA, gB, gC, sA, sB, sC]
    refine wpL.done (by kernel_rfl) ?_
    go_wp2
    have hout : w.heap.size + 1 < w7.heap.size := by omega
    have tOut := ((((Turn.refl w7 [w.heap.size + 1]).setCell (p := ⟨w.heap.size + 1, 0, none⟩) (.inl (by simp)) (.int .i64 (lv : Int))).setCell (p := ⟨w.heap.size + 1, 1, none⟩) (.inl (by simp)) (.int .i64 exponent)).setCell (p := ⟨w.heap.size + 1, 2, none⟩) (.inl (by simp)) (.slice (some ⟨w6.heap.size, 0, none⟩) 2 2))
    have hmem : ∀ B, w.heap.size + 2 ≤ B → ∀ x, x ∈ [w.heap.size + 1] → x < B := fun B hB x hx => by simp at hx; omega
    have ht := ((HO1.out.below (H56.out.trans (H67.out.mono (by omega)))).turn tOut (hmem _ (by (try simp only [World.size_alloc, sz_drew, sz_set]); omega))).mono (base' := w.heap.size) (by (try simp only [World.size_alloc, sz_drew, sz_set]); omega)
    have hz := ((HO2.out.below H67.out).turn tOut (hmem _ (by (try simp only [World.size_alloc, sz_drew, sz_set]); omega))).mono (base' := w.heap.size) (by (try simp only [World.size_alloc, sz_drew, sz_set]); omega)
    have h6 := HB6.out.turn tOut (by simp; omega)
    refine bodyPost_ret (v := .tuple #[.agg #[.int .i64 lv, .int .i64 exponent, .slice (some ⟨w6.heap.size, 0, none⟩) 2 2], .int .i64 0]) (by simp [results, Tryz.results68, go_sem, k0, k1, k2]) rfl ⟨⟨_, rfl, w6.heap.size, at1, ct1, az, cz, w5.heap.size, rfl, ?_, by omega, ht, hz, by rw [HTL.out.2.2]; exact ht1, ht2, by rw [HZL.out.2.2]; exact hz1, hz2, by omega, by omega, ?_, fun W hW => ?_⟩, (by with_reducible (repeat first | exact bR _ _ | assumption | exact ho (by assumption) | refine bD ?_ | refine bN ?_ _ | refine bA ?_ ?_ _ | refine bS ?_ ?_ _) <;> (first | omega | (simp <;> omega)))⟩
    · rw [HTL.out.1, HTL.out.2.1, HTL.out.2.2, HZL.out.1, HZL.out.2.1, HZL.out.2.2]; exact h6
    · exact (HO2.out.below H67.out).turn tOut (hmem _ (by (try simp only [World.size_alloc, sz_drew, sz_set]); omega)) |>.mono (by (try simp only [World.size_alloc, sz_drew, sz_set]); omega)
    · exact (HO1.out.kp (Kp.callB (Kp.turn ((Kp.refl _ _ _).callB (H56.out.trans (H67.out.mono (by omega))) (Nat.le_refl _)) tOut (fun x hx => .inl (hmem _ (by (try simp only [World.size_alloc, sz_drew, sz_set]); omega) x hx))) hW (Nat.le_refl _))).mono (by (try simp only [World.size_alloc, sz_drew, sz_set]); omega)
  · go_wp2
    refine hK _ _ (HSK.out _ (by with_reducible (repeat first | exact bR _ _ | assumption | exact ho (by assumption) | refine bD ?_ | refine bN ?_ _ | refine bA ?_ ?_ _ | refine bS ?_ ?_ _) <;> (first | omega | (simp <;> omega)))) (fun hS => ?_)
    clear hK
    try simp only [Act.put, gA, gB, gC, sA, sB, sC]
    refine wpL.eff 5 rfl (by kernel_rfl) rfl ?_
    intro K hK

    go_wp2_with fail
    (with_reducible refine Calls.mono (H3.out _ (by with_reducible (repeat first | exact bR _ _ | assumption | exact ho (by assumption) | refine bD ?_ | refine bN ?_ _ | refine bA ?_ ?_ _ | refine bS ?_ ?_ _) <;> (first | omega | (simp <;> omega)))) ?_)
    rintro e w5 ⟨⟨v5, rfl, at1, ct1, rfl, hO1, ht1, ht2⟩, hb5⟩
    have HO1 := Lib.hid hO1
    have H45 : Hid (Below w4.heap.size w4 w5) := Lib.hid (below_step' (by with_reducible (repeat first | exact bR _ _ | assumption | exact ho (by assumption) | refine bD ?_ | refine bN ?_ _ | refine bA ?_ ?_ _ | refine bS ?_ ?_ _) <;> (first | omega | (simp <;> omega))) hb5)
    have hs5 := hb5.size
    try simp only [World.size_alloc, sz_set, sz_drew, sz_drewN] at hs5
    have HBw5 : Hid (Below w.heap.size w w5) := Lib.hid (HB4w.out.trans (H45.out.mono (by omega)))
    have HK5 := Lib.hid hb5
    clear hO1
    refine hK _ _ (HSK.out _ (by with_reducible (repeat first | exact bR _ _ | assumption | exact ho (by assumption) | refine bD ?_ | refine bN ?_ _ | refine bA ?_ ?_ _ | refine bS ?_ ?_ _) <;> (first | omega | (simp <;> omega)))) (fun hS => ?_)
    clear hK
    try simp only [Act.put, gA, gB, gC, sA, sB, sC]
    refine wpL.eff 11 rfl (by kernel_rfl) rfl ?_
    intro K hK

    go_wp2_with fail
    (with_reducible refine Calls.mono (H4.out _ _ (by with_reducible (repeat first | exact bR _ _ | assumption | exact ho (by assumption) | refine bD ?_ | refine bN ?_ _ | refine bA ?_ ?_ _ | refine bS ?_ ?_ _) <;> (first | omega | (simp <;> omega))) (by repeat (first | exact Blk.newAt (by (first | omega | (simp only [World.size_alloc, sz_set, sz_drew, sz_drewN]; done) | (simp only [World.size_alloc, sz_set, sz_drew, sz_drewN]; omega))) | (with_reducible refine Blk.alloc ?_ _) | (with_reducible refine Blk.drew ?_) | (with_reducible refine Blk.drewN ?_ _) | (with_reducible refine Blk.belowB ?_ (Hid.out (by assumption)) ?szk; case szk => (first | omega | (simp only [World.size_alloc, sz_set, sz_drew, sz_drewN]; done) | (simp only [World.size_alloc, sz_set, sz_drew, sz_drewN]; omega)))))) ?_)
    rintro e w6 ⟨⟨v6, rfl, az, cz, rfl, hO2, hz1, hz2⟩, hb6⟩
    have HO2 := Lib.hid hO2
    have H46 : Hid (Below w4.heap.size w4 w6) := Lib.hid (below_step' (by with_reducible (repeat first | exact bR _ _ | assumption | exact ho (by assumption) | refine bD ?_ | refine bN ?_ _ | refine bA ?_ ?_ _ | refine bS ?_ ?_ _) <;> (first | omega | (simp <;> omega))) hb6)
    have H56 : Hid (Below w5.heap.size w5 w6) := Lib.hid (below_step' (by with_reducible (repeat first | exact bR _ _ | assumption | exact ho (by assumption) | refine bD ?_ | refine bN ?_ _ | refine bA ?_ ?_ _ | refine bS ?_ ?_ _) <;> (first | omega | (simp <;> omega))) hb6)
    have hs6 := hb6.size
    try simp only [World.size_alloc, sz_set, sz_drew, sz_drewN] at hs6
    have HBw6 : Hid (Below w.heap.size w w6) := Lib.hid (HB4w.out.trans (H46.out.mono (by omega)))
    clear hO2 hb6
    refine hK _ _ (HSK.out _ (by with_reducible (repeat first | exact bR _ _ | assumption | exact ho (by assumption) | refine bD ?_ | refine bN ?_ _ | refine bA ?_ ?_ _ | refine bS ?_ ?_ _) <;> (first | omega | (simp <;> omega)))) (fun hS => ?_)
    clear hK
    try simp only [Act.put, gA, gB, gC, sA, sB, sC]
    refine wpL.eff 12 rfl (by kernel_rfl) rfl ?_
    intro K hK
    go_wp2
    refine hK _ _ (HSK.out _ (by with_reducible (repeat first | exact bR _ _ | assumption | exact ho (by assumption) | refine bD ?_ | refine bN ?_ _ | refine bA ?_ ?_ _ | refine bS ?_ ?_ _) <;> (first | omega | (simp <;> omega)))) (fun hS => ?_)
    clear hK
    try simp only [Act.put, gA, gB, gC, sA, sB, sC]
    refine wpL.eff 13 rfl (by kernel_rfl) rfl ?_
    intro K hK
    go_wp2_with fail
    (with_reducible refine Calls.mono (HW.out _ _ _ _ _ _) ?_)
    rintro e w7 ⟨rfl, hb7⟩
    have H67 : Hid (Below w6.heap.size w6 w7) := Lib.hid (below_step' (by with_reducible (repeat first | exact bR _ _ | assumption | exact ho (by assumption) | refine bD ?_ | refine bN ?_ _ | refine bA ?_ ?_ _ | refine bS ?_ ?_ _) <;> (first | omega | (simp <;> omega))) hb7)
    have H47 : Hid (Below w4.heap.size w4 w7) := Lib.hid (H46.out.trans (H67.out.mono (by omega)))
    have hs7 := hb7.size
    try simp only [World.size_alloc, sz_set, sz_drew, sz_drewN] at hs7
    have hB6 : Blk w7 w6.heap.size 54 #[.int .i64 (lv : Int), .bool false, .slice at1 m ct1, .int .i64 (lv : Int), .bool false, .slice az m cz] := Blk.below (by repeat (first | exact Blk.newAt (by (first | omega | (simp only [World.size_alloc, sz_set, sz_drew, sz_drewN]; done) | (simp only [World.size_alloc, sz_set, sz_drew, sz_drewN]; omega))) | (with_reducible refine Blk.alloc ?_ _) | (with_reducible refine Blk.drew ?_) | (with_reducible refine Blk.drewN ?_ _) | (with_reducible refine Blk.belowB ?_ (Hid.out (by assumption)) ?szk; case szk => (first | omega | (simp only [World.size_alloc, sz_set, sz_drew, sz_drewN]; done) | (simp only [World.size_alloc, sz_set, sz_drew, sz_drewN]; omega))))) hb7
    have HB6 := Lib.hid hB6
    have hbo := HB1.out.below H47.out
    obtain ⟨k0, k1, k2⟩ := el_cells hbo
    have f0 := hbo.free 0
    have f1 := hbo.free 1
    have f2 := hbo.free 2
    have HBw7 : Hid (Below w.heap.size w w7) := Lib.hid (HB4w.out.trans (H47.out.mono (by omega)))
    clear hb7 hB6 hbo
    refine hK _ _ (HSK.out _ (by with_reducible (repeat first | exact bR _ _ | assumption | exact ho (by assumption) | refine bD ?_ | refine bN ?_ _ | refine bA ?_ ?_ _ | refine bS ?_ ?_ _) <;> (first | omega | (simp <;> omega)))) (fun hS => ?_)
    clear hK
    try simp only [Act.put, gA, gB, gC, sA, sB, sC]
    refine wpL.eff 14 rfl (by kernel_rfl) rfl ?_
    intro K hK
    go_wp2
    refine hK _ _ (HSK2.out _ H47.out _ _ _) (fun hS => ?_)
    clear hK
    try simp only [Act.put, gA, gB, gC, sA, sB, sC]
    refine tJ 15 (v := ?_) (by assumption) ?_ ?_
    rotate_left
    · (intro w h; (try dsimp only at h); go_simp; try with_reducible rfl)
    try simp only [Act.put, gA, gB, gC, sA, sB, sC]
    refine wpL.done (by kernel_rfl) ?_
    go_wp2
    have hout : w.heap.size + 1 < w7.heap.size := by omega
    have tOut := ((((Turn.refl w7 [w.heap.size + 1]).setCell (p := ⟨w.heap.size + 1, 0, none⟩) (.inl (by simp)) (.int .i64 (lv : Int))).setCell (p := ⟨w.heap.size + 1, 1, none⟩) (.inl (by simp)) (.int .i64 exponent)).setCell (p := ⟨w.heap.size + 1, 2, none⟩) (.inl (by simp)) (.slice (some ⟨w6.heap.size, 0, none⟩) 2 2))
    have hmem : ∀ B, w.heap.size + 2 ≤ B → ∀ x, x ∈ [w.heap.size + 1] → x < B := fun B hB x hx => by simp at hx; omega
    have ht := ((HO1.out.below (H56.out.trans (H67.out.mono (by omega)))).turn tOut (hmem _ (by (try simp only [World.size_alloc, sz_drew, sz_set]); omega))).mono (base' := w.heap.size) (by (try simp only [World.size_alloc, sz_drew, sz_set]); omega)
    have hz := ((HO2.out.below H67.out).turn tOut (hmem _ (by (try simp only [World.size_alloc, sz_drew, sz_set]); omega))).mono (base' := w.heap.size) (by (try simp only [World.size_alloc, sz_drew, sz_set]); omega)
    have h6 := HB6.out.turn tOut (by simp; omega)
    refine bodyPost_ret (v := .tuple #[.agg #[.int .i64 lv, .int .i64 exponent, .slice (some ⟨w6.heap.size, 0, none⟩) 2 2], .int .i64 0]) (by simp [results, Tryz.results68, go_sem, k0, k1, k2]) rfl ⟨⟨_, rfl, w6.heap.size, at1, ct1, az, cz, w5.heap.size, rfl, ?_, by omega, ht, hz, by rw [HTL.out.2.2]; exact ht1, ht2, by rw [HZL.out.2.2]; exact hz1, hz2, by omega, by omega, ?_, fun W hW => ?_⟩, (by with_reducible (repeat first | exact bR _ _ | assumption | exact ho (by assumption) | refine bD ?_ | refine bN ?_ _ | refine bA ?_ ?_ _ | refine bS ?_ ?_ _) <;> (first | omega | (simp <;> omega)))⟩
    · rw [HTL.out.1, HTL.out.2.1, HTL.out.2.2, HZL.out.1, HZL.out.2.1, HZL.out.2.2]; exact h6
    · exact (HO2.out.below H67.out).turn tOut (hmem _ (by (try simp only [World.size_alloc, sz_drew, sz_set]); omega)) |>.mono (by (try simp only [World.size_alloc, sz_drew, sz_set]); omega)
    · exact (HO1.out.kp (Kp.callB (Kp.turn ((Kp.refl _ _ _).callB (H56.out.trans (H67.out.mono (by omega))) (Nat.le_refl _)) tOut (fun x hx => .inl (hmem _ (by (try simp only [World.size_alloc, sz_drew, sz_set]); omega) x hx))) hW (Nat.le_refl _))).mono (by (try simp only [World.size_alloc, sz_drew, sz_set]); omega)
theorem r14Trivial_yes (p : Par) (ca : Option Addr) (cc : Nat) (l : List Int) (al : Option Addr) (cl : Nat) (level exponent : Int) (w : World) (hin : ParIn w p ca cc) (hl : l.length ≤ 9223372036854775807) (hrd : RdI w al l) (hlv : ∀ j, j < l.length → -9223372036854775808 ≤ l.getD j 0 ∧ l.getD j 0 ≤ 9223372036854775807) (hok : TrivOk p l level exponent) :
    Calls Tryz.prog 68 #[.agg (p.cells ca cc), .slice al l.length cl, .int .i64 level, .int .i64 exponent] w fun e w' => (∃ v, e = .returned (.tuple #[v, .int .i64 0]) ∧ GiveCi w.heap.size (trivCi p l level exponent) v w') ∧ Below w.heap.size w w' :=
  (r14Trivial_two p ca cc l al cl level exponent w hin hl hrd hlv hok).mono (fun e w' ⟨⟨v, h1, g, aa, cA, ab, cB, mid, h2, h3, h4, h5, h6, h7, h8, h9, h10, _⟩, hb⟩ => ⟨⟨v, h1, some ⟨g, 0, none⟩, 2, h2, rdEN_two h3 h4 h5 h6 h7 h8 h9 h10, Nat.le_refl _, by omega⟩, hb⟩)
end Go.Proofs.YtcipjbckcnkfaaaGreat
