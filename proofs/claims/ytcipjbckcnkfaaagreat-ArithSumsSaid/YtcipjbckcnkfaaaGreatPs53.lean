/- ArithSums, walked. (Printed by genlaw.py.) -/
import Derived.Test.YtcipjbckcnkfaaaGreatPs51
import Derived.Test.YtcipjbckcnkfaaaGreatPs52
set_option linter.unusedSimpArgs false
set_option linter.unusedVariables false
namespace Go.Proofs.YtcipjbckcnkfaaaGreat
open Go.RowKit Go.Shelf
attribute [local go_sem ↓] Go.wp_at_zero Go.wp_at_succ
theorem RdE.below' {w w' : World} {ao : Option Addr} {l : List El} (h : RdE w ao l) (hb : Below w.heap.size w w') : RdE w' ao l := h.below hb

set_option maxHeartbeats 25600000 in
set_option maxRecDepth 100000 in
theorem lawSums (p : Par) (ca : Option Addr) (cc : Nat) (A B : Ci) (aa ab : Option Addr) (cA cB : Nat) (w : World) (hin : ParIn w p ca cc) (hA : CiIn w A aa cA) (hB : CiIn w B ab cB) :
    Calls Tryz.prog 4 #[.agg (p.cells ca cc), A.val aa cA, B.val ab cB] w fun e w' => e = .returned (.bool true) ∧ Below w.heap.size w w' := by
  have HAW := Lib.hid (fun (w' : World) => awake16_walk w')
  have HLA := Lib.hid (fun (w' : World) (hb : Below w.heap.size w w') => large14_walk A aa cA w' (hA.below hb))
  have HLB := Lib.hid (fun (w' : World) (hb : Below w.heap.size w w') => large14_walk B ab cB w' (hB.below hb))
  by_cases hsa : SmallCi A
  case neg =>
    rw [tr_pos hsa] at HLA
    unfold Ci.val Par.cells at *
    clear hin hA hB hsa HLB
    go_enter Tryz.func4, Tryz.ntmps4
    go_wp2_with fail
    (with_reducible refine Calls.mono (HLA.out _ (by with_reducible (repeat first | exact bR _ _ | assumption | exact ho (by assumption) | refine bD ?_ | refine bA ?_ ?_ _ | refine bS ?_ ?_ _ | refine bC ?_ (ho (by assumption)) ?_) <;> (first | omega | (simp <;> omega)))) ?_)
    rintro e w2 ⟨rfl, hb⟩
    obtain ⟨hc_w2, hf_w2⟩ := bcell hb
    have HB_w2 : Hid (Below w.heap.size w w2) := Lib.hid (below_step (by with_reducible (repeat first | exact bR _ _ | assumption | exact ho (by assumption) | refine bD ?_ | refine bN ?_ _ | refine bA ?_ ?_ _ | refine bS ?_ ?_ _) <;> (first | omega | (simp <;> omega))) hb)
    have hs_w2 := hb.size
    try simp only [World.size_alloc, sz_set, sz_drew, sz_drewN] at hs_w2
    have HK_w2 := Lib.hid hb
    have HC_w2 := Lib.hid (callTo hb)
    clear hb
    go_wp2_with fail
    (with_reducible refine Calls.mono (HAW.out _) ?_)
    rintro e w3 ⟨rfl, hb⟩
    obtain ⟨hc_w3, hf_w3⟩ := bcell hb
    have HB_w3 : Hid (Below w.heap.size w w3) := Lib.hid (below_step (by with_reducible (repeat first | exact bR _ _ | assumption | exact ho (by assumption) | refine bD ?_ | refine bN ?_ _ | refine bA ?_ ?_ _ | refine bS ?_ ?_ _) <;> (first | omega | (simp <;> omega))) hb)
    have hs_w3 := hb.size
    try simp only [World.size_alloc, sz_set, sz_drew, sz_drewN] at hs_w3
    have HK_w3 := Lib.hid hb
    have HC_w3 := Lib.hid (callTo hb)
    clear hb
    go_wp2
    go_ret
    exact ⟨rfl, (by with_reducible (repeat first | exact bR _ _ | assumption | exact ho (by assumption) | refine bD ?_ | refine bA ?_ ?_ _ | refine bS ?_ ?_ _ | refine bC ?_ (ho (by assumption)) ?_) <;> (first | omega | (simp <;> omega)))⟩
  by_cases hsb : SmallCi B
  case neg =>
    rw [tr_neg (fun h => h hsa)] at HLA
    rw [tr_pos hsb] at HLB
    unfold Ci.val Par.cells at *
    clear hin hA hB hsa hsb
    go_enter Tryz.func4, Tryz.ntmps4
    go_wp2_with fail
    (with_reducible refine Calls.mono (HLA.out _ (by with_reducible (repeat first | exact bR _ _ | assumption | exact ho (by assumption) | refine bD ?_ | refine bA ?_ ?_ _ | refine bS ?_ ?_ _ | refine bC ?_ (ho (by assumption)) ?_) <;> (first | omega | (simp <;> omega)))) ?_)
    rintro e w2 ⟨rfl, hb⟩
    obtain ⟨hc_w2, hf_w2⟩ := bcell hb
    have HB_w2 : Hid (Below w.heap.size w w2) := Lib.hid (below_step (by with_reducible (repeat first | exact bR _ _ | assumption | exact ho (by assumption) | refine bD ?_ | refine bN ?_ _ | refine bA ?_ ?_ _ | refine bS ?_ ?_ _) <;> (first | omega | (simp <;> omega))) hb)
    have hs_w2 := hb.size
    try simp only [World.size_alloc, sz_set, sz_drew, sz_drewN] at hs_w2
    have q0_w2 : w.heap.size < w2.heap.size := by omega
    have q1_w2 : w.heap.size + 1 < w2.heap.size := by omega
    have q2_w2 : w.heap.size + 1 + 1 < w2.heap.size := by omega
    have HK_w2 := Lib.hid hb
    have HC_w2 := Lib.hid (callTo hb)
    clear hb
    go_wp2_with fail
    (with_reducible refine Calls.mono (HLB.out _ (by with_reducible (repeat first | exact bR _ _ | assumption | exact ho (by assumption) | refine bD ?_ | refine bA ?_ ?_ _ | refine bS ?_ ?_ _ | refine bC ?_ (ho (by assumption)) ?_) <;> (first | omega | (simp <;> omega)))) ?_)
    rintro e w3 ⟨rfl, hb⟩
    obtain ⟨hc_w3, hf_w3⟩ := bcell hb
    have HB_w3 : Hid (Below w.heap.size w w3) := Lib.hid (below_step (by with_reducible (repeat first | exact bR _ _ | assumption | exact ho (by assumption) | refine bD ?_ | refine bN ?_ _ | refine bA ?_ ?_ _ | refine bS ?_ ?_ _) <;> (first | omega | (simp <;> omega))) hb)
    have hs_w3 := hb.size
    try simp only [World.size_alloc, sz_set, sz_drew, sz_drewN] at hs_w3
    have HK_w3 := Lib.hid hb
    have HC_w3 := Lib.hid (callTo hb)
    clear hb
    go_wp2_with fail
    (with_reducible refine Calls.mono (HAW.out _) ?_)
    rintro e w4 ⟨rfl, hb⟩
    obtain ⟨hc_w4, hf_w4⟩ := bcell hb
    have HB_w4 : Hid (Below w.heap.size w w4) := Lib.hid (below_step (by with_reducible (repeat first | exact bR _ _ | assumption | exact ho (by assumption) | refine bD ?_ | refine bN ?_ _ | refine bA ?_ ?_ _ | refine bS ?_ ?_ _) <;> (first | omega | (simp <;> omega))) hb)
    have hs_w4 := hb.size
    try simp only [World.size_alloc, sz_set, sz_drew, sz_drewN] at hs_w4
    have HK_w4 := Lib.hid hb
    have HC_w4 := Lib.hid (callTo hb)
    clear hb
    go_wp2
    go_ret
    exact ⟨rfl, (by with_reducible (repeat first | exact bR _ _ | assumption | exact ho (by assumption) | refine bD ?_ | refine bA ?_ ?_ _ | refine bS ?_ ?_ _ | refine bC ?_ (ho (by assumption)) ?_) <;> (first | omega | (simp <;> omega)))⟩
  rw [tr_neg (fun h => h hsa)] at HLA
  rw [tr_neg (fun h => h hsb)] at HLB
  have HLD : Hid (∀ w', Below w.heap.size w w' → Calls Tryz.prog 9 #[A.val aa cA] w' fun e w2 => (∃ ao c, e = .returned (A.val ao c) ∧ RdEN w2 w'.heap.size ao A.parts ∧ A.parts.length ≤ c ∧ c ≤ 9223372036854775807) ∧ Below w'.heap.size w' w2) := Lib.hid (fun w' hb => (lend16_walk A aa cA w' (by have := hsa.1; omega) (fun i hi => ⟨by have := (hsa.2 i hi).1; omega, fun j hj => by have := (hsa.2 i hi).2 j hj; omega⟩) (hA.rd.below hb)).mono (fun e w2 ⟨⟨v, h1, ao, c, h2, h3⟩, h4⟩ => ⟨⟨ao, c, by rw [h1, h2], h3⟩, h4⟩))
  have HLE : Hid (∀ w', Below w.heap.size w w' → Calls Tryz.prog 9 #[B.val ab cB] w' fun e w2 => (∃ ao c, e = .returned (B.val ao c) ∧ RdEN w2 w'.heap.size ao B.parts ∧ B.parts.length ≤ c ∧ c ≤ 9223372036854775807) ∧ Below w'.heap.size w' w2) := Lib.hid (fun w' hb => (lend16_walk B ab cB w' (by have := hsb.1; omega) (fun i hi => ⟨by have := (hsb.2 i hi).1; omega, fun j hj => by have := (hsb.2 i hi).2 j hj; omega⟩) (hB.rd.below hb)).mono (fun e w2 ⟨⟨v, h1, ao, c, h2, h3⟩, h4⟩ => ⟨⟨ao, c, by rw [h1, h2], h3⟩, h4⟩))
  have HSA := Lib.hid (fun (w' : World) (a1 a2 : Option Addr) (c1 c2 : Nat) (h1 : RdE w' a1 A.parts) (h2 : RdE w' a2 A.parts) => r14Same_walk A a1 a2 c1 c2 w' hA.big.1 hA.big.2 h1 h2)
  have HSB := Lib.hid (fun (w' : World) (a1 a2 : Option Addr) (c1 c2 : Nat) (h1 : RdE w' a1 B.parts) (h2 : RdE w' a2 B.parts) => r14Same_walk B a1 a2 c1 c2 w' hB.big.1 hB.big.2 h1 h2)
  have HRA := Lib.hid hA.rd
  have HRB := Lib.hid hB.rd
  obtain ⟨C0, er0, hbg0, hp0, hr0⟩ := add_both p ca cc A B aa ab cA cB w hin hA hB
  have HPR0 : Hid (∀ (w' : World) (ax ay : Option Addr) (cx cy : Nat), Below w.heap.size w w' → RdE w' ax A.parts → A.parts.length ≤ cx → cx ≤ 9223372036854775807 → RdE w' ay B.parts → B.parts.length ≤ cy → cy ≤ 9223372036854775807 →
      Calls Tryz.prog 13 #[.agg (p.cells ca cc), A.val ax cx, B.val ay cy] w' fun e w2 => (∃ a7 c7, e = .returned (.tuple #[.agg #[.int .i64 C0.level, .int .i64 C0.exponent, .slice a7 C0.parts.length c7], .int .i64 er0]) ∧ RdEN w2 w'.heap.size a7 C0.parts ∧ (C0.parts.length ≤ c7 ∧ c7 ≤ 9223372036854775807) ∧ ∀ W, Kp elT w'.heap.size w2 W → Calls Tryz.prog 15 #[.agg #[.int .i64 C0.level, .int .i64 C0.exponent, .slice a7 C0.parts.length c7]] W fun e w3 => e = .returned (.tuple #[]) ∧ Spd w'.heap.size W w3) ∧ Below w'.heap.size w' w2) := Lib.hid (fun w' ax ay cx cy hb h1 h2 h3 h4 h5 h6 => (hp0 w' ax ay cx cy hb h1 h2 h3 h4 h5 h6).mono (fun e w2 ⟨hO, hb2⟩ => by
      obtain ⟨a7, c7, he, hr, hl⟩ := hO.1
      exact ⟨⟨a7, c7, he, hr, hl, hO.spoil he hb2.size⟩, hb2⟩))
  have HRF0 := Lib.hid hr0
  have HSC0 := Lib.hid (fun (w' : World) (a1 a2 : Option Addr) (c1 c2 : Nat) (h1 : RdE w' a1 C0.parts) (h2 : RdE w' a2 C0.parts) => r14Same_walk C0 a1 a2 c1 c2 w' hbg0.1 hbg0.2 h1 h2)
  clear hp0 hr0 hbg0
  obtain ⟨C1, er1, hbg1, hp1, hr1⟩ := sub_both p ca cc A B aa ab cA cB w hin hA hB
  have HPR1 : Hid (∀ (w' : World) (ax ay : Option Addr) (cx cy : Nat), Below w.heap.size w w' → RdE w' ax A.parts → A.parts.length ≤ cx → cx ≤ 9223372036854775807 → RdE w' ay B.parts → B.parts.length ≤ cy → cy ≤ 9223372036854775807 →
      Calls Tryz.prog 16 #[.agg (p.cells ca cc), A.val ax cx, B.val ay cy] w' fun e w2 => (∃ a7 c7, e = .returned (.tuple #[.agg #[.int .i64 C1.level, .int .i64 C1.exponent, .slice a7 C1.parts.length c7], .int .i64 er1]) ∧ RdEN w2 w'.heap.size a7 C1.parts ∧ (C1.parts.length ≤ c7 ∧ c7 ≤ 9223372036854775807) ∧ ∀ W, Kp elT w'.heap.size w2 W → Calls Tryz.prog 15 #[.agg #[.int .i64 C1.level, .int .i64 C1.exponent, .slice a7 C1.parts.length c7]] W fun e w3 => e = .returned (.tuple #[]) ∧ Spd w'.heap.size W w3) ∧ Below w'.heap.size w' w2) := Lib.hid (fun w' ax ay cx cy hb h1 h2 h3 h4 h5 h6 => (hp1 w' ax ay cx cy hb h1 h2 h3 h4 h5 h6).mono (fun e w2 ⟨hO, hb2⟩ => by
      obtain ⟨a7, c7, he, hr, hl⟩ := hO.1
      exact ⟨⟨a7, c7, he, hr, hl, hO.spoil he hb2.size⟩, hb2⟩))
  have HRF1 := Lib.hid hr1
  have HSC1 := Lib.hid (fun (w' : World) (a1 a2 : Option Addr) (c1 c2 : Nat) (h1 : RdE w' a1 C1.parts) (h2 : RdE w' a2 C1.parts) => r14Same_walk C1 a1 a2 c1 c2 w' hbg1.1 hbg1.2 h1 h2)
  clear hp1 hr1 hbg1
  unfold CiRes at *
  unfold Ci.val Par.cells at *
  clear hin hA hB hsa hsb
  obtain ⟨AL, h1⟩ : ∃ x, A.level = x := ⟨_, rfl⟩
  obtain ⟨AX, h2⟩ : ∃ x, A.exponent = x := ⟨_, rfl⟩
  obtain ⟨la, h3⟩ : ∃ x, A.parts.length = x := ⟨_, rfl⟩
  rw [h1, h2, h3] at HLA HLD HSA HPR0 HPR1 HRF0 HRF1 ⊢
  clear h1 h2 h3
  obtain ⟨PA, h1⟩ : ∃ x, A.parts = x := ⟨_, rfl⟩
  rw [h1] at HLD HSA HRA HPR0 HPR1
  clear h1
  obtain ⟨BL, h1⟩ : ∃ x, B.level = x := ⟨_, rfl⟩
  obtain ⟨BX, h2⟩ : ∃ x, B.exponent = x := ⟨_, rfl⟩
  obtain ⟨lb, h3⟩ : ∃ x, B.parts.length = x := ⟨_, rfl⟩
  rw [h1, h2, h3] at HLB HLE HSB HPR0 HPR1 HRF0 HRF1 ⊢
  clear h1 h2 h3
  obtain ⟨PB, h1⟩ : ∃ x, B.parts = x := ⟨_, rfl⟩
  rw [h1] at HLE HSB HRB HPR0 HPR1
  clear h1
  obtain ⟨CL0, h1⟩ : ∃ x, C0.level = x := ⟨_, rfl⟩
  obtain ⟨CX0, h2⟩ : ∃ x, C0.exponent = x := ⟨_, rfl⟩
  obtain ⟨cl0, h3⟩ : ∃ x, C0.parts.length = x := ⟨_, rfl⟩
  rw [h1, h2, h3] at HPR0 HRF0 HSC0
  clear h1 h2 h3
  obtain ⟨CL1, h1⟩ : ∃ x, C1.level = x := ⟨_, rfl⟩
  obtain ⟨CX1, h2⟩ : ∃ x, C1.exponent = x := ⟨_, rfl⟩
  obtain ⟨cl1, h3⟩ : ∃ x, C1.parts.length = x := ⟨_, rfl⟩
  rw [h1, h2, h3] at HPR1 HRF1 HSC1
  clear h1 h2 h3
  obtain ⟨P1, h1⟩ : ∃ x, C1.parts = x := ⟨_, rfl⟩
  rw [h1] at HPR1 HRF1 HSC1
  clear h1
  go_enter Tryz.func4, Tryz.ntmps4
  go_wp2_with fail
  (with_reducible refine Calls.mono (HLA.out _ (by with_reducible (repeat first | exact bR _ _ | assumption | exact ho (by assumption) | refine bD ?_ | refine bA ?_ ?_ _ | refine bS ?_ ?_ _ | refine bC ?_ (ho (by assumption)) ?_) <;> (first | omega | (simp <;> omega)))) ?_)
  rintro e w2 ⟨rfl, hb⟩
  obtain ⟨hc_w2, hf_w2⟩ := bcell hb
  have HB_w2 : Hid (Below w.heap.size w w2) := Lib.hid (below_step (by with_reducible (repeat first | exact bR _ _ | assumption | exact ho (by assumption) | refine bD ?_ | refine bN ?_ _ | refine bA ?_ ?_ _ | refine bS ?_ ?_ _) <;> (first | omega | (simp <;> omega))) hb)
  have hs_w2 := hb.size
  try simp only [World.size_alloc, sz_set, sz_drew, sz_drewN] at hs_w2
  have q0_w2 : w.heap.size < w2.heap.size := by omega
  have q1_w2 : w.heap.size + 1 < w2.heap.size := by omega
  have q2_w2 : w.heap.size + 1 + 1 < w2.heap.size := by omega
  have HK_w2 := Lib.hid hb
  have HC_w2 := Lib.hid (callTo hb)
  clear hb
  go_wp2_with fail
  (with_reducible refine Calls.mono (HLB.out _ (by with_reducible (repeat first | exact bR _ _ | assumption | exact ho (by assumption) | refine bD ?_ | refine bA ?_ ?_ _ | refine bS ?_ ?_ _ | refine bC ?_ (ho (by assumption)) ?_) <;> (first | omega | (simp <;> omega)))) ?_)
  rintro e w3 ⟨rfl, hb⟩
  obtain ⟨hc_w3, hf_w3⟩ := bcell hb
  have HB_w3 : Hid (Below w.heap.size w w3) := Lib.hid (below_step (by with_reducible (repeat first | exact bR _ _ | assumption | exact ho (by assumption) | refine bD ?_ | refine bN ?_ _ | refine bA ?_ ?_ _ | refine bS ?_ ?_ _) <;> (first | omega | (simp <;> omega))) hb)
  have hs_w3 := hb.size
  try simp only [World.size_alloc, sz_set, sz_drew, sz_drewN] at hs_w3
  have q0_w3 : w.heap.size < w3.heap.size := by omega
  have q1_w3 : w.heap.size + 1 < w3.heap.size := by omega
  have q2_w3 : w.heap.size + 1 + 1 < w3.heap.size := by omega
  have HK_w3 := Lib.hid hb
  have HC_w3 := Lib.hid (callTo hb)
  clear hb
  go_upto_region 3 with fail
  refine gen_w _ _ (fun W0 hW0 => ?_)
  have HB_W0 : Hid (Below w.heap.size w W0) := Lib.hid (by rw [hW0]; exact (by with_reducible (repeat first | exact bR _ _ | assumption | exact ho (by assumption) | refine bD ?_ | refine bA ?_ ?_ _ | refine bS ?_ ?_ _ | refine bC ?_ (ho (by assumption)) ?_) <;> (first | omega | (simp <;> omega))))
  have K0 : Hid (Blk W0 w.heap.size 25 #[.int .i64 p.n, .int .u32 (p.prime : Int), .int .i64 p.power, .slice ca p.chain.length cc, .int .u32 (p.special : Int), .int .i64 p.weight, .int .u32 (p.err : Int)]) := Lib.hid (by rw [hW0]; exact (by with_reducible (repeat first | assumption | exact ho (by assumption) | (refine Blk.newAt ?z; case z => first | rfl | (first | omega | (simp <;> omega))) | apply Blk.three | apply Blk.seven | apply Blk.nine | (refine Blk.far ?_ ?z _; case z => ((try dsimp only); (first | omega | (simp <;> omega)))) | refine Blk.alloc ?_ _ | refine Blk.drew ?_ | refine Blk.turnTo ?_ (ho (by assumption)) ?_ | refine Blk.belowB ?_ (ho (by assumption)) ?_) <;> (first | omega | (simp <;> omega))))
  have K1 : Hid (Blk W0 (w.heap.size + 1) 28 #[.int .i64 AL, .int .i64 AX, .slice aa la cA]) := Lib.hid (by rw [hW0]; exact (by with_reducible (repeat first | assumption | exact ho (by assumption) | (refine Blk.newAt ?z; case z => first | rfl | (first | omega | (simp <;> omega))) | apply Blk.three | apply Blk.seven | apply Blk.nine | (refine Blk.far ?_ ?z _; case z => ((try dsimp only); (first | omega | (simp <;> omega)))) | refine Blk.alloc ?_ _ | refine Blk.drew ?_ | refine Blk.turnTo ?_ (ho (by assumption)) ?_ | refine Blk.belowB ?_ (ho (by assumption)) ?_) <;> (first | omega | (simp <;> omega))))
  have K2 : Hid (Blk W0 (w.heap.size + 1 + 1) 28 #[.int .i64 BL, .int .i64 BX, .slice ab lb cB]) := Lib.hid (by rw [hW0]; exact (by with_reducible (repeat first | assumption | exact ho (by assumption) | (refine Blk.newAt ?z; case z => first | rfl | (first | omega | (simp <;> omega))) | apply Blk.three | apply Blk.seven | apply Blk.nine | (refine Blk.far ?_ ?z _; case z => ((try dsimp only); (first | omega | (simp <;> omega)))) | refine Blk.alloc ?_ _ | refine Blk.drew ?_ | refine Blk.turnTo ?_ (ho (by assumption)) ?_ | refine Blk.belowB ?_ (ho (by assumption)) ?_) <;> (first | omega | (simp <;> omega))))
  have z2 : w.heap.size + 1 + 1 < W0.heap.size := K2.out.lt
  have z1 : w.heap.size + 1 < W0.heap.size := by omega
  have z0 : w.heap.size < W0.heap.size := by omega
  clear hW0 HB_w2 HK_w2 HC_w2 hc_w2 hf_w2 hs_w2 q0_w2 q1_w2 q2_w2 HB_w3 HK_w3 HC_w3 hc_w3 hf_w3 hs_w3 q0_w3 q1_w3 q2_w3 HLA HLB
  obtain ⟨a0, a1, a2⟩ := el_cells K1.out
  obtain ⟨b0, b1, b2⟩ := el_cells K2.out
  go_cut [7, 8] (fun v7 v8 wx => ∃ bx bz ax cx az cz, v7 = .pointer (some ⟨bx, 0, none⟩) ∧ v8 = .pointer (some ⟨bz, 0, none⟩) ∧ Hid (Blk wx bx 28 #[.int .i64 AL, .int .i64 AX, .slice ax la cx]) ∧ Hid (Blk wx bz 28 #[.int .i64 BL, .int .i64 BX, .slice az lb cz]) ∧ Hid (RdE wx ax PA ∧ la ≤ cx ∧ cx ≤ 9223372036854775807) ∧ Hid (RdE wx az PB ∧ lb ≤ cz ∧ cz ≤ 9223372036854775807) ∧ Hid (Below W0.heap.size W0 wx))
  case first =>
    have hS : (fun w' : World => Below W0.heap.size W0 w') W0.drew := (Below.refl _ _).drew
    refine wp_region_L (fun w' : World => Below W0.heap.size W0 w') 7 (by kernel_rfl) (by kernel_rfl) (by kernel_rfl) ?_
    refine tK 0 (v := ?_) (by assumption) ?_ ?_
    rotate_left
    · (intro _ _; go_simp; try with_reducible rfl)
    try simp only [Act.put, gA, gB, gC, sA, sB, sC]
    refine tK 2 (v := ?_) (by assumption) ?_ ?_
    rotate_left
    · (intro _ _; go_simp; try with_reducible rfl)
    try simp only [Act.put, gA, gB, gC, sA, sB, sC]
    refine wpL.three 1 4 5 rfl rfl rfl (by kernel_rfl) rfl rfl rfl ?_ ?_ ?_  <;> intro K hK
    · go_wp2_with fail
      (with_reducible refine Calls.mono (HLD.out _ (by with_reducible (repeat first | exact bR _ _ | assumption | exact ho (by assumption) | refine bD ?_ | refine bA ?_ ?_ _ | refine bS ?_ ?_ _ | refine bC ?_ (ho (by assumption)) ?_) <;> (first | omega | (simp <;> omega)))) ?_)
      rintro e w5 ⟨⟨ax, cx, rfl, hr, hl⟩, hb⟩
      have HR5 := Lib.hid hr
      have HL5 := Lib.hid hl
      obtain ⟨hc_w5, hf_w5⟩ := bcell hb
      have HB_w5 : Hid (Below W0.heap.size W0 w5) := Lib.hid (below_step (by with_reducible (repeat first | exact bR _ _ | assumption | exact ho (by assumption) | refine bD ?_ | refine bN ?_ _ | refine bA ?_ ?_ _ | refine bS ?_ ?_ _) <;> (first | omega | (simp <;> omega))) hb)
      have hs_w5 := hb.size
      try simp only [World.size_alloc, sz_set, sz_drew, sz_drewN] at hs_w5
      have HK_w5 := Lib.hid hb
      have HC_w5 := Lib.hid (callTo hb)
      clear hb
      try have l0_w5 : W0.heap.size < w5.heap.size := by omega
      try have n0_w5 : W0.heap.size ≠ w5.heap.size := by omega
      try have l1_w5 : W0.heap.size + 1 < w5.heap.size := by omega
      try have n1_w5 : W0.heap.size + 1 ≠ w5.heap.size := by omega
      clear hr hl
      refine hK _ _ (by with_reducible (repeat first | exact bR _ _ | assumption | exact ho (by assumption) | refine bD ?_ | refine bA ?_ ?_ _ | refine bS ?_ ?_ _ | refine bC ?_ (ho (by assumption)) ?_) <;> (first | omega | (simp <;> omega))) (fun hS => ?_)
      clear hK
      try simp only [Act.put, gA, gB, gC, sA, sB, sC]
      refine wpL.three 3 4 5 rfl rfl rfl (by kernel_rfl) rfl rfl rfl ?_ ?_ ?_  <;> intro K hK
      · go_wp2_with fail
        (with_reducible refine Calls.mono (HLE.out _ (by with_reducible (repeat first | exact bR _ _ | assumption | exact ho (by assumption) | refine bD ?_ | refine bA ?_ ?_ _ | refine bS ?_ ?_ _ | refine bC ?_ (ho (by assumption)) ?_) <;> (first | omega | (simp <;> omega)))) ?_)
        rintro e w6 ⟨⟨az, cz, rfl, hr, hl⟩, hb⟩
        have HR6 := Lib.hid hr
        have HL6 := Lib.hid hl
        obtain ⟨hc_w6, hf_w6⟩ := bcell hb
        have HB_w6 : Hid (Below W0.heap.size W0 w6) := Lib.hid (below_step (by with_reducible (repeat first | exact bR _ _ | assumption | exact ho (by assumption) | refine bD ?_ | refine bN ?_ _ | refine bA ?_ ?_ _ | refine bS ?_ ?_ _) <;> (first | omega | (simp <;> omega))) hb)
        have hs_w6 := hb.size
        try simp only [World.size_alloc, sz_set, sz_drew, sz_drewN] at hs_w6
        have HK_w6 := Lib.hid hb
        have HC_w6 := Lib.hid (callTo hb)
        clear hb
        try have l0_w6 : W0.heap.size < w6.heap.size := by omega
        try have n0_w6 : W0.heap.size ≠ w6.heap.size := by omega
        try have l1_w6 : W0.heap.size + 1 < w6.heap.size := by omega
        try have n1_w6 : W0.heap.size + 1 ≠ w6.heap.size := by omega
        try have l2_w6 : w5.heap.size < w6.heap.size := by omega
        try have n2_w6 : w5.heap.size ≠ w6.heap.size := by omega
        try have l3_w6 : w5.heap.size + 1 < w6.heap.size := by omega
        try have n3_w6 : w5.heap.size + 1 ≠ w6.heap.size := by omega
        clear hr hl
        refine hK _ _ (by with_reducible (repeat first | exact bR _ _ | assumption | exact ho (by assumption) | refine bD ?_ | refine bA ?_ ?_ _ | refine bS ?_ ?_ _ | refine bC ?_ (ho (by assumption)) ?_) <;> (first | omega | (simp <;> omega))) (fun hS => ?_)
        clear hK
        try simp only [Act.put, gA, gB, gC, sA, sB, sC]
        refine wpL.two 4 5 rfl rfl (by kernel_rfl) rfl rfl ?_ ?_  <;> intro K hK
        · go_wp2
          refine hK _ _ (by with_reducible (repeat first | exact bR _ _ | assumption | exact ho (by assumption) | refine bD ?_ | refine bA ?_ ?_ _ | refine bS ?_ ?_ _ | refine bC ?_ (ho (by assumption)) ?_) <;> (first | omega | (simp <;> omega))) (fun hS => ?_)
          clear hK
          try simp only [Act.put, gA, gB, gC, sA, sB, sC]
          refine wpL.eff 5 rfl (by kernel_rfl) rfl ?_
          intro K hK
          go_wp2
          refine hK _ _ (by with_reducible (repeat first | exact bR _ _ | assumption | exact ho (by assumption) | refine bD ?_ | refine bA ?_ ?_ _ | refine bS ?_ ?_ _ | refine bC ?_ (ho (by assumption)) ?_) <;> (first | omega | (simp <;> omega))) (fun hS => ?_)
          clear hK
          try simp only [Act.put, gA, gB, gC, sA, sB, sC]
          refine wpL.eff 6 rfl (by kernel_rfl) rfl ?_
          intro K hK
          go_wp2
          refine hK _ _ (by with_reducible (repeat first | exact bR _ _ | assumption | exact ho (by assumption) | refine bD ?_ | refine bA ?_ ?_ _ | refine bS ?_ ?_ _ | refine bC ?_ (ho (by assumption)) ?_) <;> (first | omega | (simp <;> omega))) (fun hS => ?_)
          clear hK
          try simp only [Act.put, gA, gB, gC, sA, sB, sC]
          refine wpL.last 7 rfl (by kernel_rfl) rfl (by kernel_rfl) rfl ?_
          go_wp2_with fail
          go_meet
          case rel =>
            refine ⟨_, _, ax, cx, az, cz, rfl, rfl, Lib.hid ?b1, Lib.hid ?b2, Lib.hid ⟨(HR5.out.kp ?k1).rd, HL5.out⟩, Lib.hid ⟨(HR6.out.kp ?k2).rd, HL6.out⟩, Lib.hid (by with_reducible (repeat first | exact bR _ _ | assumption | exact ho (by assumption) | refine bD ?_ | refine bA ?_ ?_ _ | refine bS ?_ ?_ _ | refine bC ?_ (ho (by assumption)) ?_) <;> (first | omega | (simp <;> omega)))⟩
            case b1 | b2 => exact (by with_reducible (repeat first | assumption | exact ho (by assumption) | (refine Blk.newAt ?z; case z => first | rfl | (first | omega | (simp <;> omega))) | apply Blk.three | apply Blk.seven | apply Blk.nine | (refine Blk.far ?_ ?z _; case z => ((try dsimp only); (first | omega | (simp <;> omega)))) | refine Blk.alloc ?_ _ | refine Blk.drew ?_ | refine Blk.turnTo ?_ (ho (by assumption)) ?_ | refine Blk.belowB ?_ (ho (by assumption)) ?_) <;> (first | omega | (simp <;> omega)))
            case k1 | k2 => exact (by with_reducible (repeat first | exact kR _ _ _ | assumption | exact ho (by assumption) | refine kD ?_ | refine kA ?_ _ | refine kS ?_ ?_ _ | refine kC ?_ (ho (by assumption))) <;> (first | omega | (simp <;> omega)))
        · go_wp2
          refine hK _ _ (by with_reducible (repeat first | exact bR _ _ | assumption | exact ho (by assumption) | refine bD ?_ | refine bA ?_ ?_ _ | refine bS ?_ ?_ _ | refine bC ?_ (ho (by assumption)) ?_) <;> (first | omega | (simp <;> omega))) (fun hS => ?_)
          clear hK
          try simp only [Act.put, gA, gB, gC, sA, sB, sC]
          refine wpL.eff 4 rfl (by kernel_rfl) rfl ?_
          intro K hK
          go_wp2
          refine hK _ _ (by with_reducible (repeat first | exact bR _ _ | assumption | exact ho (by assumption) | refine bD ?_ | refine bA ?_ ?_ _ | refine bS ?_ ?_ _ | refine bC ?_ (ho (by assumption)) ?_) <;> (first | omega | (simp <;> omega))) (fun hS => ?_)
          clear hK
          try simp only [Act.put, gA, gB, gC, sA, sB, sC]
          refine wpL.eff 6 rfl (by kernel_rfl) rfl ?_
          intro K hK
          go_wp2
          refine hK _ _ (by with_reducible (repeat first | exact bR _ _ | assumption | exact ho (by assumption) | refine bD ?_ | refine bA ?_ ?_ _ | refine bS ?_ ?_ _ | refine bC ?_ (ho (by assumption)) ?_) <;> (first | omega | (simp <;> omega))) (fun hS => ?_)
          clear hK
          try simp only [Act.put, gA, gB, gC, sA, sB, sC]
          refine wpL.last 7 rfl (by kernel_rfl) rfl (by kernel_rfl) rfl ?_
          go_wp2_with fail
          go_meet
          case rel =>
            refine ⟨_, _, ax, cx, az, cz, rfl, rfl, Lib.hid ?b1, Lib.hid ?b2, Lib.hid ⟨(HR5.out.kp ?k1).rd, HL5.out⟩, Lib.hid ⟨(HR6.out.kp ?k2).rd, HL6.out⟩, Lib.hid (by with_reducible (repeat first | exact bR _ _ | assumption | exact ho (by assumption) | refine bD ?_ | refine bA ?_ ?_ _ | refine bS ?_ ?_ _ | refine bC ?_ (ho (by assumption)) ?_) <;> (first | omega | (simp <;> omega)))⟩
            case b1 | b2 => exact (by with_reducible (repeat first | assumption | exact ho (by assumption) | (refine Blk.newAt ?z; case z => first | rfl | (first | omega | (simp <;> omega))) | apply Blk.three | apply Blk.seven | apply Blk.nine | (refine Blk.far ?_ ?z _; case z => ((try dsimp only); (first | omega | (simp <;> omega)))) | refine Blk.alloc ?_ _ | refine Blk.drew ?_ | refine Blk.turnTo ?_ (ho (by assumption)) ?_ | refine Blk.belowB ?_ (ho (by assumption)) ?_) <;> (first | omega | (simp <;> omega)))
            case k1 | k2 => exact (by with_reducible (repeat first | exact kR _ _ _ | assumption | exact ho (by assumption) | refine kD ?_ | refine kA ?_ _ | refine kS ?_ ?_ _ | refine kC ?_ (ho (by assumption))) <;> (first | omega | (simp <;> omega)))
      · go_wp2
        refine hK _ _ (by with_reducible (repeat first | exact bR _ _ | assumption | exact ho (by assumption) | refine bD ?_ | refine bA ?_ ?_ _ | refine bS ?_ ?_ _ | refine bC ?_ (ho (by assumption)) ?_) <;> (first | omega | (simp <;> omega))) (fun hS => ?_)
        clear hK
        try simp only [Act.put, gA, gB, gC, sA, sB, sC]
        refine wpL.two 3 5 rfl rfl (by kernel_rfl) rfl rfl ?_ ?_  <;> intro K hK
        · go_wp2_with fail
          (with_reducible refine Calls.mono (HLE.out _ (by with_reducible (repeat first | exact bR _ _ | assumption | exact ho (by assumption) | refine bD ?_ | refine bA ?_ ?_ _ | refine bS ?_ ?_ _ | refine bC ?_ (ho (by assumption)) ?_) <;> (first | omega | (simp <;> omega)))) ?_)
          rintro e w6 ⟨⟨az, cz, rfl, hr, hl⟩, hb⟩
          have HR6 := Lib.hid hr
          have HL6 := Lib.hid hl
          obtain ⟨hc_w6, hf_w6⟩ := bcell hb
          have HB_w6 : Hid (Below W0.heap.size W0 w6) := Lib.hid (below_step (by with_reducible (repeat first | exact bR _ _ | assumption | exact ho (by assumption) | refine bD ?_ | refine bN ?_ _ | refine bA ?_ ?_ _ | refine bS ?_ ?_ _) <;> (first | omega | (simp <;> omega))) hb)
          have hs_w6 := hb.size
          try simp only [World.size_alloc, sz_set, sz_drew, sz_drewN] at hs_w6
          have HK_w6 := Lib.hid hb
          have HC_w6 := Lib.hid (callTo hb)
          clear hb
          try have l0_w6 : W0.heap.size < w6.heap.size := by omega
          try have n0_w6 : W0.heap.size ≠ w6.heap.size := by omega
          try have l1_w6 : W0.heap.size + 1 < w6.heap.size := by omega
          try have n1_w6 : W0.heap.size + 1 ≠ w6.heap.size := by omega
          try have l2_w6 : w5.heap.size < w6.heap.size := by omega
          try have n2_w6 : w5.heap.size ≠ w6.heap.size := by omega
          try have l3_w6 : w5.heap.size + 1 < w6.heap.size := by omega
          try have n3_w6 : w5.heap.size + 1 ≠ w6.heap.size := by omega
          clear hr hl
          refine hK _ _ (by with_reducible (repeat first | exact bR _ _ | assumption | exact ho (by assumption) | refine bD ?_ | refine bA ?_ ?_ _ | refine bS ?_ ?_ _ | refine bC ?_ (ho (by assumption)) ?_) <;> (first | omega | (simp <;> omega))) (fun hS => ?_)
          clear hK
          try simp only [Act.put, gA, gB, gC, sA, sB, sC]
          refine wpL.eff 5 rfl (by kernel_rfl) rfl ?_
          intro K hK
          go_wp2
          refine hK _ _ (by with_reducible (repeat first | exact bR _ _ | assumption | exact ho (by assumption) | refine bD ?_ | refine bA ?_ ?_ _ | refine bS ?_ ?_ _ | refine bC ?_ (ho (by assumption)) ?_) <;> (first | omega | (simp <;> omega))) (fun hS => ?_)
          clear hK
          try simp only [Act.put, gA, gB, gC, sA, sB, sC]
          refine wpL.eff 6 rfl (by kernel_rfl) rfl ?_
          intro K hK
          go_wp2
          refine hK _ _ (by with_reducible (repeat first | exact bR _ _ | assumption | exact ho (by assumption) | refine bD ?_ | refine bA ?_ ?_ _ | refine bS ?_ ?_ _ | refine bC ?_ (ho (by assumption)) ?_) <;> (first | omega | (simp <;> omega))) (fun hS => ?_)
          clear hK
          try simp only [Act.put, gA, gB, gC, sA, sB, sC]
          refine wpL.last 7 rfl (by kernel_rfl) rfl (by kernel_rfl) rfl ?_
          go_wp2_with fail
          go_meet
          case rel =>
            refine ⟨_, _, ax, cx, az, cz, rfl, rfl, Lib.hid ?b1, Lib.hid ?b2, Lib.hid ⟨(HR5.out.kp ?k1).rd, HL5.out⟩, Lib.hid ⟨(HR6.out.kp ?k2).rd, HL6.out⟩, Lib.hid (by with_reducible (repeat first | exact bR _ _ | assumption | exact ho (by assumption) | refine bD ?_ | refine bA ?_ ?_ _ | refine bS ?_ ?_ _ | refine bC ?_ (ho (by assumption)) ?_) <;> (first | omega | (simp <;> omega)))⟩
            case b1 | b2 => exact (by with_reducible (repeat first | assumption | exact ho (by assumption) | (refine Blk.newAt ?z; case z => first | rfl | (first | omega | (simp <;> omega))) | apply Blk.three | apply Blk.seven | apply Blk.nine | (refine Blk.far ?_ ?z _; case z => ((try dsimp only); (first | omega | (simp <;> omega)))) | refine Blk.alloc ?_ _ | refine Blk.drew ?_ | refine Blk.turnTo ?_ (ho (by assumption)) ?_ | refine Blk.belowB ?_ (ho (by assumption)) ?_) <;> (first | omega | (simp <;> omega)))
            case k1 | k2 => exact (by with_reducible (repeat first | exact kR _ _ _ | assumption | exact ho (by assumption) | refine kD ?_ | refine kA ?_ _ | refine kS ?_ ?_ _ | refine kC ?_ (ho (by assumption))) <;> (first | omega | (simp <;> omega)))
        · go_wp2
          refine hK _ _ (by with_reducible (repeat first | exact bR _ _ | assumption | exact ho (by assumption) | refine bD ?_ | refine bA ?_ ?_ _ | refine bS ?_ ?_ _ | refine bC ?_ (ho (by assumption)) ?_) <;> (first | omega | (simp <;> omega))) (fun hS => ?_)
          clear hK
          try simp only [Act.put, gA, gB, gC, sA, sB, sC]
          refine wpL.eff 3 rfl (by kernel_rfl) rfl ?_
          intro K hK
          go_wp2_with fail
          (with_reducible refine Calls.mono (HLE.out _ (by with_reducible (repeat first | exact bR _ _ | assumption | exact ho (by assumption) | refine bD ?_ | refine bA ?_ ?_ _ | refine bS ?_ ?_ _ | refine bC ?_ (ho (by assumption)) ?_) <;> (first | omega | (simp <;> omega)))) ?_)
          rintro e w6 ⟨⟨az, cz, rfl, hr, hl⟩, hb⟩
          have HR6 := Lib.hid hr
          have HL6 := Lib.hid hl
          obtain ⟨hc_w6, hf_w6⟩ := bcell hb
          have HB_w6 : Hid (Below W0.heap.size W0 w6) := Lib.hid (below_step (by with_reducible (repeat first | exact bR _ _ | assumption | exact ho (by assumption) | refine bD ?_ | refine bN ?_ _ | refine bA ?_ ?_ _ | refine bS ?_ ?_ _) <;> (first | omega | (simp <;> omega))) hb)
          have hs_w6 := hb.size
          try simp only [World.size_alloc, sz_set, sz_drew, sz_drewN] at hs_w6
          have HK_w6 := Lib.hid hb
          have HC_w6 := Lib.hid (callTo hb)
          clear hb
          try have l0_w6 : W0.heap.size < w6.heap.size := by omega
          try have n0_w6 : W0.heap.size ≠ w6.heap.size := by omega
          try have l1_w6 : W0.heap.size + 1 < w6.heap.size := by omega
          try have n1_w6 : W0.heap.size + 1 ≠ w6.heap.size := by omega
          try have l2_w6 : w5.heap.size < w6.heap.size := by omega
          try have n2_w6 : w5.heap.size ≠ w6.heap.size := by omega
          try have l3_w6 : w5.heap.size + 1 < w6.heap.size := by omega
          try have n3_w6 : w5.heap.size + 1 ≠ w6.heap.size := by omega
          clear hr hl
          refine hK _ _ (by with_reducible (repeat first | exact bR _ _ | assumption | exact ho (by assumption) | refine bD ?_ | refine bA ?_ ?_ _ | refine bS ?_ ?_ _ | refine bC ?_ (ho (by assumption)) ?_) <;> (first | omega | (simp <;> omega))) (fun hS => ?_)
          clear hK
          try simp only [Act.put, gA, gB, gC, sA, sB, sC]
          refine wpL.eff 6 rfl (by kernel_rfl) rfl ?_
          intro K hK
          go_wp2
          refine hK _ _ (by with_reducible (repeat first | exact bR _ _ | assumption | exact ho (by assumption) | refine bD ?_ | refine bA ?_ ?_ _ | refine bS ?_ ?_ _ | refine bC ?_ (ho (by assumption)) ?_) <;> (first | omega | (simp <;> omega))) (fun hS => ?_)
          clear hK
          try simp only [Act.put, gA, gB, gC, sA, sB, sC]
          refine wpL.last 7 rfl (by kernel_rfl) rfl (by kernel_rfl) rfl ?_
          go_wp2_with fail
          go_meet
          case rel =>
            refine ⟨_, _, ax, cx, az, cz, rfl, rfl, Lib.hid ?b1, Lib.hid ?b2, Lib.hid ⟨(HR5.out.kp ?k1).rd, HL5.out⟩, Lib.hid ⟨(HR6.out.kp ?k2).rd, HL6.out⟩, Lib.hid (by with_reducible (repeat first | exact bR _ _ | assumption | exact ho (by assumption) | refine bD ?_ | refine bA ?_ ?_ _ | refine bS ?_ ?_ _ | refine bC ?_ (ho (by assumption)) ?_) <;> (first | omega | (simp <;> omega)))⟩
            case b1 | b2 => exact (by with_reducible (repeat first | assumption | exact ho (by assumption) | (refine Blk.newAt ?z; case z => first | rfl | (first | omega | (simp <;> omega))) | apply Blk.three | apply Blk.seven | apply Blk.nine | (refine Blk.far ?_ ?z _; case z => ((try dsimp only); (first | omega | (simp <;> omega)))) | refine Blk.alloc ?_ _ | refine Blk.drew ?_ | refine Blk.turnTo ?_ (ho (by assumption)) ?_ | refine Blk.belowB ?_ (ho (by assumption)) ?_) <;> (first | omega | (simp <;> omega)))
            case k1 | k2 => exact (by with_reducible (repeat first | exact kR _ _ _ | assumption | exact ho (by assumption) | refine kD ?_ | refine kA ?_ _ | refine kS ?_ ?_ _ | refine kC ?_ (ho (by assumption))) <;> (first | omega | (simp <;> omega)))
      · go_wp2
        refine hK _ _ (by with_reducible (repeat first | exact bR _ _ | assumption | exact ho (by assumption) | refine bD ?_ | refine bA ?_ ?_ _ | refine bS ?_ ?_ _ | refine bC ?_ (ho (by assumption)) ?_) <;> (first | omega | (simp <;> omega))) (fun hS => ?_)
        clear hK
        try simp only [Act.put, gA, gB, gC, sA, sB, sC]
        refine wpL.two 3 4 rfl rfl (by kernel_rfl) rfl rfl ?_ ?_  <;> intro K hK
        · go_wp2_with fail
          (with_reducible refine Calls.mono (HLE.out _ (by with_reducible (repeat first | exact bR _ _ | assumption | exact ho (by assumption) | refine bD ?_ | refine bA ?_ ?_ _ | refine bS ?_ ?_ _ | refine bC ?_ (ho (by assumption)) ?_) <;> (first | omega | (simp <;> omega)))) ?_)
          rintro e w6 ⟨⟨az, cz, rfl, hr, hl⟩, hb⟩
          have HR6 := Lib.hid hr
          have HL6 := Lib.hid hl
          obtain ⟨hc_w6, hf_w6⟩ := bcell hb
          have HB_w6 : Hid (Below W0.heap.size W0 w6) := Lib.hid (below_step (by with_reducible (repeat first | exact bR _ _ | assumption | exact ho (by assumption) | refine bD ?_ | refine bN ?_ _ | refine bA ?_ ?_ _ | refine bS ?_ ?_ _) <;> (first | omega | (simp <;> omega))) hb)
          have hs_w6 := hb.size
          try simp only [World.size_alloc, sz_set, sz_drew, sz_drewN] at hs_w6
          have HK_w6 := Lib.hid hb
          have HC_w6 := Lib.hid (callTo hb)
          clear hb
          try have l0_w6 : W0.heap.size < w6.heap.size := by omega
          try have n0_w6 : W0.heap.size ≠ w6.heap.size := by omega
          try have l1_w6 : W0.heap.size + 1 < w6.heap.size := by omega
          try have n1_w6 : W0.heap.size + 1 ≠ w6.heap.size := by omega
          try have l2_w6 : w5.heap.size < w6.heap.size := by omega
          try have n2_w6 : w5.heap.size ≠ w6.heap.size := by omega
          try have l3_w6 : w5.heap.size + 1 < w6.heap.size := by omega
          try have n3_w6 : w5.heap.size + 1 ≠ w6.heap.size := by omega
          clear hr hl
          refine hK _ _ (by with_reducible (repeat first | exact bR _ _ | assumption | exact ho (by assumption) | refine bD ?_ | refine bA ?_ ?_ _ | refine bS ?_ ?_ _ | refine bC ?_ (ho (by assumption)) ?_) <;> (first | omega | (simp <;> omega))) (fun hS => ?_)
          clear hK
          try simp only [Act.put, gA, gB, gC, sA, sB, sC]
          refine wpL.eff 4 rfl (by kernel_rfl) rfl ?_
          intro K hK
          go_wp2
          refine hK _ _ (by with_reducible (repeat first | exact bR _ _ | assumption | exact ho (by assumption) | refine bD ?_ | refine bA ?_ ?_ _ | refine bS ?_ ?_ _ | refine bC ?_ (ho (by assumption)) ?_) <;> (first | omega | (simp <;> omega))) (fun hS => ?_)
          clear hK
          try simp only [Act.put, gA, gB, gC, sA, sB, sC]
          refine wpL.eff 6 rfl (by kernel_rfl) rfl ?_
          intro K hK
          go_wp2
          refine hK _ _ (by with_reducible (repeat first | exact bR _ _ | assumption | exact ho (by assumption) | refine bD ?_ | refine bA ?_ ?_ _ | refine bS ?_ ?_ _ | refine bC ?_ (ho (by assumption)) ?_) <;> (first | omega | (simp <;> omega))) (fun hS => ?_)
          clear hK
          try simp only [Act.put, gA, gB, gC, sA, sB, sC]
          refine wpL.last 7 rfl (by kernel_rfl) rfl (by kernel_rfl) rfl ?_
          go_wp2_with fail
          go_meet
          case rel =>
            refine ⟨_, _, ax, cx, az, cz, rfl, rfl, Lib.hid ?b1, Lib.hid ?b2, Lib.hid ⟨(HR5.out.kp ?k1).rd, HL5.out⟩, Lib.hid ⟨(HR6.out.kp ?k2).rd, HL6.out⟩, Lib.hid (by with_reducible (repeat first | exact bR _ _ | assumption | exact ho (by assumption) | refine bD ?_ | refine bA ?_ ?_ _ | refine bS ?_ ?_ _ | refine bC ?_ (ho (by assumption)) ?_) <;> (first | omega | (simp <;> omega)))⟩
            case b1 | b2 => exact (by with_reducible (repeat first | assumption | exact ho (by assumption) | (refine Blk.newAt ?z; case z => first | rfl | (first | omega | (simp <;> omega))) | apply Blk.three | apply Blk.seven | apply Blk.nine | (refine Blk.far ?_ ?z _; case z => ((try dsimp only); (first | omega | (simp <;> omega)))) | refine Blk.alloc ?_ _ | refine Blk.drew ?_ | refine Blk.turnTo ?_ (ho (by assumption)) ?_ | refine Blk.belowB ?_ (ho (by assumption)) ?_) <;> (first | omega | (simp <;> omega)))
            case k1 | k2 => exact (by with_reducible (repeat first | exact kR _ _ _ | assumption | exact ho (by assumption) | refine kD ?_ | refine kA ?_ _ | refine kS ?_ ?_ _ | refine kC ?_ (ho (by assumption))) <;> (first | omega | (simp <;> omega)))
        · go_wp2
          refine hK _ _ (by with_reducible (repeat first | exact bR _ _ | assumption | exact ho (by assumption) | refine bD ?_ | refine bA ?_ ?_ _ | refine bS ?_ ?_ _ | refine bC ?_ (ho (by assumption)) ?_) <;> (first | omega | (simp <;> omega))) (fun hS => ?_)
          clear hK
          try simp only [Act.put, gA, gB, gC, sA, sB, sC]
          refine wpL.eff 3 rfl (by kernel_rfl) rfl ?_
          intro K hK
          go_wp2_with fail
          (with_reducible refine Calls.mono (HLE.out _ (by with_reducible (repeat first | exact bR _ _ | assumption | exact ho (by assumption) | refine bD ?_ | refine bA ?_ ?_ _ | refine bS ?_ ?_ _ | refine bC ?_ (ho (by assumption)) ?_) <;> (first | omega | (simp <;> omega)))) ?_)
          rintro e w6 ⟨⟨az, cz, rfl, hr, hl⟩, hb⟩
          have HR6 := Lib.hid hr
          have HL6 := Lib.hid hl
          obtain ⟨hc_w6, hf_w6⟩ := bcell hb
          have HB_w6 : Hid (Below W0.heap.size W0 w6) := Lib.hid (below_step (by with_reducible (repeat first | exact bR _ _ | assumption | exact ho (by assumption) | refine bD ?_ | refine bN ?_ _ | refine bA ?_ ?_ _ | refine bS ?_ ?_ _) <;> (first | omega | (simp <;> omega))) hb)
          have hs_w6 := hb.size
          try simp only [World.size_alloc, sz_set, sz_drew, sz_drewN] at hs_w6
          have HK_w6 := Lib.hid hb
          have HC_w6 := Lib.hid (callTo hb)
          clear hb
          try have l0_w6 : W0.heap.size < w6.heap.size := by omega
          try have n0_w6 : W0.heap.size ≠ w6.heap.size := by omega
          try have l1_w6 : W0.heap.size + 1 < w6.heap.size := by omega
          try have n1_w6 : W0.heap.size + 1 ≠ w6.heap.size := by omega
          try have l2_w6 : w5.heap.size < w6.heap.size := by omega
          try have n2_w6 : w5.heap.size ≠ w6.heap.size := by omega
          try have l3_w6 : w5.heap.size + 1 < w6.heap.size := by omega
          try have n3_w6 : w5.heap.size + 1 ≠ w6.heap.size := by omega
          clear hr hl
          refine hK _ _ (by with_reducible (repeat first | exact bR _ _ | assumption | exact ho (by assumption) | refine bD ?_ | refine bA ?_ ?_ _ | refine bS ?_ ?_ _ | refine bC ?_ (ho (by assumption)) ?_) <;> (first | omega | (simp <;> omega))) (fun hS => ?_)
          clear hK
          try simp only [Act.put, gA, gB, gC, sA, sB, sC]
          refine wpL.eff 6 rfl (by kernel_rfl) rfl ?_
          intro K hK
          go_wp2
          refine hK _ _ (by with_reducible (repeat first | exact bR _ _ | assumption | exact ho (by assumption) | refine bD ?_ | refine bA ?_ ?_ _ | refine bS ?_ ?_ _ | refine bC ?_ (ho (by assumption)) ?_) <;> (first | omega | (simp <;> omega))) (fun hS => ?_)
          clear hK
          try simp only [Act.put, gA, gB, gC, sA, sB, sC]
          refine wpL.last 7 rfl (by kernel_rfl) rfl (by kernel_rfl) rfl ?_
          go_wp2_with fail
          go_meet
          case rel =>
            refine ⟨_, _, ax, cx, az, cz, rfl, rfl, Lib.hid ?b1, Lib.hid ?b2, Lib.hid ⟨(HR5.out.kp ?k1).rd, HL5.out⟩, Lib.hid ⟨(HR6.out.kp ?k2).rd, HL6.out⟩, Lib.hid (by with_reducible (repeat first | exact bR _ _ | assumption | exact ho (by assumption) | refine bD ?_ | refine bA ?_ ?_ _ | refine bS ?_ ?_ _ | refine bC ?_ (ho (by assumption)) ?_) <;> (first | omega | (simp <;> omega)))⟩
            case b1 | b2 => exact (by with_reducible (repeat first | assumption | exact ho (by assumption) | (refine Blk.newAt ?z; case z => first | rfl | (first | omega | (simp <;> omega))) | apply Blk.three | apply Blk.seven | apply Blk.nine | (refine Blk.far ?_ ?z _; case z => ((try dsimp only); (first | omega | (simp <;> omega)))) | refine Blk.alloc ?_ _ | refine Blk.drew ?_ | refine Blk.turnTo ?_ (ho (by assumption)) ?_ | refine Blk.belowB ?_ (ho (by assumption)) ?_) <;> (first | omega | (simp <;> omega)))
            case k1 | k2 => exact (by with_reducible (repeat first | exact kR _ _ _ | assumption | exact ho (by assumption) | refine kD ?_ | refine kA ?_ _ | refine kS ?_ ?_ _ | refine kC ?_ (ho (by assumption))) <;> (first | omega | (simp <;> omega)))
    · go_wp2
      refine hK _ _ (by with_reducible (repeat first | exact bR _ _ | assumption | exact ho (by assumption) | refine bD ?_ | refine bA ?_ ?_ _ | refine bS ?_ ?_ _ | refine bC ?_ (ho (by assumption)) ?_) <;> (first | omega | (simp <;> omega))) (fun hS => ?_)
      clear hK
      try simp only [Act.put, gA, gB, gC, sA, sB, sC]
      refine wpL.two 1 5 rfl rfl (by kernel_rfl) rfl rfl ?_ ?_  <;> intro K hK
      · go_wp2_with fail
        (with_reducible refine Calls.mono (HLD.out _ (by with_reducible (repeat first | exact bR _ _ | assumption | exact ho (by assumption) | refine bD ?_ | refine bA ?_ ?_ _ | refine bS ?_ ?_ _ | refine bC ?_ (ho (by assumption)) ?_) <;> (first | omega | (simp <;> omega)))) ?_)
        rintro e w5 ⟨⟨ax, cx, rfl, hr, hl⟩, hb⟩
        have HR5 := Lib.hid hr
        have HL5 := Lib.hid hl
        obtain ⟨hc_w5, hf_w5⟩ := bcell hb
        have HB_w5 : Hid (Below W0.heap.size W0 w5) := Lib.hid (below_step (by with_reducible (repeat first | exact bR _ _ | assumption | exact ho (by assumption) | refine bD ?_ | refine bN ?_ _ | refine bA ?_ ?_ _ | refine bS ?_ ?_ _) <;> (first | omega | (simp <;> omega))) hb)
        have hs_w5 := hb.size
        try simp only [World.size_alloc, sz_set, sz_drew, sz_drewN] at hs_w5
        have HK_w5 := Lib.hid hb
        have HC_w5 := Lib.hid (callTo hb)
        clear hb
        try have l0_w5 : W0.heap.size < w5.heap.size := by omega
        try have n0_w5 : W0.heap.size ≠ w5.heap.size := by omega
        try have l1_w5 : W0.heap.size + 1 < w5.heap.size := by omega
        try have n1_w5 : W0.heap.size + 1 ≠ w5.heap.size := by omega
        clear hr hl
        refine hK _ _ (by with_reducible (repeat first | exact bR _ _ | assumption | exact ho (by assumption) | refine bD ?_ | refine bA ?_ ?_ _ | refine bS ?_ ?_ _ | refine bC ?_ (ho (by assumption)) ?_) <;> (first | omega | (simp <;> omega))) (fun hS => ?_)
        clear hK
        try simp only [Act.put, gA, gB, gC, sA, sB, sC]
        refine wpL.two 3 5 rfl rfl (by kernel_rfl) rfl rfl ?_ ?_  <;> intro K hK
        · go_wp2_with fail
          (with_reducible refine Calls.mono (HLE.out _ (by with_reducible (repeat first | exact bR _ _ | assumption | exact ho (by assumption) | refine bD ?_ | refine bA ?_ ?_ _ | refine bS ?_ ?_ _ | refine bC ?_ (ho (by assumption)) ?_) <;> (first | omega | (simp <;> omega)))) ?_)
          rintro e w6 ⟨⟨az, cz, rfl, hr, hl⟩, hb⟩
          have HR6 := Lib.hid hr
          have HL6 := Lib.hid hl
          obtain ⟨hc_w6, hf_w6⟩ := bcell hb
          have HB_w6 : Hid (Below W0.heap.size W0 w6) := Lib.hid (below_step (by with_reducible (repeat first | exact bR _ _ | assumption | exact ho (by assumption) | refine bD ?_ | refine bN ?_ _ | refine bA ?_ ?_ _ | refine bS ?_ ?_ _) <;> (first | omega | (simp <;> omega))) hb)
          have hs_w6 := hb.size
          try simp only [World.size_alloc, sz_set, sz_drew, sz_drewN] at hs_w6
          have HK_w6 := Lib.hid hb
          have HC_w6 := Lib.hid (callTo hb)
          clear hb
          try have l0_w6 : W0.heap.size < w6.heap.size := by omega
          try have n0_w6 : W0.heap.size ≠ w6.heap.size := by omega
          try have l1_w6 : W0.heap.size + 1 < w6.heap.size := by omega
          try have n1_w6 : W0.heap.size + 1 ≠ w6.heap.size := by omega
          try have l2_w6 : w5.heap.size < w6.heap.size := by omega
          try have n2_w6 : w5.heap.size ≠ w6.heap.size := by omega
          try have l3_w6 : w5.heap.size + 1 < w6.heap.size := by omega
          try have n3_w6 : w5.heap.size + 1 ≠ w6.heap.size := by omega
          clear hr hl
          refine hK _ _ (by with_reducible (repeat first | exact bR _ _ | assumption | exact ho (by assumption) | refine bD ?_ | refine bA ?_ ?_ _ | refine bS ?_ ?_ _ | refine bC ?_ (ho (by assumption)) ?_) <;> (first | omega | (simp <;> omega))) (fun hS => ?_)
          clear hK
          try simp only [Act.put, gA, gB, gC, sA, sB, sC]
          refine wpL.eff 5 rfl (by kernel_rfl) rfl ?_
          intro K hK
          go_wp2
          refine hK _ _ (by with_reducible (repeat first | exact bR _ _ | assumption | exact ho (by assumption) | refine bD ?_ | refine bA ?_ ?_ _ | refine bS ?_ ?_ _ | refine bC ?_ (ho (by assumption)) ?_) <;> (first | omega | (simp <;> omega))) (fun hS => ?_)
          clear hK
          try simp only [Act.put, gA, gB, gC, sA, sB, sC]
          refine wpL.eff 6 rfl (by kernel_rfl) rfl ?_
          intro K hK
          go_wp2
          refine hK _ _ (by with_reducible (repeat first | exact bR _ _ | assumption | exact ho (by assumption) | refine bD ?_ | refine bA ?_ ?_ _ | refine bS ?_ ?_ _ | refine bC ?_ (ho (by assumption)) ?_) <;> (first | omega | (simp <;> omega))) (fun hS => ?_)
          clear hK
          try simp only [Act.put, gA, gB, gC, sA, sB, sC]
          refine wpL.last 7 rfl (by kernel_rfl) rfl (by kernel_rfl) rfl ?_
          go_wp2_with fail
          go_meet
          case rel =>
            refine ⟨_, _, ax, cx, az, cz, rfl, rfl, Lib.hid ?b1, Lib.hid ?b2, Lib.hid ⟨(HR5.out.kp ?k1).rd, HL5.out⟩, Lib.hid ⟨(HR6.out.kp ?k2).rd, HL6.out⟩, Lib.hid (by with_reducible (repeat first | exact bR _ _ | assumption | exact ho (by assumption) | refine bD ?_ | refine bA ?_ ?_ _ | refine bS ?_ ?_ _ | refine bC ?_ (ho (by assumption)) ?_) <;> (first | omega | (simp <;> omega)))⟩
            case b1 | b2 => exact (by with_reducible (repeat first | assumption | exact ho (by assumption) | (refine Blk.newAt ?z; case z => first | rfl | (first | omega | (simp <;> omega))) | apply Blk.three | apply Blk.seven | apply Blk.nine | (refine Blk.far ?_ ?z _; case z => ((try dsimp only); (first | omega | (simp <;> omega)))) | refine Blk.alloc ?_ _ | refine Blk.drew ?_ | refine Blk.turnTo ?_ (ho (by assumption)) ?_ | refine Blk.belowB ?_ (ho (by assumption)) ?_) <;> (first | omega | (simp <;> omega)))
            case k1 | k2 => exact (by with_reducible (repeat first | exact kR _ _ _ | assumption | exact ho (by assumption) | refine kD ?_ | refine kA ?_ _ | refine kS ?_ ?_ _ | refine kC ?_ (ho (by assumption))) <;> (first | omega | (simp <;> omega)))
        · go_wp2
          refine hK _ _ (by with_reducible (repeat first | exact bR _ _ | assumption | exact ho (by assumption) | refine bD ?_ | refine bA ?_ ?_ _ | refine bS ?_ ?_ _ | refine bC ?_ (ho (by assumption)) ?_) <;> (first | omega | (simp <;> omega))) (fun hS => ?_)
          clear hK
          try simp only [Act.put, gA, gB, gC, sA, sB, sC]
          refine wpL.eff 3 rfl (by kernel_rfl) rfl ?_
          intro K hK
          go_wp2_with fail
          (with_reducible refine Calls.mono (HLE.out _ (by with_reducible (repeat first | exact bR _ _ | assumption | exact ho (by assumption) | refine bD ?_ | refine bA ?_ ?_ _ | refine bS ?_ ?_ _ | refine bC ?_ (ho (by assumption)) ?_) <;> (first | omega | (simp <;> omega)))) ?_)
          rintro e w6 ⟨⟨az, cz, rfl, hr, hl⟩, hb⟩
          have HR6 := Lib.hid hr
          have HL6 := Lib.hid hl
          obtain ⟨hc_w6, hf_w6⟩ := bcell hb
          have HB_w6 : Hid (Below W0.heap.size W0 w6) := Lib.hid (below_step (by with_reducible (repeat first | exact bR _ _ | assumption | exact ho (by assumption) | refine bD ?_ | refine bN ?_ _ | refine bA ?_ ?_ _ | refine bS ?_ ?_ _) <;> (first | omega | (simp <;> omega))) hb)
          have hs_w6 := hb.size
          try simp only [World.size_alloc, sz_set, sz_drew, sz_drewN] at hs_w6
          have HK_w6 := Lib.hid hb
          have HC_w6 := Lib.hid (callTo hb)
          clear hb
          try have l0_w6 : W0.heap.size < w6.heap.size := by omega
          try have n0_w6 : W0.heap.size ≠ w6.heap.size := by omega
          try have l1_w6 : W0.heap.size + 1 < w6.heap.size := by omega
          try have n1_w6 : W0.heap.size + 1 ≠ w6.heap.size := by omega
          try have l2_w6 : w5.heap.size < w6.heap.size := by omega
          try have n2_w6 : w5.heap.size ≠ w6.heap.size := by omega
          try have l3_w6 : w5.heap.size + 1 < w6.heap.size := by omega
          try have n3_w6 : w5.heap.size + 1 ≠ w6.heap.size := by omega
          clear hr hl
          refine hK _ _ (by with_reducible (repeat first | exact bR _ _ | assumption | exact ho (by assumption) | refine bD ?_ | refine bA ?_ ?_ _ | refine bS ?_ ?_ _ | refine bC ?_ (ho (by assumption)) ?_) <;> (first | omega | (simp <;> omega))) (fun hS => ?_)
          clear hK
          try simp only [Act.put, gA, gB, gC, sA, sB, sC]
          refine wpL.eff 6 rfl (by kernel_rfl) rfl ?_
          intro K hK
          go_wp2
          refine hK _ _ (by with_reducible (repeat first | exact bR _ _ | assumption | exact ho (by assumption) | refine bD ?_ | refine bA ?_ ?_ _ | refine bS ?_ ?_ _ | refine bC ?_ (ho (by assumption)) ?_) <;> (first | omega | (simp <;> omega))) (fun hS => ?_)
          clear hK
          try simp only [Act.put, gA, gB, gC, sA, sB, sC]
          refine wpL.last 7 rfl (by kernel_rfl) rfl (by kernel_rfl) rfl ?_
          go_wp2_with fail
          go_meet
          case rel =>
            refine ⟨_, _, ax, cx, az, cz, rfl, rfl, Lib.hid ?b1, Lib.hid ?b2, Lib.hid ⟨(HR5.out.kp ?k1).rd, HL5.out⟩, Lib.hid ⟨(HR6.out.kp ?k2).rd, HL6.out⟩, Lib.hid (by with_reducible (repeat first | exact bR _ _ | assumption | exact ho (by assumption) | refine bD ?_ | refine bA ?_ ?_ _ | refine bS ?_ ?_ _ | refine bC ?_ (ho (by assumption)) ?_) <;> (first | omega | (simp <;> omega)))⟩
            case b1 | b2 => exact (by with_reducible (repeat first | assumption | exact ho (by assumption) | (refine Blk.newAt ?z; case z => first | rfl | (first | omega | (simp <;> omega))) | apply Blk.three | apply Blk.seven | apply Blk.nine | (refine Blk.far ?_ ?z _; case z => ((try dsimp only); (first | omega | (simp <;> omega)))) | refine Blk.alloc ?_ _ | refine Blk.drew ?_ | refine Blk.turnTo ?_ (ho (by assumption)) ?_ | refine Blk.belowB ?_ (ho (by assumption)) ?_) <;> (first | omega | (simp <;> omega)))
            case k1 | k2 => exact (by with_reducible (repeat first | exact kR _ _ _ | assumption | exact ho (by assumption) | refine kD ?_ | refine kA ?_ _ | refine kS ?_ ?_ _ | refine kC ?_ (ho (by assumption))) <;> (first | omega | (simp <;> omega)))
      · go_wp2
        refine hK _ _ (by with_reducible (repeat first | exact bR _ _ | assumption | exact ho (by assumption) | refine bD ?_ | refine bA ?_ ?_ _ | refine bS ?_ ?_ _ | refine bC ?_ (ho (by assumption)) ?_) <;> (first | omega | (simp <;> omega))) (fun hS => ?_)
        clear hK
        try simp only [Act.put, gA, gB, gC, sA, sB, sC]
        refine wpL.eff 1 rfl (by kernel_rfl) rfl ?_
        intro K hK
        go_wp2_with fail
        (with_reducible refine Calls.mono (HLD.out _ (by with_reducible (repeat first | exact bR _ _ | assumption | exact ho (by assumption) | refine bD ?_ | refine bA ?_ ?_ _ | refine bS ?_ ?_ _ | refine bC ?_ (ho (by assumption)) ?_) <;> (first | omega | (simp <;> omega)))) ?_)
        rintro e w5 ⟨⟨ax, cx, rfl, hr, hl⟩, hb⟩
        have HR5 := Lib.hid hr
        have HL5 := Lib.hid hl
        obtain ⟨hc_w5, hf_w5⟩ := bcell hb
        have HB_w5 : Hid (Below W0.heap.size W0 w5) := Lib.hid (below_step (by with_reducible (repeat first | exact bR _ _ | assumption | exact ho (by assumption) | refine bD ?_ | refine bN ?_ _ | refine bA ?_ ?_ _ | refine bS ?_ ?_ _) <;> (first | omega | (simp <;> omega))) hb)
        have hs_w5 := hb.size
        try simp only [World.size_alloc, sz_set, sz_drew, sz_drewN] at hs_w5
        have HK_w5 := Lib.hid hb
        have HC_w5 := Lib.hid (callTo hb)
        clear hb
        try have l0_w5 : W0.heap.size < w5.heap.size := by omega
        try have n0_w5 : W0.heap.size ≠ w5.heap.size := by omega
        try have l1_w5 : W0.heap.size + 1 < w5.heap.size := by omega
        try have n1_w5 : W0.heap.size + 1 ≠ w5.heap.size := by omega
        clear hr hl
        refine hK _ _ (by with_reducible (repeat first | exact bR _ _ | assumption | exact ho (by assumption) | refine bD ?_ | refine bA ?_ ?_ _ | refine bS ?_ ?_ _ | refine bC ?_ (ho (by assumption)) ?_) <;> (first | omega | (simp <;> omega))) (fun hS => ?_)
        clear hK
        try simp only [Act.put, gA, gB, gC, sA, sB, sC]
        refine wpL.eff 3 rfl (by kernel_rfl) rfl ?_
        intro K hK
        go_wp2_with fail
        (with_reducible refine Calls.mono (HLE.out _ (by with_reducible (repeat first | exact bR _ _ | assumption | exact ho (by assumption) | refine bD ?_ | refine bA ?_ ?_ _ | refine bS ?_ ?_ _ | refine bC ?_ (ho (by assumption)) ?_) <;> (first | omega | (simp <;> omega)))) ?_)
        rintro e w6 ⟨⟨az, cz, rfl, hr, hl⟩, hb⟩
        have HR6 := Lib.hid hr
        have HL6 := Lib.hid hl
        obtain ⟨hc_w6, hf_w6⟩ := bcell hb
        have HB_w6 : Hid (Below W0.heap.size W0 w6) := Lib.hid (below_step (by with_reducible (repeat first | exact bR _ _ | assumption | exact ho (by assumption) | refine bD ?_ | refine bN ?_ _ | refine bA ?_ ?_ _ | refine bS ?_ ?_ _) <;> (first | omega | (simp <;> omega))) hb)
        have hs_w6 := hb.size
        try simp only [World.size_alloc, sz_set, sz_drew, sz_drewN] at hs_w6
        have HK_w6 := Lib.hid hb
        have HC_w6 := Lib.hid (callTo hb)
        clear hb
        try have l0_w6 : W0.heap.size < w6.heap.size := by omega
        try have n0_w6 : W0.heap.size ≠ w6.heap.size := by omega
        try have l1_w6 : W0.heap.size + 1 < w6.heap.size := by omega
        try have n1_w6 : W0.heap.size + 1 ≠ w6.heap.size := by omega
        try have l2_w6 : w5.heap.size < w6.heap.size := by omega
        try have n2_w6 : w5.heap.size ≠ w6.heap.size := by omega
        try have l3_w6 : w5.heap.size + 1 < w6.heap.size := by omega
        try have n3_w6 : w5.heap.size + 1 ≠ w6.heap.size := by omega
        clear hr hl
        refine hK _ _ (by with_reducible (repeat first | exact bR _ _ | assumption | exact ho (by assumption) | refine bD ?_ | refine bA ?_ ?_ _ | refine bS ?_ ?_ _ | refine bC ?_ (ho (by assumption)) ?_) <;> (first | omega | (simp <;> omega))) (fun hS => ?_)
        clear hK
        try simp only [Act.put, gA, gB, gC, sA, sB, sC]
        refine wpL.eff 6 rfl (by kernel_rfl) rfl ?_
        intro K hK
        go_wp2
        refine hK _ _ (by with_reducible (repeat first | exact bR _ _ | assumption | exact ho (by assumption) | refine bD ?_ | refine bA ?_ ?_ _ | refine bS ?_ ?_ _ | refine bC ?_ (ho (by assumption)) ?_) <;> (first | omega | (simp <;> omega))) (fun hS => ?_)
        clear hK
        try simp only [Act.put, gA, gB, gC, sA, sB, sC]
        refine wpL.last 7 rfl (by kernel_rfl) rfl (by kernel_rfl) rfl ?_
        go_wp2_with fail
        go_meet
        case rel =>
          refine ⟨_, _, ax, cx, az, cz, rfl, rfl, Lib.hid ?b1, Lib.hid ?b2, Lib.hid ⟨(HR5.out.kp ?k1).rd, HL5.out⟩, Lib.hid ⟨(HR6.out.kp ?k2).rd, HL6.out⟩, Lib.hid (by with_reducible (repeat first | exact bR _ _ | assumption | exact ho (by assumption) | refine bD ?_ | refine bA ?_ ?_ _ | refine bS ?_ ?_ _ | refine bC ?_ (ho (by assumption)) ?_) <;> (first | omega | (simp <;> omega)))⟩
          case b1 | b2 => exact (by with_reducible (repeat first | assumption | exact ho (by assumption) | (refine Blk.newAt ?z; case z => first | rfl | (first | omega | (simp <;> omega))) | apply Blk.three | apply Blk.seven | apply Blk.nine | (refine Blk.far ?_ ?z _; case z => ((try dsimp only); (first | omega | (simp <;> omega)))) | refine Blk.alloc ?_ _ | refine Blk.drew ?_ | refine Blk.turnTo ?_ (ho (by assumption)) ?_ | refine Blk.belowB ?_ (ho (by assumption)) ?_) <;> (first | omega | (simp <;> omega)))
          case k1 | k2 => exact (by with_reducible (repeat first | exact kR _ _ _ | assumption | exact ho (by assumption) | refine kD ?_ | refine kA ?_ _ | refine kS ?_ ?_ _ | refine kC ?_ (ho (by assumption))) <;> (first | omega | (simp <;> omega)))
    · go_wp2
      refine hK _ _ (by with_reducible (repeat first | exact bR _ _ | assumption | exact ho (by assumption) | refine bD ?_ | refine bA ?_ ?_ _ | refine bS ?_ ?_ _ | refine bC ?_ (ho (by assumption)) ?_) <;> (first | omega | (simp <;> omega))) (fun hS => ?_)
      clear hK
      try simp only [Act.put, gA, gB, gC, sA, sB, sC]
      refine wpL.two 1 4 rfl rfl (by kernel_rfl) rfl rfl ?_ ?_  <;> intro K hK
      · go_wp2_with fail
        (with_reducible refine Calls.mono (HLD.out _ (by with_reducible (repeat first | exact bR _ _ | assumption | exact ho (by assumption) | refine bD ?_ | refine bA ?_ ?_ _ | refine bS ?_ ?_ _ | refine bC ?_ (ho (by assumption)) ?_) <;> (first | omega | (simp <;> omega)))) ?_)
        rintro e w5 ⟨⟨ax, cx, rfl, hr, hl⟩, hb⟩
        have HR5 := Lib.hid hr
        have HL5 := Lib.hid hl
        obtain ⟨hc_w5, hf_w5⟩ := bcell hb
        have HB_w5 : Hid (Below W0.heap.size W0 w5) := Lib.hid (below_step (by with_reducible (repeat first | exact bR _ _ | assumption | exact ho (by assumption) | refine bD ?_ | refine bN ?_ _ | refine bA ?_ ?_ _ | refine bS ?_ ?_ _) <;> (first | omega | (simp <;> omega))) hb)
        have hs_w5 := hb.size
        try simp only [World.size_alloc, sz_set, sz_drew, sz_drewN] at hs_w5
        have HK_w5 := Lib.hid hb
        have HC_w5 := Lib.hid (callTo hb)
        clear hb
        try have l0_w5 : W0.heap.size < w5.heap.size := by omega
        try have n0_w5 : W0.heap.size ≠ w5.heap.size := by omega
        try have l1_w5 : W0.heap.size + 1 < w5.heap.size := by omega
        try have n1_w5 : W0.heap.size + 1 ≠ w5.heap.size := by omega
        clear hr hl
        refine hK _ _ (by with_reducible (repeat first | exact bR _ _ | assumption | exact ho (by assumption) | refine bD ?_ | refine bA ?_ ?_ _ | refine bS ?_ ?_ _ | refine bC ?_ (ho (by assumption)) ?_) <;> (first | omega | (simp <;> omega))) (fun hS => ?_)
        clear hK
        try simp only [Act.put, gA, gB, gC, sA, sB, sC]
        refine wpL.two 3 4 rfl rfl (by kernel_rfl) rfl rfl ?_ ?_  <;> intro K hK
        · go_wp2_with fail
          (with_reducible refine Calls.mono (HLE.out _ (by with_reducible (repeat first | exact bR _ _ | assumption | exact ho (by assumption) | refine bD ?_ | refine bA ?_ ?_ _ | refine bS ?_ ?_ _ | refine bC ?_ (ho (by assumption)) ?_) <;> (first | omega | (simp <;> omega)))) ?_)
          rintro e w6 ⟨⟨az, cz, rfl, hr, hl⟩, hb⟩
          have HR6 := Lib.hid hr
          have HL6 := Lib.hid hl
          obtain ⟨hc_w6, hf_w6⟩ := bcell hb
          have HB_w6 : Hid (Below W0.heap.size W0 w6) := Lib.hid (below_step (by with_reducible (repeat first | exact bR _ _ | assumption | exact ho (by assumption) | refine bD ?_ | refine bN ?_ _ | refine bA ?_ ?_ _ | refine bS ?_ ?_ _) <;> (first | omega | (simp <;> omega))) hb)
          have hs_w6 := hb.size
          try simp only [World.size_alloc, sz_set, sz_drew, sz_drewN] at hs_w6
          have HK_w6 := Lib.hid hb
          have HC_w6 := Lib.hid (callTo hb)
          clear hb
          try have l0_w6 : W0.heap.size < w6.heap.size := by omega
          try have n0_w6 : W0.heap.size ≠ w6.heap.size := by omega
          try have l1_w6 : W0.heap.size + 1 < w6.heap.size := by omega
          try have n1_w6 : W0.heap.size + 1 ≠ w6.heap.size := by omega
          try have l2_w6 : w5.heap.size < w6.heap.size := by omega
          try have n2_w6 : w5.heap.size ≠ w6.heap.size := by omega
          try have l3_w6 : w5.heap.size + 1 < w6.heap.size := by omega
          try have n3_w6 : w5.heap.size + 1 ≠ w6.heap.size := by omega
          clear hr hl
          refine hK _ _ (by with_reducible (repeat first | exact bR _ _ | assumption | exact ho (by assumption) | refine bD ?_ | refine bA ?_ ?_ _ | refine bS ?_ ?_ _ | refine bC ?_ (ho (by assumption)) ?_) <;> (first | omega | (simp <;> omega))) (fun hS => ?_)
          clear hK
          try simp only [Act.put, gA, gB, gC, sA, sB, sC]
          refine wpL.eff 4 rfl (by kernel_rfl) rfl ?_
          intro K hK
          go_wp2
          refine hK _ _ (by with_reducible (repeat first | exact bR _ _ | assumption | exact ho (by assumption) | refine bD ?_ | refine bA ?_ ?_ _ | refine bS ?_ ?_ _ | refine bC ?_ (ho (by assumption)) ?_) <;> (first | omega | (simp <;> omega))) (fun hS => ?_)
          clear hK
          try simp only [Act.put, gA, gB, gC, sA, sB, sC]
          refine wpL.eff 6 rfl (by kernel_rfl) rfl ?_
          intro K hK
          go_wp2
          refine hK _ _ (by with_reducible (repeat first | exact bR _ _ | assumption | exact ho (by assumption) | refine bD ?_ | refine bA ?_ ?_ _ | refine bS ?_ ?_ _ | refine bC ?_ (ho (by assumption)) ?_) <;> (first | omega | (simp <;> omega))) (fun hS => ?_)
          clear hK
          try simp only [Act.put, gA, gB, gC, sA, sB, sC]
          refine wpL.last 7 rfl (by kernel_rfl) rfl (by kernel_rfl) rfl ?_
          go_wp2_with fail
          go_meet
          case rel =>
            refine ⟨_, _, ax, cx, az, cz, rfl, rfl, Lib.hid ?b1, Lib.hid ?b2, Lib.hid ⟨(HR5.out.kp ?k1).rd, HL5.out⟩, Lib.hid ⟨(HR6.out.kp ?k2).rd, HL6.out⟩, Lib.hid (by with_reducible (repeat first | exact bR _ _ | assumption | exact ho (by assumption) | refine bD ?_ | refine bA ?_ ?_ _ | refine bS ?_ ?_ _ | refine bC ?_ (ho (by assumption)) ?_) <;> (first | omega | (simp <;> omega)))⟩
            case b1 | b2 => exact (by with_reducible (repeat first | assumption | exact ho (by assumption) | (refine Blk.newAt ?z; case z => first | rfl | (first | omega | (simp <;> omega))) | apply Blk.three | apply Blk.seven | apply Blk.nine | (refine Blk.far ?_ ?z _; case z => ((try dsimp only); (first | omega | (simp <;> omega)))) | refine Blk.alloc ?_ _ | refine Blk.drew ?_ | refine Blk.turnTo ?_ (ho (by assumption)) ?_ | refine Blk.belowB ?_ (ho (by assumption)) ?_) <;> (first | omega | (simp <;> omega)))
            case k1 | k2 => exact (by with_reducible (repeat first | exact kR _ _ _ | assumption | exact ho (by assumption) | refine kD ?_ | refine kA ?_ _ | refine kS ?_ ?_ _ | refine kC ?_ (ho (by assumption))) <;> (first | omega | (simp <;> omega)))
        · go_wp2
          refine hK _ _ (by with_reducible (repeat first | exact bR _ _ | assumption | exact ho (by assumption) | refine bD ?_ | refine bA ?_ ?_ _ | refine bS ?_ ?_ _ | refine bC ?_ (ho (by assumption)) ?_) <;> (first | omega | (simp <;> omega))) (fun hS => ?_)
          clear hK
          try simp only [Act.put, gA, gB, gC, sA, sB, sC]
          refine wpL.eff 3 rfl (by kernel_rfl) rfl ?_
          intro K hK
          go_wp2_with fail
          (with_reducible refine Calls.mono (HLE.out _ (by with_reducible (repeat first | exact bR _ _ | assumption | exact ho (by assumption) | refine bD ?_ | refine bA ?_ ?_ _ | refine bS ?_ ?_ _ | refine bC ?_ (ho (by assumption)) ?_) <;> (first | omega | (simp <;> omega)))) ?_)
          rintro e w6 ⟨⟨az, cz, rfl, hr, hl⟩, hb⟩
          have HR6 := Lib.hid hr
          have HL6 := Lib.hid hl
          obtain ⟨hc_w6, hf_w6⟩ := bcell hb
          have HB_w6 : Hid (Below W0.heap.size W0 w6) := Lib.hid (below_step (by with_reducible (repeat first | exact bR _ _ | assumption | exact ho (by assumption) | refine bD ?_ | refine bN ?_ _ | refine bA ?_ ?_ _ | refine bS ?_ ?_ _) <;> (first | omega | (simp <;> omega))) hb)
          have hs_w6 := hb.size
          try simp only [World.size_alloc, sz_set, sz_drew, sz_drewN] at hs_w6
          have HK_w6 := Lib.hid hb
          have HC_w6 := Lib.hid (callTo hb)
          clear hb
          try have l0_w6 : W0.heap.size < w6.heap.size := by omega
          try have n0_w6 : W0.heap.size ≠ w6.heap.size := by omega
          try have l1_w6 : W0.heap.size + 1 < w6.heap.size := by omega
          try have n1_w6 : W0.heap.size + 1 ≠ w6.heap.size := by omega
          try have l2_w6 : w5.heap.size < w6.heap.size := by omega
          try have n2_w6 : w5.heap.size ≠ w6.heap.size := by omega
          try have l3_w6 : w5.heap.size + 1 < w6.heap.size := by omega
          try have n3_w6 : w5.heap.size + 1 ≠ w6.heap.size := by omega
          clear hr hl
          refine hK _ _ (by with_reducible (repeat first | exact bR _ _ | assumption | exact ho (by assumption) | refine bD ?_ | refine bA ?_ ?_ _ | refine bS ?_ ?_ _ | refine bC ?_ (ho (by assumption)) ?_) <;> (first | omega | (simp <;> omega))) (fun hS => ?_)
          clear hK
          try simp only [Act.put, gA, gB, gC, sA, sB, sC]
          refine wpL.eff 6 rfl (by kernel_rfl) rfl ?_
          intro K hK
          go_wp2
          refine hK _ _ (by with_reducible (repeat first | exact bR _ _ | assumption | exact ho (by assumption) | refine bD ?_ | refine bA ?_ ?_ _ | refine bS ?_ ?_ _ | refine bC ?_ (ho (by assumption)) ?_) <;> (first | omega | (simp <;> omega))) (fun hS => ?_)
          clear hK
          try simp only [Act.put, gA, gB, gC, sA, sB, sC]
          refine wpL.last 7 rfl (by kernel_rfl) rfl (by kernel_rfl) rfl ?_
          go_wp2_with fail
          go_meet
          case rel =>
            refine ⟨_, _, ax, cx, az, cz, rfl, rfl, Lib.hid ?b1, Lib.hid ?b2, Lib.hid ⟨(HR5.out.kp ?k1).rd, HL5.out⟩, Lib.hid ⟨(HR6.out.kp ?k2).rd, HL6.out⟩, Lib.hid (by with_reducible (repeat first | exact bR _ _ | assumption | exact ho (by assumption) | refine bD ?_ | refine bA ?_ ?_ _ | refine bS ?_ ?_ _ | refine bC ?_ (ho (by assumption)) ?_) <;> (first | omega | (simp <;> omega)))⟩
            case b1 | b2 => exact (by with_reducible (repeat first | assumption | exact ho (by assumption) | (refine Blk.newAt ?z; case z => first | rfl | (first | omega | (simp <;> omega))) | apply Blk.three | apply Blk.seven | apply Blk.nine | (refine Blk.far ?_ ?z _; case z => ((try dsimp only); (first | omega | (simp <;> omega)))) | refine Blk.alloc ?_ _ | refine Blk.drew ?_ | refine Blk.turnTo ?_ (ho (by assumption)) ?_ | refine Blk.belowB ?_ (ho (by assumption)) ?_) <;> (first | omega | (simp <;> omega)))
            case k1 | k2 => exact (by with_reducible (repeat first | exact kR _ _ _ | assumption | exact ho (by assumption) | refine kD ?_ | refine kA ?_ _ | refine kS ?_ ?_ _ | refine kC ?_ (ho (by assumption))) <;> (first | omega | (simp <;> omega)))
      · go_wp2
        refine hK _ _ (by with_reducible (repeat first | exact bR _ _ | assumption | exact ho (by assumption) | refine bD ?_ | refine bA ?_ ?_ _ | refine bS ?_ ?_ _ | refine bC ?_ (ho (by assumption)) ?_) <;> (first | omega | (simp <;> omega))) (fun hS => ?_)
        clear hK
        try simp only [Act.put, gA, gB, gC, sA, sB, sC]
        refine wpL.eff 1 rfl (by kernel_rfl) rfl ?_
        intro K hK
        go_wp2_with fail
        (with_reducible refine Calls.mono (HLD.out _ (by with_reducible (repeat first | exact bR _ _ | assumption | exact ho (by assumption) | refine bD ?_ | refine bA ?_ ?_ _ | refine bS ?_ ?_ _ | refine bC ?_ (ho (by assumption)) ?_) <;> (first | omega | (simp <;> omega)))) ?_)
        rintro e w5 ⟨⟨ax, cx, rfl, hr, hl⟩, hb⟩
        have HR5 := Lib.hid hr
        have HL5 := Lib.hid hl
        obtain ⟨hc_w5, hf_w5⟩ := bcell hb
        have HB_w5 : Hid (Below W0.heap.size W0 w5) := Lib.hid (below_step (by with_reducible (repeat first | exact bR _ _ | assumption | exact ho (by assumption) | refine bD ?_ | refine bN ?_ _ | refine bA ?_ ?_ _ | refine bS ?_ ?_ _) <;> (first | omega | (simp <;> omega))) hb)
        have hs_w5 := hb.size
        try simp only [World.size_alloc, sz_set, sz_drew, sz_drewN] at hs_w5
        have HK_w5 := Lib.hid hb
        have HC_w5 := Lib.hid (callTo hb)
        clear hb
        try have l0_w5 : W0.heap.size < w5.heap.size := by omega
        try have n0_w5 : W0.heap.size ≠ w5.heap.size := by omega
        try have l1_w5 : W0.heap.size + 1 < w5.heap.size := by omega
        try have n1_w5 : W0.heap.size + 1 ≠ w5.heap.size := by omega
        clear hr hl
        refine hK _ _ (by with_reducible (repeat first | exact bR _ _ | assumption | exact ho (by assumption) | refine bD ?_ | refine bA ?_ ?_ _ | refine bS ?_ ?_ _ | refine bC ?_ (ho (by assumption)) ?_) <;> (first | omega | (simp <;> omega))) (fun hS => ?_)
        clear hK
        try simp only [Act.put, gA, gB, gC, sA, sB, sC]
        refine wpL.eff 3 rfl (by kernel_rfl) rfl ?_
        intro K hK
        go_wp2_with fail
        (with_reducible refine Calls.mono (HLE.out _ (by with_reducible (repeat first | exact bR _ _ | assumption | exact ho (by assumption) | refine bD ?_ | refine bA ?_ ?_ _ | refine bS ?_ ?_ _ | refine bC ?_ (ho (by assumption)) ?_) <;> (first | omega | (simp <;> omega)))) ?_)
        rintro e w6 ⟨⟨az, cz, rfl, hr, hl⟩, hb⟩
        have HR6 := Lib.hid hr
        have HL6 := Lib.hid hl
        obtain ⟨hc_w6, hf_w6⟩ := bcell hb
        have HB_w6 : Hid (Below W0.heap.size W0 w6) := Lib.hid (below_step (by with_reducible (repeat first | exact bR _ _ | assumption | exact ho (by assumption) | refine bD ?_ | refine bN ?_ _ | refine bA ?_ ?_ _ | refine bS ?_ ?_ _) <;> (first | omega | (simp <;> omega))) hb)
        have hs_w6 := hb.size
        try simp only [World.size_alloc, sz_set, sz_drew, sz_drewN] at hs_w6
        have HK_w6 := Lib.hid hb
        have HC_w6 := Lib.hid (callTo hb)
        clear hb
        try have l0_w6 : W0.heap.size < w6.heap.size := by omega
        try have n0_w6 : W0.heap.size ≠ w6.heap.size := by omega
        try have l1_w6 : W0.heap.size + 1 < w6.heap.size := by omega
        try have n1_w6 : W0.heap.size + 1 ≠ w6.heap.size := by omega
        try have l2_w6 : w5.heap.size < w6.heap.size := by omega
        try have n2_w6 : w5.heap.size ≠ w6.heap.size := by omega
        try have l3_w6 : w5.heap.size + 1 < w6.heap.size := by omega
        try have n3_w6 : w5.heap.size + 1 ≠ w6.heap.size := by omega
        clear hr hl
        refine hK _ _ (by with_reducible (repeat first | exact bR _ _ | assumption | exact ho (by assumption) | refine bD ?_ | refine bA ?_ ?_ _ | refine bS ?_ ?_ _ | refine bC ?_ (ho (by assumption)) ?_) <;> (first | omega | (simp <;> omega))) (fun hS => ?_)
        clear hK
        try simp only [Act.put, gA, gB, gC, sA, sB, sC]
        refine wpL.eff 6 rfl (by kernel_rfl) rfl ?_
        intro K hK
        go_wp2
        refine hK _ _ (by with_reducible (repeat first | exact bR _ _ | assumption | exact ho (by assumption) | refine bD ?_ | refine bA ?_ ?_ _ | refine bS ?_ ?_ _ | refine bC ?_ (ho (by assumption)) ?_) <;> (first | omega | (simp <;> omega))) (fun hS => ?_)
        clear hK
        try simp only [Act.put, gA, gB, gC, sA, sB, sC]
        refine wpL.last 7 rfl (by kernel_rfl) rfl (by kernel_rfl) rfl ?_
        go_wp2_with fail
        go_meet
        case rel =>
          refine ⟨_, _, ax, cx, az, cz, rfl, rfl, Lib.hid ?b1, Lib.hid ?b2, Lib.hid ⟨(HR5.out.kp ?k1).rd, HL5.out⟩, Lib.hid ⟨(HR6.out.kp ?k2).rd, HL6.out⟩, Lib.hid (by with_reducible (repeat first | exact bR _ _ | assumption | exact ho (by assumption) | refine bD ?_ | refine bA ?_ ?_ _ | refine bS ?_ ?_ _ | refine bC ?_ (ho (by assumption)) ?_) <;> (first | omega | (simp <;> omega)))⟩
          case b1 | b2 => exact (by with_reducible (repeat first | assumption | exact ho (by assumption) | (refine Blk.newAt ?z; case z => first | rfl | (first | omega | (simp <;> omega))) | apply Blk.three | apply Blk.seven | apply Blk.nine | (refine Blk.far ?_ ?z _; case z => ((try dsimp only); (first | omega | (simp <;> omega)))) | refine Blk.alloc ?_ _ | refine Blk.drew ?_ | refine Blk.turnTo ?_ (ho (by assumption)) ?_ | refine Blk.belowB ?_ (ho (by assumption)) ?_) <;> (first | omega | (simp <;> omega)))
          case k1 | k2 => exact (by with_reducible (repeat first | exact kR _ _ _ | assumption | exact ho (by assumption) | refine kD ?_ | refine kA ?_ _ | refine kS ?_ ?_ _ | refine kC ?_ (ho (by assumption))) <;> (first | omega | (simp <;> omega)))
  case rest =>
    obtain ⟨bx, bz, ax, cx, az, cz, rfl, rfl, HKX, HKZ, HRX, HRZ, HBx⟩ := hcut
    have HBw : Hid (Below w.heap.size w wc) := Lib.hid (HB_W0.out.trans (HBx.out.mono HB_W0.out.size))
    have J0 := Lib.hid (K0.out.belowB HBx.out z0)
    have J1 := Lib.hid (K1.out.belowB HBx.out z1)
    have J2 := Lib.hid (K2.out.belowB HBx.out z2)
    clear a0 a1 a2 b0 b1 b2 K0 K1 K2 z0 z1 z2 HB_W0 HBx HLD HLE
    obtain ⟨c0, c1, c2, c3, c4, c5, c6⟩ := par_cells J0.out
    obtain ⟨a0, a1, a2⟩ := el_cells J1.out
    obtain ⟨b0, b1, b2⟩ := el_cells J2.out
    obtain ⟨x0, x1, x2⟩ := el_cells HKX.out
    obtain ⟨y0, y1, y2⟩ := el_cells HKZ.out
    have m0 : w.heap.size < wc.heap.size := J0.out.lt
    have m1 : w.heap.size + 1 < wc.heap.size := J1.out.lt
    have m2 : w.heap.size + 1 + 1 < wc.heap.size := J2.out.lt
    have m3 : bx < wc.heap.size := HKX.out.lt
    have m4 : bz < wc.heap.size := HKZ.out.lt
    go_wp2_with fail
    (with_reducible refine Calls.mono (HPR0.out _ _ _ _ _ (by with_reducible (repeat first | exact bR _ _ | assumption | exact ho (by assumption) | refine bD ?_ | refine bA ?_ ?_ _ | refine bS ?_ ?_ _ | refine bC ?_ (ho (by assumption)) ?_) <;> (first | omega | (simp <;> omega))) HRX.out.1 HRX.out.2.1 HRX.out.2.2 HRZ.out.1 HRZ.out.2.1 HRZ.out.2.2) ?_)
    rintro e w7 ⟨⟨a7, c7, rfl, hr, hl, hsp⟩, hb⟩
    have HR7 := Lib.hid hr
    have HSP := Lib.hid hsp
    obtain ⟨hc_w7, hf_w7⟩ := bcell hb
    have HB_w7 : Hid (Below wc.heap.size wc w7) := Lib.hid (below_step (by with_reducible (repeat first | exact bR _ _ | assumption | exact ho (by assumption) | refine bD ?_ | refine bN ?_ _ | refine bA ?_ ?_ _ | refine bS ?_ ?_ _) <;> (first | omega | (simp <;> omega))) hb)
    have hs_w7 := hb.size
    try simp only [World.size_alloc, sz_set, sz_drew, sz_drewN] at hs_w7
    have HK_w7 := Lib.hid hb
    have HC_w7 := Lib.hid (callTo hb)
    clear hb
    have u0_0_w7 : w.heap.size < w7.heap.size := by omega
    have u0_1_w7 : w.heap.size < w7.heap.size + 1 := by omega
    have u0_2_w7 : w.heap.size < w7.heap.size + 1 + 1 := by omega
    have u0_3_w7 : w.heap.size < w7.heap.size + 1 + 1 + 1 := by omega
    have u1_0_w7 : w.heap.size + 1 < w7.heap.size := by omega
    have u1_1_w7 : w.heap.size + 1 < w7.heap.size + 1 := by omega
    have u1_2_w7 : w.heap.size + 1 < w7.heap.size + 1 + 1 := by omega
    have u1_3_w7 : w.heap.size + 1 < w7.heap.size + 1 + 1 + 1 := by omega
    have u2_0_w7 : w.heap.size + 1 + 1 < w7.heap.size := by omega
    have u2_1_w7 : w.heap.size + 1 + 1 < w7.heap.size + 1 := by omega
    have u2_2_w7 : w.heap.size + 1 + 1 < w7.heap.size + 1 + 1 := by omega
    have u2_3_w7 : w.heap.size + 1 + 1 < w7.heap.size + 1 + 1 + 1 := by omega
    have u3_0_w7 : bx < w7.heap.size := by omega
    have u3_1_w7 : bx < w7.heap.size + 1 := by omega
    have u3_2_w7 : bx < w7.heap.size + 1 + 1 := by omega
    have u3_3_w7 : bx < w7.heap.size + 1 + 1 + 1 := by omega
    have u4_0_w7 : bz < w7.heap.size := by omega
    have u4_1_w7 : bz < w7.heap.size + 1 := by omega
    have u4_2_w7 : bz < w7.heap.size + 1 + 1 := by omega
    have u4_3_w7 : bz < w7.heap.size + 1 + 1 + 1 := by omega
    clear hr hl hsp
    go_wp2_with fail
    (with_reducible refine Calls.mono (HRF0.out _ (by with_reducible (repeat first | exact bR _ _ | assumption | exact ho (by assumption) | refine bD ?_ | refine bA ?_ ?_ _ | refine bS ?_ ?_ _ | refine bC ?_ (ho (by assumption)) ?_) <;> (first | omega | (simp <;> omega)))) ?_)
    rintro e w8 ⟨⟨a8, c8, rfl, hr, hl⟩, hb⟩
    have HR8 := Lib.hid hr
    obtain ⟨hc_w8, hf_w8⟩ := bcell hb
    have HB_w8 : Hid (Below wc.heap.size wc w8) := Lib.hid (below_step (by with_reducible (repeat first | exact bR _ _ | assumption | exact ho (by assumption) | refine bD ?_ | refine bN ?_ _ | refine bA ?_ ?_ _ | refine bS ?_ ?_ _) <;> (first | omega | (simp <;> omega))) hb)
    have hs_w8 := hb.size
    try simp only [World.size_alloc, sz_set, sz_drew, sz_drewN] at hs_w8
    have HK_w8 := Lib.hid hb
    have HC_w8 := Lib.hid (callTo hb)
    clear hb
    have u0_0_w8 : w.heap.size < w8.heap.size := by omega
    have u0_1_w8 : w.heap.size < w8.heap.size + 1 := by omega
    have u0_2_w8 : w.heap.size < w8.heap.size + 1 + 1 := by omega
    have u0_3_w8 : w.heap.size < w8.heap.size + 1 + 1 + 1 := by omega
    have u1_0_w8 : w.heap.size + 1 < w8.heap.size := by omega
    have u1_1_w8 : w.heap.size + 1 < w8.heap.size + 1 := by omega
    have u1_2_w8 : w.heap.size + 1 < w8.heap.size + 1 + 1 := by omega
    have u1_3_w8 : w.heap.size + 1 < w8.heap.size + 1 + 1 + 1 := by omega
    have u2_0_w8 : w.heap.size + 1 + 1 < w8.heap.size := by omega
    have u2_1_w8 : w.heap.size + 1 + 1 < w8.heap.size + 1 := by omega
    have u2_2_w8 : w.heap.size + 1 + 1 < w8.heap.size + 1 + 1 := by omega
    have u2_3_w8 : w.heap.size + 1 + 1 < w8.heap.size + 1 + 1 + 1 := by omega
    have u3_0_w8 : bx < w8.heap.size := by omega
    have u3_1_w8 : bx < w8.heap.size + 1 := by omega
    have u3_2_w8 : bx < w8.heap.size + 1 + 1 := by omega
    have u3_3_w8 : bx < w8.heap.size + 1 + 1 + 1 := by omega
    have u4_0_w8 : bz < w8.heap.size := by omega
    have u4_1_w8 : bz < w8.heap.size + 1 := by omega
    have u4_2_w8 : bz < w8.heap.size + 1 + 1 := by omega
    have u4_3_w8 : bz < w8.heap.size + 1 + 1 + 1 := by omega
    have u5_0_w8 : w7.heap.size < w8.heap.size := by omega
    have u5_1_w8 : w7.heap.size < w8.heap.size + 1 := by omega
    have u5_2_w8 : w7.heap.size < w8.heap.size + 1 + 1 := by omega
    have u5_3_w8 : w7.heap.size < w8.heap.size + 1 + 1 + 1 := by omega
    clear hr hl
    go_wp2_with fail
    (with_reducible refine Calls.mono (HSC0.out _ _ _ _ _ (HR7.out.rd.below (by with_reducible (repeat first | exact bR _ _ | assumption | exact ho (by assumption) | refine bD ?_ | refine bA ?_ ?_ _ | refine bS ?_ ?_ _ | refine bC ?_ (ho (by assumption)) ?_) <;> (first | omega | (simp <;> omega)))) (HR8.out.rd.below (by with_reducible (repeat first | exact bR _ _ | assumption | exact ho (by assumption) | refine bD ?_ | refine bA ?_ ?_ _ | refine bS ?_ ?_ _ | refine bC ?_ (ho (by assumption)) ?_) <;> (first | omega | (simp <;> omega))))) ?_)
    rintro e w9 ⟨rfl, hb⟩
    obtain ⟨hc_w9, hf_w9⟩ := bcell hb
    have HB_w9 : Hid (Below wc.heap.size wc w9) := Lib.hid (below_step (by with_reducible (repeat first | exact bR _ _ | assumption | exact ho (by assumption) | refine bD ?_ | refine bN ?_ _ | refine bA ?_ ?_ _ | refine bS ?_ ?_ _) <;> (first | omega | (simp <;> omega))) hb)
    have hs_w9 := hb.size
    try simp only [World.size_alloc, sz_set, sz_drew, sz_drewN] at hs_w9
    have HK_w9 := Lib.hid hb
    have HC_w9 := Lib.hid (callTo hb)
    clear hb
    have u0_0_w9 : w.heap.size < w9.heap.size := by omega
    have u0_1_w9 : w.heap.size < w9.heap.size + 1 := by omega
    have u0_2_w9 : w.heap.size < w9.heap.size + 1 + 1 := by omega
    have u0_3_w9 : w.heap.size < w9.heap.size + 1 + 1 + 1 := by omega
    have u1_0_w9 : w.heap.size + 1 < w9.heap.size := by omega
    have u1_1_w9 : w.heap.size + 1 < w9.heap.size + 1 := by omega
    have u1_2_w9 : w.heap.size + 1 < w9.heap.size + 1 + 1 := by omega
    have u1_3_w9 : w.heap.size + 1 < w9.heap.size + 1 + 1 + 1 := by omega
    have u2_0_w9 : w.heap.size + 1 + 1 < w9.heap.size := by omega
    have u2_1_w9 : w.heap.size + 1 + 1 < w9.heap.size + 1 := by omega
    have u2_2_w9 : w.heap.size + 1 + 1 < w9.heap.size + 1 + 1 := by omega
    have u2_3_w9 : w.heap.size + 1 + 1 < w9.heap.size + 1 + 1 + 1 := by omega
    have u3_0_w9 : bx < w9.heap.size := by omega
    have u3_1_w9 : bx < w9.heap.size + 1 := by omega
    have u3_2_w9 : bx < w9.heap.size + 1 + 1 := by omega
    have u3_3_w9 : bx < w9.heap.size + 1 + 1 + 1 := by omega
    have u4_0_w9 : bz < w9.heap.size := by omega
    have u4_1_w9 : bz < w9.heap.size + 1 := by omega
    have u4_2_w9 : bz < w9.heap.size + 1 + 1 := by omega
    have u4_3_w9 : bz < w9.heap.size + 1 + 1 + 1 := by omega
    have u5_0_w9 : w7.heap.size < w9.heap.size := by omega
    have u5_1_w9 : w7.heap.size < w9.heap.size + 1 := by omega
    have u5_2_w9 : w7.heap.size < w9.heap.size + 1 + 1 := by omega
    have u5_3_w9 : w7.heap.size < w9.heap.size + 1 + 1 + 1 := by omega
    have u6_0_w9 : w8.heap.size < w9.heap.size := by omega
    have u6_1_w9 : w8.heap.size < w9.heap.size + 1 := by omega
    have u6_2_w9 : w8.heap.size < w9.heap.size + 1 + 1 := by omega
    have u6_3_w9 : w8.heap.size < w9.heap.size + 1 + 1 + 1 := by omega
    go_wp2_with fail
    (with_reducible refine Calls.mono (HSP.out _ (by with_reducible (repeat first | exact kR _ _ _ | assumption | exact ho (by assumption) | refine kD ?_ | refine kA ?_ _ | refine kS ?_ ?_ _ | refine kC ?_ (ho (by assumption))) <;> (first | omega | (simp <;> omega)))) ?_)
    rintro e w10 ⟨rfl, hsp⟩
    have HN_w10 : Hid (Below wc.heap.size wc w10) := Lib.hid (HB_w9.out.trans hsp.1)
    obtain ⟨d7, hd7⟩ : ∃ d, w7.heap.size = d := ⟨_, rfl⟩
    obtain ⟨d8, hd8⟩ : ∃ d, w8.heap.size = d := ⟨_, rfl⟩
    have K7_w10 : Hid (Blk w10 d7 28 #[.int .i64 CL0, .int .i64 CX0, .slice a7 cl0 c7]) := Lib.hid (hsp.blk (by decide) (by rw [← hd7]; exact (by with_reducible (repeat first | assumption | exact ho (by assumption) | (refine Blk.newAt ?z; case z => first | rfl | (first | omega | (simp <;> omega))) | apply Blk.three | apply Blk.seven | apply Blk.nine | (refine Blk.far ?_ ?z _; case z => ((try dsimp only); (first | omega | (simp <;> omega)))) | refine Blk.alloc ?_ _ | refine Blk.drew ?_ | refine Blk.turnTo ?_ (ho (by assumption)) ?_ | refine Blk.belowB ?_ (ho (by assumption)) ?_) <;> (first | omega | (simp <;> omega)))))
    have K8_w10 : Hid (Blk w10 d8 28 #[.int .i64 CL0, .int .i64 CX0, .slice a8 cl0 c8]) := Lib.hid (hsp.blk (by decide) (by rw [← hd8]; exact (by with_reducible (repeat first | assumption | exact ho (by assumption) | (refine Blk.newAt ?z; case z => first | rfl | (first | omega | (simp <;> omega))) | apply Blk.three | apply Blk.seven | apply Blk.nine | (refine Blk.far ?_ ?z _; case z => ((try dsimp only); (first | omega | (simp <;> omega)))) | refine Blk.alloc ?_ _ | refine Blk.drew ?_ | refine Blk.turnTo ?_ (ho (by assumption)) ?_ | refine Blk.belowB ?_ (ho (by assumption)) ?_) <;> (first | omega | (simp <;> omega)))))
    have hd78 : d7 < d8 := by omega
    have hwd : wc.heap.size ≤ d7 := by omega
    rw [hd7, hd8]
    have HSZ : Hid (wc.heap.size ≤ w10.heap.size) := Lib.hid HN_w10.out.size
    clear hd7 hd8 hsp HSP HR7 HR8 HB_w7 HK_w7 HC_w7 hc_w7 hf_w7 hs_w7 HB_w8 HK_w8 HC_w8 hc_w8 hf_w8 hs_w8 HB_w9 HK_w9 HC_w9 hc_w9 hf_w9 hs_w9 HSC0 HRF0 HPR0
    clear u0_0_w7 u0_1_w7 u0_2_w7 u0_3_w7 u1_0_w7 u1_1_w7 u1_2_w7 u1_3_w7 u2_0_w7 u2_1_w7 u2_2_w7 u2_3_w7 u3_0_w7 u3_1_w7 u3_2_w7 u3_3_w7 u4_0_w7 u4_1_w7 u4_2_w7 u4_3_w7
    clear c0 c1 c2 c3 c4 c5 c6 a0 a1 a2 b0 b1 b2 x0 x1 x2 y0 y1 y2
    have J0_w10 := Lib.hid (J0.out.belowB HN_w10.out m0)
    have J1_w10 := Lib.hid (J1.out.belowB HN_w10.out m1)
    have J2_w10 := Lib.hid (J2.out.belowB HN_w10.out m2)
    have JX_w10 := Lib.hid (HKX.out.belowB HN_w10.out m3)
    have JZ_w10 := Lib.hid (HKZ.out.belowB HN_w10.out m4)
    have HBw_w10 : Hid (Below w.heap.size w w10) := Lib.hid (HBw.out.trans (HN_w10.out.mono HBw.out.size))
    obtain ⟨c0, c1, c2, c3, c4, c5, c6⟩ := par_cells J0_w10.out
    obtain ⟨a0, a1, a2⟩ := el_cells J1_w10.out
    obtain ⟨b0, b1, b2⟩ := el_cells J2_w10.out
    obtain ⟨x0, x1, x2⟩ := el_cells JX_w10.out
    obtain ⟨y0, y1, y2⟩ := el_cells JZ_w10.out
    obtain ⟨r0, r1, r2⟩ := el_cells K7_w10.out
    obtain ⟨s0, s1, s2⟩ := el_cells K8_w10.out
    have g7 := K7_w10.out.free
    have g8 := K8_w10.out.free
    have m0_w10 : w.heap.size < w10.heap.size := J0_w10.out.lt
    have m1_w10 : w.heap.size + 1 < w10.heap.size := J1_w10.out.lt
    have m2_w10 : w.heap.size + 1 + 1 < w10.heap.size := J2_w10.out.lt
    have m3_w10 : bx < w10.heap.size := JX_w10.out.lt
    have m4_w10 : bz < w10.heap.size := JZ_w10.out.lt
    have m5_w10 : d7 < w10.heap.size := K7_w10.out.lt
    have m6_w10 : d8 < w10.heap.size := K8_w10.out.lt
    have hs10 := HSZ.out
    go_wp2_with fail
    (with_reducible refine Calls.mono (HPR1.out _ _ _ _ _ HBw_w10.out (HRX.out.1.below' HN_w10.out) HRX.out.2.1 HRX.out.2.2 (HRZ.out.1.below' HN_w10.out) HRZ.out.2.1 HRZ.out.2.2) ?_)
    rintro e w11 ⟨⟨a11, c11, rfl, hr, hl, hsp⟩, hb⟩
    have HR11 := Lib.hid hr
    have HSP := Lib.hid hsp
    obtain ⟨hc_w11, hf_w11⟩ := bcell hb
    have HB_w11 : Hid (Below w10.heap.size w10 w11) := Lib.hid (below_step (by with_reducible (repeat first | exact bR _ _ | assumption | exact ho (by assumption) | refine bD ?_ | refine bN ?_ _ | refine bA ?_ ?_ _ | refine bS ?_ ?_ _) <;> (first | omega | (simp <;> omega))) hb)
    have hs_w11 := hb.size
    try simp only [World.size_alloc, sz_set, sz_drew, sz_drewN] at hs_w11
    have HK_w11 := Lib.hid hb
    have HC_w11 := Lib.hid (callTo hb)
    clear hb
    have u0_0_w11 : w.heap.size < w11.heap.size := by omega
    have u0_1_w11 : w.heap.size < w11.heap.size + 1 := by omega
    have u0_2_w11 : w.heap.size < w11.heap.size + 1 + 1 := by omega
    have u0_3_w11 : w.heap.size < w11.heap.size + 1 + 1 + 1 := by omega
    have u1_0_w11 : w.heap.size + 1 < w11.heap.size := by omega
    have u1_1_w11 : w.heap.size + 1 < w11.heap.size + 1 := by omega
    have u1_2_w11 : w.heap.size + 1 < w11.heap.size + 1 + 1 := by omega
    have u1_3_w11 : w.heap.size + 1 < w11.heap.size + 1 + 1 + 1 := by omega
    have u2_0_w11 : w.heap.size + 1 + 1 < w11.heap.size := by omega
    have u2_1_w11 : w.heap.size + 1 + 1 < w11.heap.size + 1 := by omega
    have u2_2_w11 : w.heap.size + 1 + 1 < w11.heap.size + 1 + 1 := by omega
    have u2_3_w11 : w.heap.size + 1 + 1 < w11.heap.size + 1 + 1 + 1 := by omega
    have u3_0_w11 : bx < w11.heap.size := by omega
    have u3_1_w11 : bx < w11.heap.size + 1 := by omega
    have u3_2_w11 : bx < w11.heap.size + 1 + 1 := by omega
    have u3_3_w11 : bx < w11.heap.size + 1 + 1 + 1 := by omega
    have u4_0_w11 : bz < w11.heap.size := by omega
    have u4_1_w11 : bz < w11.heap.size + 1 := by omega
    have u4_2_w11 : bz < w11.heap.size + 1 + 1 := by omega
    have u4_3_w11 : bz < w11.heap.size + 1 + 1 + 1 := by omega
    have u5_0_w11 : d7 < w11.heap.size := by omega
    have u5_1_w11 : d7 < w11.heap.size + 1 := by omega
    have u5_2_w11 : d7 < w11.heap.size + 1 + 1 := by omega
    have u5_3_w11 : d7 < w11.heap.size + 1 + 1 + 1 := by omega
    have u6_0_w11 : d8 < w11.heap.size := by omega
    have u6_1_w11 : d8 < w11.heap.size + 1 := by omega
    have u6_2_w11 : d8 < w11.heap.size + 1 + 1 := by omega
    have u6_3_w11 : d8 < w11.heap.size + 1 + 1 + 1 := by omega
    clear hr hl hsp
    go_upto_region 10 with fail
    refine gen_w _ _ (fun W1 hW1 => ?_)
    have HN_W1 : Hid (Below wc.heap.size wc W1) := Lib.hid (by rw [hW1]; exact (by with_reducible (repeat first | exact bR _ _ | assumption | exact ho (by assumption) | refine bD ?_ | refine bA ?_ ?_ _ | refine bS ?_ ?_ _ | refine bC ?_ (ho (by assumption)) ?_) <;> (first | omega | (simp <;> omega))))
    have K7_W1 : Hid (Blk W1 d7 28 #[.int .i64 CL1, .int .i64 CX1, .slice a11 cl1 c11]) := Lib.hid (by rw [hW1]; exact (by with_reducible (repeat first | assumption | exact ho (by assumption) | (refine Blk.newAt ?z; case z => first | rfl | (first | omega | (simp <;> omega))) | apply Blk.three | apply Blk.seven | apply Blk.nine | (refine Blk.far ?_ ?z _; case z => ((try dsimp only); (first | omega | (simp <;> omega)))) | refine Blk.alloc ?_ _ | refine Blk.drew ?_ | refine Blk.turnTo ?_ (ho (by assumption)) ?_ | refine Blk.belowB ?_ (ho (by assumption)) ?_) <;> (first | omega | (simp <;> omega))))
    have K8_W1 : Hid (Blk W1 d8 28 #[.int .i64 CL0, .int .i64 CX0, .slice a8 cl0 c8]) := Lib.hid (by rw [hW1]; exact (by with_reducible (repeat first | assumption | exact ho (by assumption) | (refine Blk.newAt ?z; case z => first | rfl | (first | omega | (simp <;> omega))) | apply Blk.three | apply Blk.seven | apply Blk.nine | (refine Blk.far ?_ ?z _; case z => ((try dsimp only); (first | omega | (simp <;> omega)))) | refine Blk.alloc ?_ _ | refine Blk.drew ?_ | refine Blk.turnTo ?_ (ho (by assumption)) ?_ | refine Blk.belowB ?_ (ho (by assumption)) ?_) <;> (first | omega | (simp <;> omega))))
    have HR1 : Hid (RdEN W1 w10.heap.size a11 P1) := Lib.hid (HR11.out.kp (by rw [hW1]; exact (by with_reducible (repeat first | exact kR _ _ _ | assumption | exact ho (by assumption) | refine kD ?_ | refine kA ?_ _ | refine kS ?_ ?_ _ | refine kC ?_ (ho (by assumption))) <;> (first | omega | (simp <;> omega)))))
    have HK1 : Hid (Kp elT w10.heap.size w11 W1) := Lib.hid (by rw [hW1]; exact (by with_reducible (repeat first | exact kR _ _ _ | assumption | exact ho (by assumption) | refine kD ?_ | refine kA ?_ _ | refine kS ?_ ?_ _ | refine kC ?_ (ho (by assumption))) <;> (first | omega | (simp <;> omega))))
    have HSZ1 : Hid (w10.heap.size ≤ W1.heap.size) := Lib.hid (by rw [hW1]; (first | omega | (simp only [World.size_alloc, sz_set, sz_drew, sz_drewN]; done) | (simp only [World.size_alloc, sz_set, sz_drew, sz_drewN]; omega)))
    clear hW1 HR11 HB_w11 HK_w11 HC_w11 hc_w11 hf_w11 hs_w11
    clear r0 r1 r2 s0 s1 s2 g7 g8 c0 c1 c2 c3 c4 c5 c6 a0 a1 a2 b0 b1 b2 x0 x1 x2 y0 y1 y2
    have J0_W1 := Lib.hid (J0.out.belowB HN_W1.out m0)
    have J1_W1 := Lib.hid (J1.out.belowB HN_W1.out m1)
    have J2_W1 := Lib.hid (J2.out.belowB HN_W1.out m2)
    have JX_W1 := Lib.hid (HKX.out.belowB HN_W1.out m3)
    have JZ_W1 := Lib.hid (HKZ.out.belowB HN_W1.out m4)
    have HBw_W1 : Hid (Below w.heap.size w W1) := Lib.hid (HBw.out.trans (HN_W1.out.mono HBw.out.size))
    obtain ⟨c0, c1, c2, c3, c4, c5, c6⟩ := par_cells J0_W1.out
    obtain ⟨a0, a1, a2⟩ := el_cells J1_W1.out
    obtain ⟨b0, b1, b2⟩ := el_cells J2_W1.out
    obtain ⟨x0, x1, x2⟩ := el_cells JX_W1.out
    obtain ⟨y0, y1, y2⟩ := el_cells JZ_W1.out
    obtain ⟨r0, r1, r2⟩ := el_cells K7_W1.out
    obtain ⟨s0, s1, s2⟩ := el_cells K8_W1.out
    have g7 := K7_W1.out.free
    have g8 := K8_W1.out.free
    have m0_W1 : w.heap.size < W1.heap.size := J0_W1.out.lt
    have m1_W1 : w.heap.size + 1 < W1.heap.size := J1_W1.out.lt
    have m2_W1 : w.heap.size + 1 + 1 < W1.heap.size := J2_W1.out.lt
    have m3_W1 : bx < W1.heap.size := JX_W1.out.lt
    have m4_W1 : bz < W1.heap.size := JZ_W1.out.lt
    have m5_W1 : d7 < W1.heap.size := K7_W1.out.lt
    have m6_W1 : d8 < W1.heap.size := K8_W1.out.lt
    go_wp2_with fail
    (with_reducible refine Calls.mono (HRF1.out _ HBw_W1.out) ?_)
    rintro e w12 ⟨⟨a12, c12, rfl, hr, hl⟩, hb⟩
    have HR12 := Lib.hid hr
    have HCW1 := Lib.hid (callTo hb)
    obtain ⟨hc_w12, hf_w12⟩ := bcell hb
    have HB_w12 : Hid (Below W1.heap.size W1 w12) := Lib.hid (below_step (by with_reducible (repeat first | exact bR _ _ | assumption | exact ho (by assumption) | refine bD ?_ | refine bN ?_ _ | refine bA ?_ ?_ _ | refine bS ?_ ?_ _) <;> (first | omega | (simp <;> omega))) hb)
    have hs_w12 := hb.size
    try simp only [World.size_alloc, sz_set, sz_drew, sz_drewN] at hs_w12
    have HK_w12 := Lib.hid hb
    have HC_w12 := Lib.hid (callTo hb)
    clear hb
    have u0_0_w12 : w.heap.size < w12.heap.size := by omega
    have u0_1_w12 : w.heap.size < w12.heap.size + 1 := by omega
    have u0_2_w12 : w.heap.size < w12.heap.size + 1 + 1 := by omega
    have u0_3_w12 : w.heap.size < w12.heap.size + 1 + 1 + 1 := by omega
    have u1_0_w12 : w.heap.size + 1 < w12.heap.size := by omega
    have u1_1_w12 : w.heap.size + 1 < w12.heap.size + 1 := by omega
    have u1_2_w12 : w.heap.size + 1 < w12.heap.size + 1 + 1 := by omega
    have u1_3_w12 : w.heap.size + 1 < w12.heap.size + 1 + 1 + 1 := by omega
    have u2_0_w12 : w.heap.size + 1 + 1 < w12.heap.size := by omega
    have u2_1_w12 : w.heap.size + 1 + 1 < w12.heap.size + 1 := by omega
    have u2_2_w12 : w.heap.size + 1 + 1 < w12.heap.size + 1 + 1 := by omega
    have u2_3_w12 : w.heap.size + 1 + 1 < w12.heap.size + 1 + 1 + 1 := by omega
    have u3_0_w12 : bx < w12.heap.size := by omega
    have u3_1_w12 : bx < w12.heap.size + 1 := by omega
    have u3_2_w12 : bx < w12.heap.size + 1 + 1 := by omega
    have u3_3_w12 : bx < w12.heap.size + 1 + 1 + 1 := by omega
    have u4_0_w12 : bz < w12.heap.size := by omega
    have u4_1_w12 : bz < w12.heap.size + 1 := by omega
    have u4_2_w12 : bz < w12.heap.size + 1 + 1 := by omega
    have u4_3_w12 : bz < w12.heap.size + 1 + 1 + 1 := by omega
    have u5_0_w12 : d7 < w12.heap.size := by omega
    have u5_1_w12 : d7 < w12.heap.size + 1 := by omega
    have u5_2_w12 : d7 < w12.heap.size + 1 + 1 := by omega
    have u5_3_w12 : d7 < w12.heap.size + 1 + 1 + 1 := by omega
    have u6_0_w12 : d8 < w12.heap.size := by omega
    have u6_1_w12 : d8 < w12.heap.size + 1 := by omega
    have u6_2_w12 : d8 < w12.heap.size + 1 + 1 := by omega
    have u6_3_w12 : d8 < w12.heap.size + 1 + 1 + 1 := by omega
    clear hr hl
    have hs1' := HSZ1.out
    go_upto_region 11 with fail
    refine gen_w _ _ (fun W2 hW2 => ?_)
    have HN_W2 : Hid (Below wc.heap.size wc W2) := Lib.hid (by rw [hW2]; exact (by with_reducible (repeat first | exact bR _ _ | assumption | exact ho (by assumption) | refine bD ?_ | refine bA ?_ ?_ _ | refine bS ?_ ?_ _ | refine bC ?_ (ho (by assumption)) ?_) <;> (first | omega | (simp <;> omega))))
    have K7_W2 : Hid (Blk W2 d7 28 #[.int .i64 CL1, .int .i64 CX1, .slice a11 cl1 c11]) := Lib.hid (by rw [hW2]; exact (by with_reducible (repeat first | assumption | exact ho (by assumption) | (refine Blk.newAt ?z; case z => first | rfl | (first | omega | (simp <;> omega))) | apply Blk.three | apply Blk.seven | apply Blk.nine | (refine Blk.far ?_ ?z _; case z => ((try dsimp only); (first | omega | (simp <;> omega)))) | refine Blk.alloc ?_ _ | refine Blk.drew ?_ | refine Blk.turnTo ?_ (ho (by assumption)) ?_ | refine Blk.belowB ?_ (ho (by assumption)) ?_) <;> (first | omega | (simp <;> omega))))
    have K8_W2 : Hid (Blk W2 d8 28 #[.int .i64 CL1, .int .i64 CX1, .slice a12 cl1 c12]) := Lib.hid (by rw [hW2]; exact (by with_reducible (repeat first | assumption | exact ho (by assumption) | (refine Blk.newAt ?z; case z => first | rfl | (first | omega | (simp <;> omega))) | apply Blk.three | apply Blk.seven | apply Blk.nine | (refine Blk.far ?_ ?z _; case z => ((try dsimp only); (first | omega | (simp <;> omega)))) | refine Blk.alloc ?_ _ | refine Blk.drew ?_ | refine Blk.turnTo ?_ (ho (by assumption)) ?_ | refine Blk.belowB ?_ (ho (by assumption)) ?_) <;> (first | omega | (simp <;> omega))))
    have HR2 : Hid (RdEN W2 w10.heap.size a11 P1) := Lib.hid (HR1.out.kp (by rw [hW2]; exact (by with_reducible (repeat first | exact kR _ _ _ | assumption | exact ho (by assumption) | refine kD ?_ | refine kA ?_ _ | refine kS ?_ ?_ _ | refine kC ?_ (ho (by assumption))) <;> (first | omega | (simp <;> omega)))))
    have HR3 : Hid (RdE W2 a12 P1) := Lib.hid ((HR12.out.kp (by rw [hW2]; exact (by with_reducible (repeat first | exact kR _ _ _ | assumption | exact ho (by assumption) | refine kD ?_ | refine kA ?_ _ | refine kS ?_ ?_ _ | refine kC ?_ (ho (by assumption))) <;> (first | omega | (simp <;> omega))))).rd)
    have HK2 : Hid (Kp elT w10.heap.size w11 W2) := Lib.hid (HK1.out.trans (by rw [hW2]; exact (by with_reducible (repeat first | exact kR _ _ _ | assumption | exact ho (by assumption) | refine kD ?_ | refine kA ?_ _ | refine kS ?_ ?_ _ | refine kC ?_ (ho (by assumption))) <;> (first | omega | (simp <;> omega)))))
    clear hW2 HR12 HB_w12 HK_w12 HC_w12 hc_w12 hf_w12 hs_w12 HR1 HK1 HCW1
    clear r0 r1 r2 s0 s1 s2 g7 g8 c0 c1 c2 c3 c4 c5 c6 a0 a1 a2 b0 b1 b2 x0 x1 x2 y0 y1 y2
    have J0_W2 := Lib.hid (J0.out.belowB HN_W2.out m0)
    have J1_W2 := Lib.hid (J1.out.belowB HN_W2.out m1)
    have J2_W2 := Lib.hid (J2.out.belowB HN_W2.out m2)
    have JX_W2 := Lib.hid (HKX.out.belowB HN_W2.out m3)
    have JZ_W2 := Lib.hid (HKZ.out.belowB HN_W2.out m4)
    have HBw_W2 : Hid (Below w.heap.size w W2) := Lib.hid (HBw.out.trans (HN_W2.out.mono HBw.out.size))
    obtain ⟨c0, c1, c2, c3, c4, c5, c6⟩ := par_cells J0_W2.out
    obtain ⟨a0, a1, a2⟩ := el_cells J1_W2.out
    obtain ⟨b0, b1, b2⟩ := el_cells J2_W2.out
    obtain ⟨x0, x1, x2⟩ := el_cells JX_W2.out
    obtain ⟨y0, y1, y2⟩ := el_cells JZ_W2.out
    obtain ⟨r0, r1, r2⟩ := el_cells K7_W2.out
    obtain ⟨s0, s1, s2⟩ := el_cells K8_W2.out
    have g7 := K7_W2.out.free
    have g8 := K8_W2.out.free
    have m0_W2 : w.heap.size < W2.heap.size := J0_W2.out.lt
    have m1_W2 : w.heap.size + 1 < W2.heap.size := J1_W2.out.lt
    have m2_W2 : w.heap.size + 1 + 1 < W2.heap.size := J2_W2.out.lt
    have m3_W2 : bx < W2.heap.size := JX_W2.out.lt
    have m4_W2 : bz < W2.heap.size := JZ_W2.out.lt
    have m5_W2 : d7 < W2.heap.size := K7_W2.out.lt
    have m6_W2 : d8 < W2.heap.size := K8_W2.out.lt
    go_wp2_with fail
    (with_reducible refine Calls.mono (HSC1.out _ _ _ _ _ HR2.out.rd HR3.out) ?_)
    rintro e w13 ⟨rfl, hb⟩
    obtain ⟨hc_w13, hf_w13⟩ := bcell hb
    have HB_w13 : Hid (Below W2.heap.size W2 w13) := Lib.hid (below_step (by with_reducible (repeat first | exact bR _ _ | assumption | exact ho (by assumption) | refine bD ?_ | refine bN ?_ _ | refine bA ?_ ?_ _ | refine bS ?_ ?_ _) <;> (first | omega | (simp <;> omega))) hb)
    have hs_w13 := hb.size
    try simp only [World.size_alloc, sz_set, sz_drew, sz_drewN] at hs_w13
    have HK_w13 := Lib.hid hb
    have HC_w13 := Lib.hid (callTo hb)
    clear hb
    have u0_0_w13 : w.heap.size < w13.heap.size := by omega
    have u0_1_w13 : w.heap.size < w13.heap.size + 1 := by omega
    have u0_2_w13 : w.heap.size < w13.heap.size + 1 + 1 := by omega
    have u0_3_w13 : w.heap.size < w13.heap.size + 1 + 1 + 1 := by omega
    have u1_0_w13 : w.heap.size + 1 < w13.heap.size := by omega
    have u1_1_w13 : w.heap.size + 1 < w13.heap.size + 1 := by omega
    have u1_2_w13 : w.heap.size + 1 < w13.heap.size + 1 + 1 := by omega
    have u1_3_w13 : w.heap.size + 1 < w13.heap.size + 1 + 1 + 1 := by omega
    have u2_0_w13 : w.heap.size + 1 + 1 < w13.heap.size := by omega
    have u2_1_w13 : w.heap.size + 1 + 1 < w13.heap.size + 1 := by omega
    have u2_2_w13 : w.heap.size + 1 + 1 < w13.heap.size + 1 + 1 := by omega
    have u2_3_w13 : w.heap.size + 1 + 1 < w13.heap.size + 1 + 1 + 1 := by omega
    have u3_0_w13 : bx < w13.heap.size := by omega
    have u3_1_w13 : bx < w13.heap.size + 1 := by omega
    have u3_2_w13 : bx < w13.heap.size + 1 + 1 := by omega
    have u3_3_w13 : bx < w13.heap.size + 1 + 1 + 1 := by omega
    have u4_0_w13 : bz < w13.heap.size := by omega
    have u4_1_w13 : bz < w13.heap.size + 1 := by omega
    have u4_2_w13 : bz < w13.heap.size + 1 + 1 := by omega
    have u4_3_w13 : bz < w13.heap.size + 1 + 1 + 1 := by omega
    have u5_0_w13 : d7 < w13.heap.size := by omega
    have u5_1_w13 : d7 < w13.heap.size + 1 := by omega
    have u5_2_w13 : d7 < w13.heap.size + 1 + 1 := by omega
    have u5_3_w13 : d7 < w13.heap.size + 1 + 1 + 1 := by omega
    have u6_0_w13 : d8 < w13.heap.size := by omega
    have u6_1_w13 : d8 < w13.heap.size + 1 := by omega
    have u6_2_w13 : d8 < w13.heap.size + 1 + 1 := by omega
    have u6_3_w13 : d8 < w13.heap.size + 1 + 1 + 1 := by omega
    go_wp2_with fail
    (with_reducible refine Calls.mono (HSP.out _ (HK2.out.trans (by with_reducible (repeat first | exact kR _ _ _ | assumption | exact ho (by assumption) | refine kD ?_ | refine kA ?_ _ | refine kS ?_ ?_ _ | refine kC ?_ (ho (by assumption))) <;> (first | omega | (simp <;> omega))))) ?_)
    rintro e w14 ⟨rfl, hsp⟩
    have HN_w13 : Hid (Below wc.heap.size wc w13) := Lib.hid (HN_W2.out.trans (HB_w13.out.mono HN_W2.out.size))
    have HN_w14 : Hid (Below wc.heap.size wc w14) := Lib.hid (HN_w13.out.trans (hsp.1.mono (by omega)))
    have K7_w14 : Hid (Blk w14 d7 28 #[.int .i64 CL1, .int .i64 CX1, .slice a11 cl1 c11]) := Lib.hid (hsp.blk (by decide) (K7_W2.out.belowB HB_w13.out m5_W2))
    have K8_w14 : Hid (Blk w14 d8 28 #[.int .i64 CL1, .int .i64 CX1, .slice a12 cl1 c12]) := Lib.hid (hsp.blk (by decide) (K8_W2.out.belowB HB_w13.out m6_W2))
    clear hsp HR2 HR3 HK2 HSP HB_w13 HK_w13 HC_w13 hc_w13 hf_w13 hs_w13
    clear r0 r1 r2 s0 s1 s2 g7 g8 c0 c1 c2 c3 c4 c5 c6 a0 a1 a2 b0 b1 b2 x0 x1 x2 y0 y1 y2
    have J0_w14 := Lib.hid (J0.out.belowB HN_w14.out m0)
    have J1_w14 := Lib.hid (J1.out.belowB HN_w14.out m1)
    have J2_w14 := Lib.hid (J2.out.belowB HN_w14.out m2)
    have JX_w14 := Lib.hid (HKX.out.belowB HN_w14.out m3)
    have JZ_w14 := Lib.hid (HKZ.out.belowB HN_w14.out m4)
    have HBw_w14 : Hid (Below w.heap.size w w14) := Lib.hid (HBw.out.trans (HN_w14.out.mono HBw.out.size))
    obtain ⟨c0, c1, c2, c3, c4, c5, c6⟩ := par_cells J0_w14.out
    obtain ⟨a0, a1, a2⟩ := el_cells J1_w14.out
    obtain ⟨b0, b1, b2⟩ := el_cells J2_w14.out
    obtain ⟨x0, x1, x2⟩ := el_cells JX_w14.out
    obtain ⟨y0, y1, y2⟩ := el_cells JZ_w14.out
    obtain ⟨r0, r1, r2⟩ := el_cells K7_w14.out
    obtain ⟨s0, s1, s2⟩ := el_cells K8_w14.out
    have g7 := K7_w14.out.free
    have g8 := K8_w14.out.free
    have m0_w14 : w.heap.size < w14.heap.size := J0_w14.out.lt
    have m1_w14 : w.heap.size + 1 < w14.heap.size := J1_w14.out.lt
    have m2_w14 : w.heap.size + 1 + 1 < w14.heap.size := J2_w14.out.lt
    have m3_w14 : bx < w14.heap.size := JX_w14.out.lt
    have m4_w14 : bz < w14.heap.size := JZ_w14.out.lt
    have m5_w14 : d7 < w14.heap.size := K7_w14.out.lt
    have m6_w14 : d8 < w14.heap.size := K8_w14.out.lt
    go_wp2_with fail
    (with_reducible refine Calls.mono (HSA.out _ _ _ _ _ (HRX.out.1.below' HN_w14.out) (HRA.out.below HBw_w14.out)) ?_)
    rintro e v1 ⟨rfl, hb⟩
    obtain ⟨hc_v1, hf_v1⟩ := bcell hb
    have HB_v1 : Hid (Below w14.heap.size w14 v1) := Lib.hid (below_step (by with_reducible (repeat first | exact bR _ _ | assumption | exact ho (by assumption) | refine bD ?_ | refine bN ?_ _ | refine bA ?_ ?_ _ | refine bS ?_ ?_ _) <;> (first | omega | (simp <;> omega))) hb)
    have hs_v1 := hb.size
    try simp only [World.size_alloc, sz_set, sz_drew, sz_drewN] at hs_v1
    have HK_v1 := Lib.hid hb
    have HC_v1 := Lib.hid (callTo hb)
    clear hb
    have u0_0_v1 : w.heap.size < v1.heap.size := by omega
    have u0_1_v1 : w.heap.size < v1.heap.size + 1 := by omega
    have u0_2_v1 : w.heap.size < v1.heap.size + 1 + 1 := by omega
    have u0_3_v1 : w.heap.size < v1.heap.size + 1 + 1 + 1 := by omega
    have u1_0_v1 : w.heap.size + 1 < v1.heap.size := by omega
    have u1_1_v1 : w.heap.size + 1 < v1.heap.size + 1 := by omega
    have u1_2_v1 : w.heap.size + 1 < v1.heap.size + 1 + 1 := by omega
    have u1_3_v1 : w.heap.size + 1 < v1.heap.size + 1 + 1 + 1 := by omega
    have u2_0_v1 : w.heap.size + 1 + 1 < v1.heap.size := by omega
    have u2_1_v1 : w.heap.size + 1 + 1 < v1.heap.size + 1 := by omega
    have u2_2_v1 : w.heap.size + 1 + 1 < v1.heap.size + 1 + 1 := by omega
    have u2_3_v1 : w.heap.size + 1 + 1 < v1.heap.size + 1 + 1 + 1 := by omega
    have u3_0_v1 : bx < v1.heap.size := by omega
    have u3_1_v1 : bx < v1.heap.size + 1 := by omega
    have u3_2_v1 : bx < v1.heap.size + 1 + 1 := by omega
    have u3_3_v1 : bx < v1.heap.size + 1 + 1 + 1 := by omega
    have u4_0_v1 : bz < v1.heap.size := by omega
    have u4_1_v1 : bz < v1.heap.size + 1 := by omega
    have u4_2_v1 : bz < v1.heap.size + 1 + 1 := by omega
    have u4_3_v1 : bz < v1.heap.size + 1 + 1 + 1 := by omega
    have u5_0_v1 : d7 < v1.heap.size := by omega
    have u5_1_v1 : d7 < v1.heap.size + 1 := by omega
    have u5_2_v1 : d7 < v1.heap.size + 1 + 1 := by omega
    have u5_3_v1 : d7 < v1.heap.size + 1 + 1 + 1 := by omega
    have u6_0_v1 : d8 < v1.heap.size := by omega
    have u6_1_v1 : d8 < v1.heap.size + 1 := by omega
    have u6_2_v1 : d8 < v1.heap.size + 1 + 1 := by omega
    have u6_3_v1 : d8 < v1.heap.size + 1 + 1 + 1 := by omega
    go_wp2_with fail
    (with_reducible refine Calls.mono (HSB.out _ _ _ _ _ ((HRZ.out.1.below' HN_w14.out).below (by with_reducible (repeat first | exact bR _ _ | assumption | exact ho (by assumption) | refine bD ?_ | refine bA ?_ ?_ _ | refine bS ?_ ?_ _ | refine bC ?_ (ho (by assumption)) ?_) <;> (first | omega | (simp <;> omega)))) ((HRB.out.below HBw_w14.out).below (by with_reducible (repeat first | exact bR _ _ | assumption | exact ho (by assumption) | refine bD ?_ | refine bA ?_ ?_ _ | refine bS ?_ ?_ _ | refine bC ?_ (ho (by assumption)) ?_) <;> (first | omega | (simp <;> omega))))) ?_)
    rintro e v2 ⟨rfl, hb⟩
    obtain ⟨hc_v2, hf_v2⟩ := bcell hb
    have HB_v2 : Hid (Below w14.heap.size w14 v2) := Lib.hid (below_step (by with_reducible (repeat first | exact bR _ _ | assumption | exact ho (by assumption) | refine bD ?_ | refine bN ?_ _ | refine bA ?_ ?_ _ | refine bS ?_ ?_ _) <;> (first | omega | (simp <;> omega))) hb)
    have hs_v2 := hb.size
    try simp only [World.size_alloc, sz_set, sz_drew, sz_drewN] at hs_v2
    have HK_v2 := Lib.hid hb
    have HC_v2 := Lib.hid (callTo hb)
    clear hb
    go_wp2_with fail
    (with_reducible refine Calls.mono (HAW.out _) ?_)
    rintro e v3 ⟨rfl, hb⟩
    obtain ⟨hc_v3, hf_v3⟩ := bcell hb
    have HB_v3 : Hid (Below w14.heap.size w14 v3) := Lib.hid (below_step (by with_reducible (repeat first | exact bR _ _ | assumption | exact ho (by assumption) | refine bD ?_ | refine bN ?_ _ | refine bA ?_ ?_ _ | refine bS ?_ ?_ _) <;> (first | omega | (simp <;> omega))) hb)
    have hs_v3 := hb.size
    try simp only [World.size_alloc, sz_set, sz_drew, sz_drewN] at hs_v3
    have HK_v3 := Lib.hid hb
    have HC_v3 := Lib.hid (callTo hb)
    clear hb
    go_wp2
    go_ret
    exact ⟨rfl, (by with_reducible (repeat first | exact bR _ _ | assumption | exact ho (by assumption) | refine bD ?_ | refine bA ?_ ?_ _ | refine bS ?_ ?_ _ | refine bC ?_ (ho (by assumption)) ?_) <;> (first | omega | (simp <;> omega)))⟩
end Go.Proofs.YtcipjbckcnkfaaaGreat
