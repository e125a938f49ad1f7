/- ArithTensors, walked. (Printed by genlaw.py.) -/
import Derived.Test.YtcipjbckcnkfaaaGreatPa53
import Derived.Test.YtcipjbckcnkfaaaGreatPa51
set_option linter.unusedSimpArgs false
set_option linter.unusedVariables false
namespace Go.Proofs.YtcipjbckcnkfaaaGreat
open Go.RowKit Go.Shelf
attribute [local go_sem ↓] Go.wp_at_zero Go.wp_at_succ

set_option maxHeartbeats 25600000 in
set_option maxRecDepth 100000 in
theorem lawTens (p : Par) (ca : Option Addr) (cc : Nat) (A B : Ci) (aa ab : Option Addr) (cA cB : Nat) (w : World) (hin : ParIn w p ca cc) (hA : CiIn w A aa cA) (hB : CiIn w B ab cB) :
    Calls Tryz.prog 3 #[.agg (p.cells ca cc), A.val aa cA, B.val ab cB] w fun e w' => e = .returned (.bool true) ∧ Below w.heap.size w w' := by
  have HAW := Lib.hid (fun (w' : World) => awake16_walk w')
  have HLA := Lib.hid (fun (w' : World) (hb : Below w.heap.size w w') => large14_walk A aa cA w' (hA.below hb))
  have HLB := Lib.hid (fun (w' : World) (hb : Below w.heap.size w w') => large14_walk B ab cB w' (hB.below hb))
  by_cases hsa : SmallCi A
  case neg =>
    rw [tr_pos hsa] at HLA
    unfold Ci.val Par.cells at *
    clear hin hA hB hsa HLB
    go_enter Tryz.func3, Tryz.ntmps3
    go_wp2_with fail
    (with_reducible refine Calls.mono (HLA.out _ (by with_reducible (repeat first | exact bR _ _ | assumption | exact ho (by assumption) | refine bD ?_ | refine bA ?_ ?_ _ | refine bS ?_ ?_ _ | refine bC ?_ (ho (by assumption)) ?_) <;> (first | omega | (simp <;> omega)))) ?_)
    rintro e w2 ⟨rfl, hb⟩
    obtain ⟨hc_w2, hf_w2⟩ := bcell hb
    have HB_w2 : Hid (Below w.heap.size w w2) := Lib.hid (below_step (by with_reducible (repeat first | exact bR _ _ | assumption | exact ho (by assumption) | refine bD ?_ | refine bN ?_ _ | refine bA ?_ ?_ _ | refine bS ?_ ?_ _) <;> (first | omega | (simp <;> omega))) hb)
    have hs_w2 := hb.size
    try simp only [World.size_alloc, sz_set, sz_drew, sz_drewN] at hs_w2
    have HK_w2 := Lib.hid hb
    have HC_w2 := Lib.hid (callTo hb)
    clear hb
    go_wp2_with fail
    (with_reducible refine Calls.mono (HAW.out _) ?_)
    rintro e w3 ⟨rfl, hb⟩
    obtain ⟨hc_w3, hf_w3⟩ := bcell hb
    have HB_w3 : Hid (Below w.heap.size w w3) := Lib.hid (below_step (by with_reducible (repeat first | exact bR _ _ | assumption | exact ho (by assumption) | refine bD ?_ | refine bN ?_ _ | refine bA ?_ ?_ _ | refine bS ?_ ?_ _) <;> (first | omega | (simp <;> omega))) hb)
    have hs_w3 := hb.size
    try simp only [World.size_alloc, sz_set, sz_drew, sz_drewN] at hs_w3
    have HK_w3 := Lib.hid hb
    have HC_w3 := Lib.hid (callTo hb)
    clear hb
    go_wp2
    go_ret
    exact ⟨rfl, (by with_reducible (repeat first | exact bR _ _ | assumption | exact ho (by assumption) | refine bD ?_ | refine bA ?_ ?_ _ | refine bS ?_ ?_ _ | refine bC ?_ (ho (by assumption)) ?_) <;> (first | omega | (simp <;> omega)))⟩
  by_cases hsb : SmallCi B
  case neg =>
    rw [tr_neg (fun h => h hsa)] at HLA
    rw [tr_pos hsb] at HLB
    unfold Ci.val Par.cells at *
    clear hin hA hB hsa hsb
    go_enter Tryz.func3, Tryz.ntmps3
    go_wp2_with fail
    (with_reducible refine Calls.mono (HLA.out _ (by with_reducible (repeat first | exact bR _ _ | assumption | exact ho (by assumption) | refine bD ?_ | refine bA ?_ ?_ _ | refine bS ?_ ?_ _ | refine bC ?_ (ho (by assumption)) ?_) <;> (first | omega | (simp <;> omega)))) ?_)
    rintro e w2 ⟨rfl, hb⟩
    obtain ⟨hc_w2, hf_w2⟩ := bcell hb
    have HB_w2 : Hid (Below w.heap.size w w2) := Lib.hid (below_step (by with_reducible (repeat first | exact bR _ _ | assumption | exact ho (by assumption) | refine bD ?_ | refine bN ?_ _ | refine bA ?_ ?_ _ | refine bS ?_ ?_ _) <;> (first | omega | (simp <;> omega))) hb)
    have hs_w2 := hb.size
    try simp only [World.size_alloc, sz_set, sz_drew, sz_drewN] at hs_w2
    have q0_w2 : w.heap.size < w2.heap.size := by omega
    have q1_w2 : w.heap.size + 1 < w2.heap.size := by omega
    have q2_w2 : w.heap.size + 1 + 1 < w2.heap.size := by omega
    have HK_w2 := Lib.hid hb
    have HC_w2 := Lib.hid (callTo hb)
    clear hb
    go_wp2_with fail
    (with_reducible refine Calls.mono (HLB.out _ (by with_reducible (repeat first | exact bR _ _ | assumption | exact ho (by assumption) | refine bD ?_ | refine bA ?_ ?_ _ | refine bS ?_ ?_ _ | refine bC ?_ (ho (by assumption)) ?_) <;> (first | omega | (simp <;> omega)))) ?_)
    rintro e w3 ⟨rfl, hb⟩
    obtain ⟨hc_w3, hf_w3⟩ := bcell hb
    have HB_w3 : Hid (Below w.heap.size w w3) := Lib.hid (below_step (by with_reducible (repeat first | exact bR _ _ | assumption | exact ho (by assumption) | refine bD ?_ | refine bN ?_ _ | refine bA ?_ ?_ _ | refine bS ?_ ?_ _) <;> (first | omega | (simp <;> omega))) hb)
    have hs_w3 := hb.size
    try simp only [World.size_alloc, sz_set, sz_drew, sz_drewN] at hs_w3
    have HK_w3 := Lib.hid hb
    have HC_w3 := Lib.hid (callTo hb)
    clear hb
    go_wp2_with fail
    (with_reducible refine Calls.mono (HAW.out _) ?_)
    rintro e w4 ⟨rfl, hb⟩
    obtain ⟨hc_w4, hf_w4⟩ := bcell hb
    have HB_w4 : Hid (Below w.heap.size w w4) := Lib.hid (below_step (by with_reducible (repeat first | exact bR _ _ | assumption | exact ho (by assumption) | refine bD ?_ | refine bN ?_ _ | refine bA ?_ ?_ _ | refine bS ?_ ?_ _) <;> (first | omega | (simp <;> omega))) hb)
    have hs_w4 := hb.size
    try simp only [World.size_alloc, sz_set, sz_drew, sz_drewN] at hs_w4
    have HK_w4 := Lib.hid hb
    have HC_w4 := Lib.hid (callTo hb)
    clear hb
    go_wp2
    go_ret
    exact ⟨rfl, (by with_reducible (repeat first | exact bR _ _ | assumption | exact ho (by assumption) | refine bD ?_ | refine bA ?_ ?_ _ | refine bS ?_ ?_ _ | refine bC ?_ (ho (by assumption)) ?_) <;> (first | omega | (simp <;> omega)))⟩
  rw [tr_neg (fun h => h hsa)] at HLA
  rw [tr_neg (fun h => h hsb)] at HLB
  have HLD : Hid (∀ w', Below w.heap.size w w' → Calls Tryz.prog 9 #[A.val aa cA] w' fun e w2 => (∃ ao c, e = .returned (A.val ao c) ∧ RdEN w2 w'.heap.size ao A.parts ∧ A.parts.length ≤ c ∧ c ≤ 9223372036854775807) ∧ Below w'.heap.size w' w2) := Lib.hid (fun w' hb => (lend16_walk A aa cA w' (by have := hsa.1; omega) (fun i hi => ⟨by have := (hsa.2 i hi).1; omega, fun j hj => by have := (hsa.2 i hi).2 j hj; omega⟩) (hA.rd.below hb)).mono (fun e w2 ⟨⟨v, h1, ao, c, h2, h3⟩, h4⟩ => ⟨⟨ao, c, by rw [h1, h2], h3⟩, h4⟩))
  have HLE : Hid (∀ w', Below w.heap.size w w' → Calls Tryz.prog 9 #[B.val ab cB] w' fun e w2 => (∃ ao c, e = .returned (B.val ao c) ∧ RdEN w2 w'.heap.size ao B.parts ∧ B.parts.length ≤ c ∧ c ≤ 9223372036854775807) ∧ Below w'.heap.size w' w2) := Lib.hid (fun w' hb => (lend16_walk B ab cB w' (by have := hsb.1; omega) (fun i hi => ⟨by have := (hsb.2 i hi).1; omega, fun j hj => by have := (hsb.2 i hi).2 j hj; omega⟩) (hB.rd.below hb)).mono (fun e w2 ⟨⟨v, h1, ao, c, h2, h3⟩, h4⟩ => ⟨⟨ao, c, by rw [h1, h2], h3⟩, h4⟩))
  have HSA := Lib.hid (fun (w' : World) (a1 a2 : Option Addr) (c1 c2 : Nat) (h1 : RdE w' a1 A.parts) (h2 : RdE w' a2 A.parts) => r14Same_walk A a1 a2 c1 c2 w' hA.big.1 hA.big.2 h1 h2)
  have HSB := Lib.hid (fun (w' : World) (a1 a2 : Option Addr) (c1 c2 : Nat) (h1 : RdE w' a1 B.parts) (h2 : RdE w' a2 B.parts) => r14Same_walk B a1 a2 c1 c2 w' hB.big.1 hB.big.2 h1 h2)
  have HRA := Lib.hid hA.rd
  have HRB := Lib.hid hB.rd
  obtain ⟨C0, er0, hbg0, hp0, hr0⟩ := tens_both p ca cc A B aa ab cA cB w hin hA hB
  have HPR0 := Lib.hid hp0
  have HRF0 := Lib.hid hr0
  have HSC0 := Lib.hid (fun (w' : World) (a1 a2 : Option Addr) (c1 c2 : Nat) (h1 : RdE w' a1 C0.parts) (h2 : RdE w' a2 C0.parts) => r14Same_walk C0 a1 a2 c1 c2 w' hbg0.1 hbg0.2 h1 h2)
  clear hp0 hr0 hbg0
  unfold CiRes at *
  unfold Ci.val Par.cells at *
  clear hin hA hB hsa hsb
  obtain ⟨AL, h1⟩ : ∃ x, A.level = x := ⟨_, rfl⟩
  obtain ⟨AX, h2⟩ : ∃ x, A.exponent = x := ⟨_, rfl⟩
  obtain ⟨la, h3⟩ : ∃ x, A.parts.length = x := ⟨_, rfl⟩
  rw [h1, h2, h3] at HLA HLD HSA HPR0 HRF0 ⊢
  clear h1 h2 h3
  obtain ⟨PA, h1⟩ : ∃ x, A.parts = x := ⟨_, rfl⟩
  rw [h1] at HLD HSA HRA HPR0
  clear h1
  obtain ⟨BL, h1⟩ : ∃ x, B.level = x := ⟨_, rfl⟩
  obtain ⟨BX, h2⟩ : ∃ x, B.exponent = x := ⟨_, rfl⟩
  obtain ⟨lb, h3⟩ : ∃ x, B.parts.length = x := ⟨_, rfl⟩
  rw [h1, h2, h3] at HLB HLE HSB HPR0 HRF0 ⊢
  clear h1 h2 h3
  obtain ⟨PB, h1⟩ : ∃ x, B.parts = x := ⟨_, rfl⟩
  rw [h1] at HLE HSB HRB HPR0
  clear h1
  obtain ⟨CL0, h1⟩ : ∃ x, C0.level = x := ⟨_, rfl⟩
  obtain ⟨CX0, h2⟩ : ∃ x, C0.exponent = x := ⟨_, rfl⟩
  obtain ⟨cl0, h3⟩ : ∃ x, C0.parts.length = x := ⟨_, rfl⟩
  rw [h1, h2, h3] at HPR0 HRF0 HSC0
  clear h1 h2 h3
  go_enter Tryz.func3, Tryz.ntmps3
  go_wp2_with fail
  (with_reducible refine Calls.mono (HLA.out _ (by with_reducible (repeat first | exact bR _ _ | assumption | exact ho (by assumption) | refine bD ?_ | refine bA ?_ ?_ _ | refine bS ?_ ?_ _ | refine bC ?_ (ho (by assumption)) ?_) <;> (first | omega | (simp <;> omega)))) ?_)
  rintro e w2 ⟨rfl, hb⟩
  obtain ⟨hc_w2, hf_w2⟩ := bcell hb
  have HB_w2 : Hid (Below w.heap.size w w2) := Lib.hid (below_step (by with_reducible (repeat first | exact bR _ _ | assumption | exact ho (by assumption) | refine bD ?_ | refine bN ?_ _ | refine bA ?_ ?_ _ | refine bS ?_ ?_ _) <;> (first | omega | (simp <;> omega))) hb)
  have hs_w2 := hb.size
  try simp only [World.size_alloc, sz_set, sz_drew, sz_drewN] at hs_w2
  have q0_w2 : w.heap.size < w2.heap.size := by omega
  have q1_w2 : w.heap.size + 1 < w2.heap.size := by omega
  have q2_w2 : w.heap.size + 1 + 1 < w2.heap.size := by omega
  have HK_w2 := Lib.hid hb
  have HC_w2 := Lib.hid (callTo hb)
  clear hb
  go_wp2_with fail
  (with_reducible refine Calls.mono (HLB.out _ (by with_reducible (repeat first | exact bR _ _ | assumption | exact ho (by assumption) | refine bD ?_ | refine bA ?_ ?_ _ | refine bS ?_ ?_ _ | refine bC ?_ (ho (by assumption)) ?_) <;> (first | omega | (simp <;> omega)))) ?_)
  rintro e w3 ⟨rfl, hb⟩
  obtain ⟨hc_w3, hf_w3⟩ := bcell hb
  have HB_w3 : Hid (Below w.heap.size w w3) := Lib.hid (below_step (by with_reducible (repeat first | exact bR _ _ | assumption | exact ho (by assumption) | refine bD ?_ | refine bN ?_ _ | refine bA ?_ ?_ _ | refine bS ?_ ?_ _) <;> (first | omega | (simp <;> omega))) hb)
  have hs_w3 := hb.size
  try simp only [World.size_alloc, sz_set, sz_drew, sz_drewN] at hs_w3
  have q0_w3 : w.heap.size < w3.heap.size := by omega
  have q1_w3 : w.heap.size + 1 < w3.heap.size := by omega
  have q2_w3 : w.heap.size + 1 + 1 < w3.heap.size := by omega
  have HK_w3 := Lib.hid hb
  have HC_w3 := Lib.hid (callTo hb)
  clear hb
  go_upto_region 3 with fail
  refine gen_w _ _ (fun W0 hW0 => ?_)
  have HB_W0 : Hid (Below w.heap.size w W0) := Lib.hid (by rw [hW0]; exact (by with_reducible (repeat first | exact bR _ _ | assumption | exact ho (by assumption) | refine bD ?_ | refine bA ?_ ?_ _ | refine bS ?_ ?_ _ | refine bC ?_ (ho (by assumption)) ?_) <;> (first | omega | (simp <;> omega))))
  have K0 : Hid (Blk W0 w.heap.size 25 #[.int .i64 p.n, .int .u32 (p.prime : Int), .int .i64 p.power, .slice ca p.chain.length cc, .int .u32 (p.special : Int), .int .i64 p.weight, .int .u32 (p.err : Int)]) := Lib.hid (by rw [hW0]; exact (by with_reducible (repeat first | assumption | exact ho (by assumption) | (refine Blk.newAt ?z; case z => first | rfl | (first | omega | (simp <;> omega))) | apply Blk.three | apply Blk.seven | apply Blk.nine | (refine Blk.far ?_ ?z _; case z => ((try dsimp only); (first | omega | (simp <;> omega)))) | refine Blk.alloc ?_ _ | refine Blk.drew ?_ | refine Blk.turnTo ?_ (ho (by assumption)) ?_ | refine Blk.belowB ?_ (ho (by assumption)) ?_) <;> (first | omega | (simp <;> omega))))
  have K1 : Hid (Blk W0 (w.heap.size + 1) 28 #[.int .i64 AL, .int .i64 AX, .slice aa la cA]) := Lib.hid (by rw [hW0]; exact (by with_reducible (repeat first | assumption | exact ho (by assumption) | (refine Blk.newAt ?z; case z => first | rfl | (first | omega | (simp <;> omega))) | apply Blk.three | apply Blk.seven | apply Blk.nine | (refine Blk.far ?_ ?z _; case z => ((try dsimp only); (first | omega | (simp <;> omega)))) | refine Blk.alloc ?_ _ | refine Blk.drew ?_ | refine Blk.turnTo ?_ (ho (by assumption)) ?_ | refine Blk.belowB ?_ (ho (by assumption)) ?_) <;> (first | omega | (simp <;> omega))))
  have K2 : Hid (Blk W0 (w.heap.size + 1 + 1) 28 #[.int .i64 BL, .int .i64 BX, .slice ab lb cB]) := Lib.hid (by rw [hW0]; exact (by with_reducible (repeat first | assumption | exact ho (by assumption) | (refine Blk.newAt ?z; case z => first | rfl | (first | omega | (simp <;> omega))) | apply Blk.three | apply Blk.seven | apply Blk.nine | (refine Blk.far ?_ ?z _; case z => ((try dsimp only); (first | omega | (simp <;> omega)))) | refine Blk.alloc ?_ _ | refine Blk.drew ?_ | refine Blk.turnTo ?_ (ho (by assumption)) ?_ | refine Blk.belowB ?_ (ho (by assumption)) ?_) <;> (first | omega | (simp <;> omega))))
  have z2 : w.heap.size + 1 + 1 < W0.heap.size := K2.out.lt
  have z1 : w.heap.size + 1 < W0.heap.size := by omega
  have z0 : w.heap.size < W0.heap.size := by omega
  clear hW0 HB_w2 HK_w2 HC_w2 hc_w2 hf_w2 hs_w2 q0_w2 q1_w2 q2_w2 HB_w3 HK_w3 HC_w3 hc_w3 hf_w3 hs_w3 q0_w3 q1_w3 q2_w3 HLA HLB
  obtain ⟨a0, a1, a2⟩ := el_cells K1.out
  obtain ⟨b0, b1, b2⟩ := el_cells K2.out
  go_cut [7, 8] (fun v7 v8 wx => ∃ bx bz ax cx az cz, v7 = .pointer (some ⟨bx, 0, none⟩) ∧ v8 = .pointer (some ⟨bz, 0, none⟩) ∧ Hid (Blk wx bx 28 #[.int .i64 AL, .int .i64 AX, .slice ax la cx]) ∧ Hid (Blk wx bz 28 #[.int .i64 BL, .int .i64 BX, .slice az lb cz]) ∧ Hid (RdE wx ax PA ∧ la ≤ cx ∧ cx ≤ 9223372036854775807) ∧ Hid (RdE wx az PB ∧ lb ≤ cz ∧ cz ≤ 9223372036854775807) ∧ Hid (Below W0.heap.size W0 wx))
  case first =>
    have hS : (fun w' : World => Below W0.heap.size W0 w') W0.drew := (Below.refl _ _).drew
    refine wp_region_L (fun w' : World => Below W0.heap.size W0 w') 7 (by kernel_rfl) (by kernel_rfl) (by kernel_rfl) ?_
    refine tK 0 (v := ?_) (by assumption) ?_ ?_
    rotate_left
    · (intro _ _; go_simp; try with_reducible rfl)
    try simp only [Act.put, gA, gB, gC, sA, sB, sC]
    refine tK 2 (v := ?_) (by assumption) ?_ ?_
    rotate_left
    · (intro _ _; go_simp; try with_reducible rfl)
    try simp only [Act.put, gA, gB, gC, sA, sB, sC]
    refine wpL.three 1 4 5 rfl rfl rfl (by kernel_rfl) rfl rfl rfl ?_ ?_ ?_  <;> intro K hK
    · go_wp2_with fail
      (with_reducible refine Calls.mono (HLD.out _ (by with_reducible (repeat first | exact bR _ _ | assumption | exact ho (by assumption) | refine bD ?_ | refine bA ?_ ?_ _ | refine bS ?_ ?_ _ | refine bC ?_ (ho (by assumption)) ?_) <;> (first | omega | (simp <;> omega)))) ?_)
      rintro e w5 ⟨⟨ax, cx, rfl, hr, hl⟩, hb⟩
      have HR5 := Lib.hid hr
      have HL5 := Lib.hid hl
      obtain ⟨hc_w5, hf_w5⟩ := bcell hb
      have HB_w5 : Hid (Below W0.heap.size W0 w5) := Lib.hid (below_step (by with_reducible (repeat first | exact bR _ _ | assumption | exact ho (by assumption) | refine bD ?_ | refine bN ?_ _ | refine bA ?_ ?_ _ | refine bS ?_ ?_ _) <;> (first | omega | (simp <;> omega))) hb)
      have hs_w5 := hb.size
      try simp only [World.size_alloc, sz_set, sz_drew, sz_drewN] at hs_w5
      have HK_w5 := Lib.hid hb
      have HC_w5 := Lib.hid (callTo hb)
      clear hb
      try have l0_w5 : W0.heap.size < w5.heap.size := by omega
      try have n0_w5 : W0.heap.size ≠ w5.heap.size := by omega
      try have l1_w5 : W0.heap.size + 1 < w5.heap.size := by omega
      try have n1_w5 : W0.heap.size + 1 ≠ w5.heap.size := by omega
      clear hr hl
      refine hK _ _ (by with_reducible (repeat first | exact bR _ _ | assumption | exact ho (by assumption) | refine bD ?_ | refine bA ?_ ?_ _ | refine bS ?_ ?_ _ | refine bC ?_ (ho (by assumption)) ?_) <;> (first | omega | (simp <;> omega))) (fun hS => ?_)
      clear hK
      try simp only [Act.put, gA, gB, gC, sA, sB, sC]
      refine wpL.three 3 4 5 rfl rfl rfl (by kernel_rfl) rfl rfl rfl ?_ ?_ ?_  <;> intro K hK
      · go_wp2_with fail
        (with_reducible refine Calls.mono (HLE.out _ (by with_reducible (repeat first | exact bR _ _ | assumption | exact ho (by assumption) | refine bD ?_ | refine bA ?_ ?_ _ | refine bS ?_ ?_ _ | refine bC ?_ (ho (by assumption)) ?_) <;> (first | omega | (simp <;> omega)))) ?_)
        rintro e w6 ⟨⟨az, cz, rfl, hr, hl⟩, hb⟩
        have HR6 := Lib.hid hr
        have HL6 := Lib.hid hl
        obtain ⟨hc_w6, hf_w6⟩ := bcell hb
        have HB_w6 : Hid (Below W0.heap.size W0 w6) := Lib.hid (below_step (by with_reducible (repeat first | exact bR _ _ | assumption | exact ho (by assumption) | refine bD ?_ | refine bN ?_ _ | refine bA ?_ ?_ _ | refine bS ?_ ?_ _) <;> (first | omega | (simp <;> omega))) hb)
        have hs_w6 := hb.size
        try simp only [World.size_alloc, sz_set, sz_drew, sz_drewN] at hs_w6
        have HK_w6 := Lib.hid hb
        have HC_w6 := Lib.hid (callTo hb)
        clear hb
        try have l0_w6 : W0.heap.size < w6.heap.size := by omega
        try have n0_w6 : W0.heap.size ≠ w6.heap.size := by omega
        try have l1_w6 : W0.heap.size + 1 < w6.heap.size := by omega
        try have n1_w6 : W0.heap.size + 1 ≠ w6.heap.size := by omega
        try have l2_w6 : w5.heap.size < w6.heap.size := by omega
        try have n2_w6 : w5.heap.size ≠ w6.heap.size := by omega
        try have l3_w6 : w5.heap.size + 1 < w6.heap.size := by omega
        try have n3_w6 : w5.heap.size + 1 ≠ w6.heap.size := by omega
        clear hr hl
        refine hK _ _ (by with_reducible (repeat first | exact bR _ _ | assumption | exact ho (by assumption) | refine bD ?_ | refine bA ?_ ?_ _ | refine bS ?_ ?_ _ | refine bC ?_ (ho (by assumption)) ?_) <;> (first | omega | (simp <;> omega))) (fun hS => ?_)
        clear hK
        try simp only [Act.put, gA, gB, gC, sA, sB, sC]
        refine wpL.two 4 5 rfl rfl (by kernel_rfl) rfl rfl ?_ ?_  <;> intro K hK
        · go_wp2
          refine hK _ _ (by with_reducible (repeat first | exact bR _ _ | assumption | exact ho (by assumption) | refine bD ?_ | refine bA ?_ ?_ _ | refine bS ?_ ?_ _ | refine bC ?_ (ho (by assumption)) ?_) <;> (first | omega | (simp <;> omega))) (fun hS => ?_)
          clear hK
          try simp only [Act.put, gA, gB, gC, sA, sB, sC]
          refine wpL.eff 5 rfl (by kernel_rfl) rfl ?_
          intro K hK
          go_wp2
          refine hK _ _ (by with_reducible (repeat first | exact bR _ _ | assumption | exact ho (by assumption) | refine bD ?_ | refine bA ?_ ?_ _ | refine bS ?_ ?_ _ | refine bC ?_ (ho (by assumption)) ?_) <;> (first | omega | (simp <;> omega))) (fun hS => ?_)
          clear hK
          try simp only [Act.put, gA, gB, gC, sA, sB, sC]
          refine wpL.eff 6 rfl (by kernel_rfl) rfl ?_
          intro K hK
          go_wp2
          refine hK _ _ (by with_reducible (repeat first | exact bR _ _ | assumption | exact ho (by assumption) | refine bD ?_ | refine bA ?_ ?_ _ | refine bS ?_ ?_ _ | refine bC ?_ (ho (by assumption)) ?_) <;> (first | omega | (simp <;> omega))) (fun hS => ?_)
          clear hK
          try simp only [Act.put, gA, gB, gC, sA, sB, sC]
          refine wpL.last 7 rfl (by kernel_rfl) rfl (by kernel_rfl) rfl ?_
          go_wp2_with fail
          go_meet
          case rel =>
            refine ⟨_, _, ax, cx, az, cz, rfl, rfl, Lib.hid ?b1, Lib.hid ?b2, Lib.hid ⟨(HR5.out.kp ?k1).rd, HL5.out⟩, Lib.hid ⟨(HR6.out.kp ?k2).rd, HL6.out⟩, Lib.hid (by with_reducible (repeat first | exact bR _ _ | assumption | exact ho (by assumption) | refine bD ?_ | refine bA ?_ ?_ _ | refine bS ?_ ?_ _ | refine bC ?_ (ho (by assumption)) ?_) <;> (first | omega | (simp <;> omega)))⟩
            case b1 | b2 => exact (by with_reducible (repeat first | assumption | exact ho (by assumption) | (refine Blk.newAt ?z; case z => first | rfl | (first | omega | (simp <;> omega))) | apply Blk.three | apply Blk.seven | apply Blk.nine | (refine Blk.far ?_ ?z _; case z => ((try dsimp only); (first | omega | (simp <;> omega)))) | refine Blk.alloc ?_ _ | refine Blk.drew ?_ | refine Blk.turnTo ?_ (ho (by assumption)) ?_ | refine Blk.belowB ?_ (ho (by assumption)) ?_) <;> (first | omega | (simp <;> omega)))
            case k1 | k2 => exact (by with_reducible (repeat first | exact kR _ _ _ | assumption | exact ho (by assumption) | refine kD ?_ | refine kA ?_ _ | refine kS ?_ ?_ _ | refine kC ?_ (ho (by assumption))) <;> (first | omega | (simp <;> omega)))
        · go_wp2
          refine hK _ _ (by with_reducible (repeat first | exact bR _ _ | assumption | exact ho (by assumption) | refine bD ?_ | refine bA ?_ ?_ _ | refine bS ?_ ?_ _ | refine bC ?_ (ho (by assumption)) ?_) <;> (first | omega | (simp <;> omega))) (fun hS => ?_)
          clear hK
          try simp only [Act.put, gA, gB, gC, sA, sB, sC]
          refine wpL.eff 4 rfl (by kernel_rfl) rfl ?_
          intro K hK
          go_wp2
          refine hK _ _ (by with_reducible (repeat first | exact bR _ _ | assumption | exact ho (by assumption) | refine bD ?_ | refine bA ?_ ?_ _ | refine bS ?_ ?_ _ | refine bC ?_ (ho (by assumption)) ?_) <;> (first | omega | (simp <;> omega))) (fun hS => ?_)
          clear hK
          try simp only [Act.put, gA, gB, gC, sA, sB, sC]
          refine wpL.eff 6 rfl (by kernel_rfl) rfl ?_
          intro K hK
          go_wp2
          refine hK _ _ (by with_reducible (repeat first | exact bR _ _ | assumption | exact ho (by assumption) | refine bD ?_ | refine bA ?_ ?_ _ | refine bS ?_ ?_ _ | refine bC ?_ (ho (by assumption)) ?_) <;> (first | omega | (simp <;> omega))) (fun hS => ?_)
          clear hK
          try simp only [Act.put, gA, gB, gC, sA, sB, sC]
          refine wpL.last 7 rfl (by kernel_rfl) rfl (by kernel_rfl) rfl ?_
          go_wp2_with fail
          go_meet
          case rel =>
            refine ⟨_, _, ax, cx, az, cz, rfl, rfl, Lib.hid ?b1, Lib.hid ?b2, Lib.hid ⟨(HR5.out.kp ?k1).rd, HL5.out⟩, Lib.hid ⟨(HR6.out.kp ?k2).rd, HL6.out⟩, Lib.hid (by with_reducible (repeat first | exact bR _ _ | assumption | exact ho (by assumption) | refine bD ?_ | refine bA ?_ ?_ _ | refine bS ?_ ?_ _ | refine bC ?_ (ho (by assumption)) ?_) <;> (first | omega | (simp <;> omega)))⟩
            case b1 | b2 => exact (by with_reducible (repeat first | assumption | exact ho (by assumption) | (refine Blk.newAt ?z; case z => first | rfl | (first | omega | (simp <;> omega))) | apply Blk.three | apply Blk.seven | apply Blk.nine | (refine Blk.far ?_ ?z _; case z => ((try dsimp only); (first | omega | (simp <;> omega)))) | refine Blk.alloc ?_ _ | refine Blk.drew ?_ | refine Blk.turnTo ?_ (ho (by assumption)) ?_ | refine Blk.belowB ?_ (ho (by assumption)) ?_) <;> (first | omega | (simp <;> omega)))
            case k1 | k2 => exact (by with_reducible (repeat first | exact kR _ _ _ | assumption | exact ho (by assumption) | refine kD ?_ | refine kA ?_ _ | refine kS ?_ ?_ _ | refine kC ?_ (ho (by assumption))) <;> (first | omega | (simp <;> omega)))
      · go_wp2
        refine hK _ _ (by with_reducible (repeat first | exact bR _ _ | assumption | exact ho (by assumption) | refine bD ?_ | refine bA ?_ ?_ _ | refine bS ?_ ?_ _ | refine bC ?_ (ho (by assumption)) ?_) <;> (first | omega | (simp <;> omega))) (fun hS => ?_)
        clear hK
        try simp only [Act.put, gA, gB, gC, sA, sB, sC]
        refine wpL.two 3 5 rfl rfl (by kernel_rfl) rfl rfl ?_ ?_  <;> intro K hK
        · go_wp2_with fail
          (with_reducible refine Calls.mono (HLE.out _ (by with_reducible (repeat first | exact bR _ _ | assumption | exact ho (by assumption) | refine bD ?_ | refine bA ?_ ?_ _ | refine bS ?_ ?_ _ | refine bC ?_ (ho (by assumption)) ?_) <;> (first | omega | (simp <;> omega)))) ?_)
          rintro e w6 ⟨⟨az, cz, rfl, hr, hl⟩, hb⟩
          have HR6 := Lib.hid hr
          have HL6 := Lib.hid hl
          obtain ⟨hc_w6, hf_w6⟩ := bcell hb
          have HB_w6 : Hid (Below W0.heap.size W0 w6) := Lib.hid (below_step (by with_reducible (repeat first | exact bR _ _ | assumption | exact ho (by assumption) | refine bD ?_ | refine bN ?_ _ | refine bA ?_ ?_ _ | refine bS ?_ ?_ _) <;> (first | omega | (simp <;> omega))) hb)
          have hs_w6 := hb.size
          try simp only [World.size_alloc, sz_set, sz_drew, sz_drewN] at hs_w6
          have HK_w6 := Lib.hid hb
          have HC_w6 := Lib.hid (callTo hb)
          clear hb
          try have l0_w6 : W0.heap.size < w6.heap.size := by omega
          try have n0_w6 : W0.heap.size ≠ w6.heap.size := by omega
          try have l1_w6 : W0.heap.size + 1 < w6.heap.size := by omega
          try have n1_w6 : W0.heap.size + 1 ≠ w6.heap.size := by omega
          try have l2_w6 : w5.heap.size < w6.heap.size := by omega
          try have n2_w6 : w5.heap.size ≠ w6.heap.size := by omega
          try have l3_w6 : w5.heap.size + 1 < w6.heap.size := by omega
          try have n3_w6 : w5.heap.size + 1 ≠ w6.heap.size := by omega
          clear hr hl
          refine hK _ _ (by with_reducible (repeat first | exact bR _ _ | assumption | exact ho (by assumption) | refine bD ?_ | refine bA ?_ ?_ _ | refine bS ?_ ?_ _ | refine bC ?_ (ho (by assumption)) ?_) <;> (first | omega | (simp <;> omega))) (fun hS => ?_)
          clear hK
          try simp only [Act.put, gA, gB, gC, sA, sB, sC]
          refine wpL.eff 5 rfl (by kernel_rfl) rfl ?_
          intro K hK
          go_wp2
          refine hK _ _ (by with_reducible (repeat first | exact bR _ _ | assumption | exact ho (by assumption) | refine bD ?_ | refine bA ?_ ?_ _ | refine bS ?_ ?_ _ | refine bC ?_ (ho (by assumption)) ?_) <;> (first | omega | (simp <;> omega))) (fun hS => ?_)
          clear hK
          try simp only [Act.put, gA, gB, gC, sA, sB, sC]
          refine wpL.eff 6 rfl (by kernel_rfl) rfl ?_
          intro K hK
          go_wp2
          refine hK _ _ (by with_reducible (repeat first | exact bR _ _ | assumption | exact ho (by assumption) | refine bD ?_ | refine bA ?_ ?_ _ | refine bS ?_ ?_ _ | refine bC ?_ (ho (by assumption)) ?_) <;> (first | omega | (simp <;> omega))) (fun hS => ?_)
          clear hK
          try simp only [Act.put, gA, gB, gC, sA, sB, sC]
          refine wpL.last 7 rfl (by kernel_rfl) rfl (by kernel_rfl) rfl ?_
          go_wp2_with fail
          go_meet
          case rel =>
            refine ⟨_, _, ax, cx, az, cz, rfl, rfl, Lib.hid ?b1, Lib.hid ?b2, Lib.hid ⟨(HR5.out.kp ?k1).rd, HL5.out⟩, Lib.hid ⟨(HR6.out.kp ?k2).rd, HL6.out⟩, Lib.hid (by with_reducible (repeat first | exact bR _ _ | assumption | exact ho (by assumption) | refine bD ?_ | refine bA ?_ ?_ _ | refine bS ?_ ?_ _ | refine bC ?_ (ho (by assumption)) ?_) <;> (first | omega | (simp <;> omega)))⟩
            case b1 | b2 => exact (by with_reducible (repeat first | assumption | exact ho (by assumption) | (refine Blk.newAt ?z; case z => first | rfl | (first | omega | (simp <;> omega))) | apply Blk.three | apply Blk.seven | apply Blk.nine | (refine Blk.far ?_ ?z _; case z => ((try dsimp only); (first | omega | (simp <;> omega)))) | refine Blk.alloc ?_ _ | refine Blk.drew ?_ | refine Blk.turnTo ?_ (ho (by assumption)) ?_ | refine Blk.belowB ?_ (ho (by assumption)) ?_) <;> (first | omega | (simp <;> omega)))
            case k1 | k2 => exact (by with_reducible (repeat first | exact kR _ _ _ | assumption | exact ho (by assumption) | refine kD ?_ | refine kA ?_ _ | refine kS ?_ ?_ _ | refine kC ?_ (ho (by assumption))) <;> (first | omega | (simp <;> omega)))
        · go_wp2
          refine hK _ _ (by with_reducible (repeat first | exact bR _ _ | assumption | exact ho (by assumption) | refine bD ?_ | refine bA ?_ ?_ _ | refine bS ?_ ?_ _ | refine bC ?_ (ho (by assumption)) ?_) <;> (first | omega | (simp <;> omega))) (fun hS => ?_)
          clear hK
          try simp only [Act.put, gA, gB, gC, sA, sB, sC]
          refine wpL.eff 3 rfl (by kernel_rfl) rfl ?_
          intro K hK
          go_wp2_with fail
          (with_reducible refine Calls.mono (HLE.out _ (by with_reducible (repeat first | exact bR _ _ | assumption | exact ho (by assumption) | refine bD ?_ | refine bA ?_ ?_ _ | refine bS ?_ ?_ _ | refine bC ?_ (ho (by assumption)) ?_) <;> (first | omega | (simp <;> omega)))) ?_)
          rintro e w6 ⟨⟨az, cz, rfl, hr, hl⟩, hb⟩
          have HR6 := Lib.hid hr
          have HL6 := Lib.hid hl
          obtain ⟨hc_w6, hf_w6⟩ := bcell hb
          have HB_w6 : Hid (Below W0.heap.size W0 w6) := Lib.hid (below_step (by with_reducible (repeat first | exact bR _ _ | assumption | exact ho (by assumption) | refine bD ?_ | refine bN ?_ _ | refine bA ?_ ?_ _ | refine bS ?_ ?_ _) <;> (first | omega | (simp <;> omega))) hb)
          have hs_w6 := hb.size
          try simp only [World.size_alloc, sz_set, sz_drew, sz_drewN] at hs_w6
          have HK_w6 := Lib.hid hb
          have HC_w6 := Lib.hid (callTo hb)
          clear hb
          try have l0_w6 : W0.heap.size < w6.heap.size := by omega
          try have n0_w6 : W0.heap.size ≠ w6.heap.size := by omega
          try have l1_w6 : W0.heap.size + 1 < w6.heap.size := by omega
          try have n1_w6 : W0.heap.size + 1 ≠ w6.heap.size := by omega
          try have l2_w6 : w5.heap.size < w6.heap.size := by omega
          try have n2_w6 : w5.heap.size ≠ w6.heap.size := by omega
          try have l3_w6 : w5.heap.size + 1 < w6.heap.size := by omega
          try have n3_w6 : w5.heap.size + 1 ≠ w6.heap.size := by omega
          clear hr hl
          refine hK _ _ (by with_reducible (repeat first | exact bR _ _ | assumption | exact ho (by assumption) | refine bD ?_ | refine bA ?_ ?_ _ | refine bS ?_ ?_ _ | refine bC ?_ (ho (by assumption)) ?_) <;> (first | omega | (simp <;> omega))) (fun hS => ?_)
          clear hK
          try simp only [Act.put, gA, gB, gC, sA, sB, sC]
          refine wpL.eff 6 rfl (by kernel_rfl) rfl ?_
          intro K hK
          go_wp2
          refine hK _ _ (by with_reducible (repeat first | exact bR _ _ | assumption | exact ho (by assumption) | refine bD ?_ | refine bA ?_ ?_ _ | refine bS ?_ ?_ _ | refine bC ?_ (ho (by assumption)) ?_) <;> (first | omega | (simp <;> omega))) (fun hS => ?_)
          clear hK
          try simp only [Act.put, gA, gB, gC, sA, sB, sC]
          refine wpL.last 7 rfl (by kernel_rfl) rfl (by kernel_rfl) rfl ?_
          go_wp2_with fail
          go_meet
          case rel =>
            refine ⟨_, _, ax, cx, az, cz, rfl, rfl, Lib.hid ?b1, Lib.hid ?b2, Lib.hid ⟨(HR5.out.kp ?k1).rd, HL5.out⟩, Lib.hid ⟨(HR6.out.kp ?k2).rd, HL6.out⟩, Lib.hid (by with_reducible (repeat first | exact bR _ _ | assumption | exact ho (by assumption) | refine bD ?_ | refine bA ?_ ?_ _ | refine bS ?_ ?_ _ | refine bC ?_ (ho (by assumption)) ?_) <;> (first | omega | (simp <;> omega)))⟩
            case b1 | b2 => exact (by with_reducible (repeat first | assumption | exact ho (by assumption) | (refine Blk.newAt ?z; case z => first | rfl | (first | omega | (simp <;> omega))) | apply Blk.three | apply Blk.seven | apply Blk.nine | (refine Blk.far ?_ ?z _; case z => ((try dsimp only); (first | omega | (simp <;> omega)))) | refine Blk.alloc ?_ _ | refine Blk.drew ?_ | refine Blk.turnTo ?_ (ho (by assumption)) ?_ | refine Blk.belowB ?_ (ho (by assumption)) ?_) <;> (first | omega | (simp <;> omega)))
            case k1 | k2 => exact (by with_reducible (repeat first | exact kR _ _ _ | assumption | exact ho (by assumption) | refine kD ?_ | refine kA ?_ _ | refine kS ?_ ?_ _ | refine kC ?_ (ho (by assumption))) <;> (first | omega | (simp <;> omega)))
      · go_wp2
        refine hK _ _ (by with_reducible (repeat first | exact bR _ _ | assumption | exact ho (by assumption) | refine bD ?_ | refine bA ?_ ?_ _ | refine bS ?_ ?_ _ | refine bC ?_ (ho (by assumption)) ?_) <;> (first | omega | (simp <;> omega))) (fun hS => ?_)
        clear hK
        try simp only [Act.put, gA, gB, gC, sA, sB, sC]
        refine wpL.two 3 4 rfl rfl (by kernel_rfl) rfl rfl ?_ ?_  <;> intro K hK
        · go_wp2_with fail
          (with_reducible refine Calls.mono (HLE.out _ (by with_reducible (repeat first | exact bR _ _ | assumption | exact ho (by assumption) | refine bD ?_ | refine bA ?_ ?_ _ | refine bS ?_ ?_ _ | refine bC ?_ (ho (by assumption)) ?_) <;> (first | omega | (simp <;> omega)))) ?_)
          rintro e w6 ⟨⟨az, cz, rfl, hr, hl⟩, hb⟩
          have HR6 := Lib.hid hr
          have HL6 := Lib.hid hl
          obtain ⟨hc_w6, hf_w6⟩ := bcell hb
          have HB_w6 : Hid (Below W0.heap.size W0 w6) := Lib.hid (below_step (by with_reducible (repeat first | exact bR _ _ | assumption | exact ho (by assumption) | refine bD ?_ | refine bN ?_ _ | refine bA ?_ ?_ _ | refine bS ?_ ?_ _) <;> (first | omega | (simp <;> omega))) hb)
          have hs_w6 := hb.size
          try simp only [World.size_alloc, sz_set, sz_drew, sz_drewN] at hs_w6
          have HK_w6 := Lib.hid hb
          have HC_w6 := Lib.hid (callTo hb)
          clear hb
          try have l0_w6 : W0.heap.size < w6.heap.size := by omega
          try have n0_w6 : W0.heap.size ≠ w6.heap.size := by omega
          try have l1_w6 : W0.heap.size + 1 < w6.heap.size := by omega
          try have n1_w6 : W0.heap.size + 1 ≠ w6.heap.size := by omega
          try have l2_w6 : w5.heap.size < w6.heap.size := by omega
          try have n2_w6 : w5.heap.size ≠ w6.heap.size := by omega
          try have l3_w6 : w5.heap.size + 1 < w6.heap.size := by omega
          try have n3_w6 : w5.heap.size + 1 ≠ w6.heap.size := by omega
          clear hr hl
          refine hK _ _ (by with_reducible (repeat first | exact bR _ _ | assumption | exact ho (by assumption) | refine bD ?_ | refine bA ?_ ?_ _ | refine bS ?_ ?_ _ | refine bC ?_ (ho (by assumption)) ?_) <;> (first | omega | (simp <;> omega))) (fun hS => ?_)
          clear hK
          try simp only [Act.put, gA, gB, gC, sA, sB, sC]
          refine wpL.eff 4 rfl (by kernel_rfl) rfl ?_
          intro K hK
          go_wp2
          refine hK _ _ (by with_reducible (repeat first | exact bR _ _ | assumption | exact ho (by assumption) | refine bD ?_ | refine bA ?_ ?_ _ | refine bS ?_ ?_ _ | refine bC ?_ (ho (by assumption)) ?_) <;> (first | omega | (simp <;> omega))) (fun hS => ?_)
          clear hK
          try simp only [Act.put, gA, gB, gC, sA, sB, sC]
          refine wpL.eff 6 rfl (by kernel_rfl) rfl ?_
          intro K hK
          go_wp2
          refine hK _ _ (by with_reducible (repeat first | exact bR _ _ | assumption | exact ho (by assumption) | refine bD ?_ | refine bA ?_ ?_ _ | refine bS ?_ ?_ _ | refine bC ?_ (ho (by assumption)) ?_) <;> (first | omega | (simp <;> omega))) (fun hS => ?_)
          clear hK
          try simp only [Act.put, gA, gB, gC, sA, sB, sC]
          refine wpL.last 7 rfl (by kernel_rfl) rfl (by kernel_rfl) rfl ?_
          go_wp2_with fail
          go_meet
          case rel =>
            refine ⟨_, _, ax, cx, az, cz, rfl, rfl, Lib.hid ?b1, Lib.hid ?b2, Lib.hid ⟨(HR5.out.kp ?k1).rd, HL5.out⟩, Lib.hid ⟨(HR6.out.kp ?k2).rd, HL6.out⟩, Lib.hid (by with_reducible (repeat first | exact bR _ _ | assumption | exact ho (by assumption) | refine bD ?_ | refine bA ?_ ?_ _ | refine bS ?_ ?_ _ | refine bC ?_ (ho (by assumption)) ?_) <;> (first | omega | (simp <;> omega)))⟩
            case b1 | b2 => exact (by with_reducible (repeat first | assumption | exact ho (by assumption) | (refine Blk.newAt ?z; case z => first | rfl | (first | omega | (simp <;> omega))) | apply Blk.three | apply Blk.seven | apply Blk.nine | (refine Blk.far ?_ ?z _; case z => ((try dsimp only); (first | omega | (simp <;> omega)))) | refine Blk.alloc ?_ _ | refine Blk.drew ?_ | refine Blk.turnTo ?_ (ho (by assumption)) ?_ | refine Blk.belowB ?_ (ho (by assumption)) ?_) <;> (first | omega | (simp <;> omega)))
            case k1 | k2 => exact (by with_reducible (repeat first | exact kR _ _ _ | assumption | exact ho (by assumption) | refine kD ?_ | refine kA ?_ _ | refine kS ?_ ?_ _ | refine kC ?_ (ho (by assumption))) <;> (first | omega | (simp <;> omega)))
        · go_wp2
          refine hK _ _ (by with_reducible (repeat first | exact bR _ _ | assumption | exact ho (by assumption) | refine bD ?_ | refine bA ?_ ?_ _ | refine bS ?_ ?_ _ | refine bC ?_ (ho (by assumption)) ?_) <;> (first | omega | (simp <;> omega))) (fun hS => ?_)
          clear hK
          try simp only [Act.put, gA, gB, gC, sA, sB, sC]
          refine wpL.eff 3 rfl (by kernel_rfl) rfl ?_
          intro K hK
          go_wp2_with fail
          (with_reducible refine Calls.mono (HLE.out _ (by with_reducible (repeat first | exact bR _ _ | assumption | exact ho (by assumption) | refine bD ?_ | refine bA ?_ ?_ _ | refine bS ?_ ?_ _ | refine bC ?_ (ho (by assumption)) ?_) <;> (first | omega | (simp <;> omega)))) ?_)
          rintro e w6 ⟨⟨az, cz, rfl, hr, hl⟩, hb⟩
          have HR6 := Lib.hid hr
          have HL6 := Lib.hid hl
          obtain ⟨hc_w6, hf_w6⟩ := bcell hb
          have HB_w6 : Hid (Below W0.heap.size W0 w6) := Lib.hid (below_step (by with_reducible (repeat first | exact bR _ _ | assumption | exact ho (by assumption) | refine bD ?_ | refine bN ?_ _ | refine bA ?_ ?_ _ | refine bS ?_ ?_ _) <;> (first | omega | (simp <;> omega))) hb)
          have hs_w6 := hb.size
          try simp only [World.size_alloc, sz_set, sz_drew, sz_drewN] at hs_w6
          have HK_w6 := Lib.hid hb
          have HC_w6 := Lib.hid (callTo hb)
          clear hb
          try have l0_w6 : W0.heap.size < w6.heap.size := by omega
          try have n0_w6 : W0.heap.size ≠ w6.heap.size := by omega
          try have l1_w6 : W0.heap.size + 1 < w6.heap.size := by omega
          try have n1_w6 : W0.heap.size + 1 ≠ w6.heap.size := by omega
          try have l2_w6 : w5.heap.size < w6.heap.size := by omega
          try have n2_w6 : w5.heap.size ≠ w6.heap.size := by omega
          try have l3_w6 : w5.heap.size + 1 < w6.heap.size := by omega
          try have n3_w6 : w5.heap.size + 1 ≠ w6.heap.size := by omega
          clear hr hl
          refine hK _ _ (by with_reducible (repeat first | exact bR _ _ | assumption | exact ho (by assumption) | refine bD ?_ | refine bA ?_ ?_ _ | refine bS ?_ ?_ _ | refine bC ?_ (ho (by assumption)) ?_) <;> (first | omega | (simp <;> omega))) (fun hS => ?_)
          clear hK
          try simp only [Act.put, gA, gB, gC, sA, sB, sC]
          refine wpL.eff 6 rfl (by kernel_rfl) rfl ?_
          intro K hK
          go_wp2
          refine hK _ _ (by with_reducible (repeat first | exact bR _ _ | assumption | exact ho (by assumption) | refine bD ?_ | refine bA ?_ ?_ _ | refine bS ?_ ?_ _ | refine bC ?_ (ho (by assumption)) ?_) <;> (first | omega | (simp <;> omega))) (fun hS => ?_)
          clear hK
          try simp only [Act.put, gA, gB, gC, sA, sB, sC]
          refine wpL.last 7 rfl (by kernel_rfl) rfl (by kernel_rfl) rfl ?_
          go_wp2_with fail
          go_meet
          case rel =>
            refine ⟨_, _, ax, cx, az, cz, rfl, rfl, Lib.hid ?b1, Lib.hid ?b2, Lib.hid ⟨(HR5.out.kp ?k1).rd, HL5.out⟩, Lib.hid ⟨(HR6.out.kp ?k2).rd, HL6.out⟩, Lib.hid (by with_reducible (repeat first | exact bR _ _ | assumption | exact ho (by assumption) | refine bD ?_ | refine bA ?_ ?_ _ | refine bS ?_ ?_ _ | refine bC ?_ (ho (by assumption)) ?_) <;> (first | omega | (simp <;> omega)))⟩
            case b1 | b2 => exact (by with_reducible (repeat first | assumption | exact ho (by assumption) | (refine Blk.newAt ?z; case z => first | rfl | (first | omega | (simp <;> omega))) | apply Blk.three | apply Blk.seven | apply Blk.nine | (refine Blk.far ?_ ?z _; case z => ((try dsimp only); (first | omega | (simp <;> omega)))) | refine Blk.alloc ?_ _ | refine Blk.drew ?_ | refine Blk.turnTo ?_ (ho (by assumption)) ?_ | refine Blk.belowB ?_ (ho (by assumption)) ?_) <;> (first | omega | (simp <;> omega)))
            case k1 | k2 => exact (by with_reducible (repeat first | exact kR _ _ _ | assumption | exact ho (by assumption) | refine kD ?_ | refine kA ?_ _ | refine kS ?_ ?_ _ | refine kC ?_ (ho (by assumption))) <;> (first | omega | (simp <;> omega)))
    · go_wp2
      refine hK _ _ (by with_reducible (repeat first | exact bR _ _ | assumption | exact ho (by assumption) | refine bD ?_ | refine bA ?_ ?_ _ | refine bS ?_ ?_ _ | refine bC ?_ (ho (by assumption)) ?_) <;> (first | omega | (simp <;> omega))) (fun hS => ?_)
      clear hK
      try simp only [Act.put, gA, gB, gC, sA, sB, sC]
      refine wpL.two 1 5 rfl rfl (by kernel_rfl) rfl rfl ?_ ?_  <;> intro K hK
      · go_wp2_with fail
        (with_reducible refine Calls.mono (HLD.out _ (by with_reducible (repeat first | exact bR _ _ | assumption | exact ho (by assumption) | refine bD ?_ | refine bA ?_ ?_ _ | refine bS ?_ ?_ _ | refine bC ?_ (ho (by assumption)) ?_) <;> (first | omega | (simp <;> omega)))) ?_)
        rintro e w5 ⟨⟨ax, cx, rfl, hr, hl⟩, hb⟩
        have HR5 := Lib.hid hr
        have HL5 := Lib.hid hl
        obtain ⟨hc_w5, hf_w5⟩ := bcell hb
        have HB_w5 : Hid (Below W0.heap.size W0 w5) := Lib.hid (below_step (by with_reducible (repeat first | exact bR _ _ | assumption | exact ho (by assumption) | refine bD ?_ | refine bN ?_ _ | refine bA ?_ ?_ _ | refine bS ?_ ?_ _) <;> (first | omega | (simp <;> omega))) hb)
        have hs_w5 := hb.size
        try simp only [World.size_alloc, sz_set, sz_drew, sz_drewN] at hs_w5
        have HK_w5 := Lib.hid hb
        have HC_w5 := Lib.hid (callTo hb)
        clear hb
        try have l0_w5 : W0.heap.size < w5.heap.size := by omega
        try have n0_w5 : W0.heap.size ≠ w5.heap.size := by omega
        try have l1_w5 : W0.heap.size + 1 < w5.heap.size := by omega
        try have n1_w5 : W0.heap.size + 1 ≠ w5.heap.size := by omega
        clear hr hl
        refine hK _ _ (by with_reducible (repeat first | exact bR _ _ | assumption | exact ho (by assumption) | refine bD ?_ | refine bA ?_ ?_ _ | refine bS ?_ ?_ _ | refine bC ?_ (ho (by assumption)) ?_) <;> (first | omega | (simp <;> omega))) (fun hS => ?_)
        clear hK
        try simp only [Act.put, gA, gB, gC, sA, sB, sC]
        refine wpL.two 3 5 rfl rfl (by kernel_rfl) rfl rfl ?_ ?_  <;> intro K hK
        · go_wp2_with fail
          (with_reducible refine Calls.mono (HLE.out _ (by with_reducible (repeat first | exact bR _ _ | assumption | exact ho (by assumption) | refine bD ?_ | refine bA ?_ ?_ _ | refine bS ?_ ?_ _ | refine bC ?_ (ho (by assumption)) ?_) <;> (first | omega | (simp <;> omega)))) ?_)
          rintro e w6 ⟨⟨az, cz, rfl, hr, hl⟩, hb⟩
          have HR6 := Lib.hid hr
          have HL6 := Lib.hid hl
          obtain ⟨hc_w6, hf_w6⟩ := bcell hb
          have HB_w6 : Hid (Below W0.heap.size W0 w6) := Lib.hid (below_step (by with_reducible (repeat first | exact bR _ _ | assumption | exact ho (by assumption) | refine bD ?_ | refine bN ?_ _ | refine bA ?_ ?_ _ | refine bS ?_ ?_ _) <;> (first | omega | (simp <;> omega))) hb)
          have hs_w6 := hb.size
          try simp only [World.size_alloc, sz_set, sz_drew, sz_drewN] at hs_w6
          have HK_w6 := Lib.hid hb
          have HC_w6 := Lib.hid (callTo hb)
          clear hb
          try have l0_w6 : W0.heap.size < w6.heap.size := by omega
          try have n0_w6 : W0.heap.size ≠ w6.heap.size := by omega
          try have l1_w6 : W0.heap.size + 1 < w6.heap.size := by omega
          try have n1_w6 : W0.heap.size + 1 ≠ w6.heap.size := by omega
          try have l2_w6 : w5.heap.size < w6.heap.size := by omega
          try have n2_w6 : w5.heap.size ≠ w6.heap.size := by omega
          try have l3_w6 : w5.heap.size + 1 < w6.heap.size := by omega
          try have n3_w6 : w5.heap.size + 1 ≠ w6.heap.size := by omega
          clear hr hl
          refine hK _ _ (by with_reducible (repeat first | exact bR _ _ | assumption | exact ho (by assumption) | refine bD ?_ | refine bA ?_ ?_ _ | refine bS ?_ ?_ _ | refine bC ?_ (ho (by assumption)) ?_) <;> (first | omega | (simp <;> omega))) (fun hS => ?_)
          clear hK
          try simp only [Act.put, gA, gB, gC, sA, sB, sC]
          refine wpL.eff 5 rfl (by kernel_rfl) rfl ?_
          intro K hK
          go_wp2
          refine hK _ _ (by with_reducible (repeat first | exact bR _ _ | assumption | exact ho (by assumption) | refine bD ?_ | refine bA ?_ ?_ _ | refine bS ?_ ?_ _ | refine bC ?_ (ho (by assumption)) ?_) <;> (first | omega | (simp <;> omega))) (fun hS => ?_)
          clear hK
          try simp only [Act.put, gA, gB, gC, sA, sB, sC]
          refine wpL.eff 6 rfl (by kernel_rfl) rfl ?_
          intro K hK
          go_wp2
          refine hK _ _ (by with_reducible (repeat first | exact bR _ _ | assumption | exact ho (by assumption) | refine bD ?_ | refine bA ?_ ?_ _ | refine bS ?_ ?_ _ | refine bC ?_ (ho (by assumption)) ?_) <;> (first | omega | (simp <;> omega))) (fun hS => ?_)
          clear hK
          try simp only [Act.put, gA, gB, gC, sA, sB, sC]
          refine wpL.last 7 rfl (by kernel_rfl) rfl (by kernel_rfl) rfl ?_
          go_wp2_with fail
          go_meet
          case rel =>
            refine ⟨_, _, ax, cx, az, cz, rfl, rfl, Lib.hid ?b1, Lib.hid ?b2, Lib.hid ⟨(HR5.out.kp ?k1).rd, HL5.out⟩, Lib.hid ⟨(HR6.out.kp ?k2).rd, HL6.out⟩, Lib.hid (by with_reducible (repeat first | exact bR _ _ | assumption | exact ho (by assumption) | refine bD ?_ | refine bA ?_ ?_ _ | refine bS ?_ ?_ _ | refine bC ?_ (ho (by assumption)) ?_) <;> (first | omega | (simp <;> omega)))⟩
            case b1 | b2 => exact (by with_reducible (repeat first | assumption | exact ho (by assumption) | (refine Blk.newAt ?z; case z => first | rfl | (first | omega | (simp <;> omega))) | apply Blk.three | apply Blk.seven | apply Blk.nine | (refine Blk.far ?_ ?z _; case z => ((try dsimp only); (first | omega | (simp <;> omega)))) | refine Blk.alloc ?_ _ | refine Blk.drew ?_ | refine Blk.turnTo ?_ (ho (by assumption)) ?_ | refine Blk.belowB ?_ (ho (by assumption)) ?_) <;> (first | omega | (simp <;> omega)))
            case k1 | k2 => exact (by with_reducible (repeat first | exact kR _ _ _ | assumption | exact ho (by assumption) | refine kD ?_ | refine kA ?_ _ | refine kS ?_ ?_ _ | refine kC ?_ (ho (by assumption))) <;> (first | omega | (simp <;> omega)))
        · go_wp2
          refine hK _ _ (by with_reducible (repeat first | exact bR _ _ | assumption | exact ho (by assumption) | refine bD ?_ | refine bA ?_ ?_ _ | refine bS ?_ ?_ _ | refine bC ?_ (ho (by assumption)) ?_) <;> (first | omega | (simp <;> omega))) (fun hS => ?_)
          clear hK
          try simp only [Act.put, gA, gB, gC, sA, sB, sC]
          refine wpL.eff 3 rfl (by kernel_rfl) rfl ?_
          intro K hK
          go_wp2_with fail
          (with_reducible refine Calls.mono (HLE.out _ (by with_reducible (repeat first | exact bR _ _ | assumption | exact ho (by assumption) | refine bD ?_ | refine bA ?_ ?_ _ | refine bS ?_ ?_ _ | refine bC ?_ (ho (by assumption)) ?_) <;> (first | omega | (simp <;> omega)))) ?_)
          rintro e w6 ⟨⟨az, cz, rfl, hr, hl⟩, hb⟩
          have HR6 := Lib.hid hr
          have HL6 := Lib.hid hl
          obtain ⟨hc_w6, hf_w6⟩ := bcell hb
          have HB_w6 : Hid (Below W0.heap.size W0 w6) := Lib.hid (below_step (by with_reducible (repeat first | exact bR _ _ | assumption | exact ho (by assumption) | refine bD ?_ | refine bN ?_ _ | refine bA ?_ ?_ _ | refine bS ?_ ?_ _) <;> (first | omega | (simp <;> omega))) hb)
          have hs_w6 := hb.size
          try simp only [World.size_alloc, sz_set, sz_drew, sz_drewN] at hs_w6
          have HK_w6 := Lib.hid hb
          have HC_w6 := Lib.hid (callTo hb)
          clear hb
          try have l0_w6 : W0.heap.size < w6.heap.size := by omega
          try have n0_w6 : W0.heap.size ≠ w6.heap.size := by omega
          try have l1_w6 : W0.heap.size + 1 < w6.heap.size := by omega
          try have n1_w6 : W0.heap.size + 1 ≠ w6.heap.size := by omega
          try have l2_w6 : w5.heap.size < w6.heap.size := by omega
          try have n2_w6 : w5.heap.size ≠ w6.heap.size := by omega
          try have l3_w6 : w5.heap.size + 1 < w6.heap.size := by omega
          try have n3_w6 : w5.heap.size + 1 ≠ w6.heap.size := by omega
          clear hr hl
          refine hK _ _ (by with_reducible (repeat first | exact bR _ _ | assumption | exact ho (by assumption) | refine bD ?_ | refine bA ?_ ?_ _ | refine bS ?_ ?_ _ | refine bC ?_ (ho (by assumption)) ?_) <;> (first | omega | (simp <;> omega))) (fun hS => ?_)
          clear hK
          try simp only [Act.put, gA, gB, gC, sA, sB, sC]
          refine wpL.eff 6 rfl (by kernel_rfl) rfl ?_
          intro K hK
          go_wp2
          refine hK _ _ (by with_reducible (repeat first | exact bR _ _ | assumption | exact ho (by assumption) | refine bD ?_ | refine bA ?_ ?_ _ | refine bS ?_ ?_ _ | refine bC ?_ (ho (by assumption)) ?_) <;> (first | omega | (simp <;> omega))) (fun hS => ?_)
          clear hK
          try simp only [Act.put, gA, gB, gC, sA, sB, sC]
          refine wpL.last 7 rfl (by kernel_rfl) rfl (by kernel_rfl) rfl ?_
          go_wp2_with fail
          go_meet
          case rel =>
            refine ⟨_, _, ax, cx, az, cz, rfl, rfl, Lib.hid ?b1, Lib.hid ?b2, Lib.hid ⟨(HR5.out.kp ?k1).rd, HL5.out⟩, Lib.hid ⟨(HR6.out.kp ?k2).rd, HL6.out⟩, Lib.hid (by with_reducible (repeat first | exact bR _ _ | assumption | exact ho (by assumption) | refine bD ?_ | refine bA ?_ ?_ _ | refine bS ?_ ?_ _ | refine bC ?_ (ho (by assumption)) ?_) <;> (first | omega | (simp <;> omega)))⟩
            case b1 | b2 => exact (by with_reducible (repeat first | assumption | exact ho (by assumption) | (refine Blk.newAt ?z; case z => first | rfl | (first | omega | (simp <;> omega))) | apply Blk.three | apply Blk.seven | apply Blk.nine | (refine Blk.far ?_ ?z _; case z => ((try dsimp only); (first | omega | (simp <;> omega)))) | refine Blk.alloc ?_ _ | refine Blk.drew ?_ | refine Blk.turnTo ?_ (ho (by assumption)) ?_ | refine Blk.belowB ?_ (ho (by assumption)) ?_) <;> (first | omega | (simp <;> omega)))
            case k1 | k2 => exact (by with_reducible (repeat first | exact kR _ _ _ | assumption | exact ho (by assumption) | refine kD ?_ | refine kA ?_ _ | refine kS ?_ ?_ _ | refine kC ?_ (ho (by assumption))) <;> (first | omega | (simp <;> omega)))
      · go_wp2
        refine hK _ _ (by with_reducible (repeat first | exact bR _ _ | assumption | exact ho (by assumption) | refine bD ?_ | refine bA ?_ ?_ _ | refine bS ?_ ?_ _ | refine bC ?_ (ho (by assumption)) ?_) <;> (first | omega | (simp <;> omega))) (fun hS => ?_)
        clear hK
        try simp only [Act.put, gA, gB, gC, sA, sB, sC]
        refine wpL.eff 1 rfl (by kernel_rfl) rfl ?_
        intro K hK
        go_wp2_with fail
        (with_reducible refine Calls.mono (HLD.out _ (by with_reducible (repeat first | exact bR _ _ | assumption | exact ho (by assumption) | refine bD ?_ | refine bA ?_ ?_ _ | refine bS ?_ ?_ _ | refine bC ?_ (ho (by assumption)) ?_) <;> (first | omega | (simp <;> omega)))) ?_)
        rintro e w5 ⟨⟨ax, cx, rfl, hr, hl⟩, hb⟩
        have HR5 := Lib.hid hr
        have HL5 := Lib.hid hl
        obtain ⟨hc_w5, hf_w5⟩ := bcell hb
        have HB_w5 : Hid (Below W0.heap.size W0 w5) := Lib.hid (below_step (by with_reducible (repeat first | exact bR _ _ | assumption | exact ho (by assumption) | refine bD ?_ | refine bN ?_ _ | refine bA ?_ ?_ _ | refine bS ?_ ?_ _) <;> (first | omega | (simp <;> omega))) hb)
        have hs_w5 := hb.size
        try simp only [World.size_alloc, sz_set, sz_drew, sz_drewN] at hs_w5
        have HK_w5 := Lib.hid hb
        have HC_w5 := Lib.hid (callTo hb)
        clear hb
        try have l0_w5 : W0.heap.size < w5.heap.size := by omega
        try have n0_w5 : W0.heap.size ≠ w5.heap.size := by omega
        try have l1_w5 : W0.heap.size + 1 < w5.heap.size := by omega
        try have n1_w5 : W0.heap.size + 1 ≠ w5.heap.size := by omega
        clear hr hl
        refine hK _ _ (by with_reducible (repeat first | exact bR _ _ | assumption | exact ho (by assumption) | refine bD ?_ | refine bA ?_ ?_ _ | refine bS ?_ ?_ _ | refine bC ?_ (ho (by assumption)) ?_) <;> (first | omega | (simp <;> omega))) (fun hS => ?_)
        clear hK
        try simp only [Act.put, gA, gB, gC, sA, sB, sC]
        refine wpL.eff 3 rfl (by kernel_rfl) rfl ?_
        intro K hK
        go_wp2_with fail
        (with_reducible refine Calls.mono (HLE.out _ (by with_reducible (repeat first | exact bR _ _ | assumption | exact ho (by assumption) | refine bD ?_ | refine bA ?_ ?_ _ | refine bS ?_ ?_ _ | refine bC ?_ (ho (by assumption)) ?_) <;> (first | omega | (simp <;> omega)))) ?_)
        rintro e w6 ⟨⟨az, cz, rfl, hr, hl⟩, hb⟩
        have HR6 := Lib.hid hr
        have HL6 := Lib.hid hl
        obtain ⟨hc_w6, hf_w6⟩ := bcell hb
        have HB_w6 : Hid (Below W0.heap.size W0 w6) := Lib.hid (below_step (by with_reducible (repeat first | exact bR _ _ | assumption | exact ho (by assumption) | refine bD ?_ | refine bN ?_ _ | refine bA ?_ ?_ _ | refine bS ?_ ?_ _) <;> (first | omega | (simp <;> omega))) hb)
        have hs_w6 := hb.size
        try simp only [World.size_alloc, sz_set, sz_drew, sz_drewN] at hs_w6
        have HK_w6 := Lib.hid hb
        have HC_w6 := Lib.hid (callTo hb)
        clear hb
        try have l0_w6 : W0.heap.size < w6.heap.size := by omega
        try have n0_w6 : W0.heap.size ≠ w6.heap.size := by omega
        try have l1_w6 : W0.heap.size + 1 < w6.heap.size := by omega
        try have n1_w6 : W0.heap.size + 1 ≠ w6.heap.size := by omega
        try have l2_w6 : w5.heap.size < w6.heap.size := by omega
        try have n2_w6 : w5.heap.size ≠ w6.heap.size := by omega
        try have l3_w6 : w5.heap.size + 1 < w6.heap.size := by omega
        try have n3_w6 : w5.heap.size + 1 ≠ w6.heap.size := by omega
        clear hr hl
        refine hK _ _ (by with_reducible (repeat first | exact bR _ _ | assumption | exact ho (by assumption) | refine bD ?_ | refine bA ?_ ?_ _ | refine bS ?_ ?_ _ | refine bC ?_ (ho (by assumption)) ?_) <;> (first | omega | (simp <;> omega))) (fun hS => ?_)
        clear hK
        try simp only [Act.put, gA, gB, gC, sA, sB, sC]
        refine wpL.eff 6 rfl (by kernel_rfl) rfl ?_
        intro K hK
        go_wp2
        refine hK _ _ (by with_reducible (repeat first | exact bR _ _ | assumption | exact ho (by assumption) | refine bD ?_ | refine bA ?_ ?_ _ | refine bS ?_ ?_ _ | refine bC ?_ (ho (by assumption)) ?_) <;> (first | omega | (simp <;> omega))) (fun hS => ?_)
        clear hK
        try simp only [Act.put, gA, gB, gC, sA, sB, sC]
        refine wpL.last 7 rfl (by kernel_rfl) rfl (by kernel_rfl) rfl ?_
        go_wp2_with fail
        go_meet
        case rel =>
          refine ⟨_, _, ax, cx, az, cz, rfl, rfl, Lib.hid ?b1, Lib.hid ?b2, Lib.hid ⟨(HR5.out.kp ?k1).rd, HL5.out⟩, Lib.hid ⟨(HR6.out.kp ?k2).rd, HL6.out⟩, Lib.hid (by with_reducible (repeat first | exact bR _ _ | assumption | exact ho (by assumption) | refine bD ?_ | refine bA ?_ ?_ _ | refine bS ?_ ?_ _ | refine bC ?_ (ho (by assumption)) ?_) <;> (first | omega | (simp <;> omega)))⟩
          case b1 | b2 => exact (by with_reducible (repeat first | assumption | exact ho (by assumption) | (refine Blk.newAt ?z; case z => first | rfl | (first | omega | (simp <;> omega))) | apply Blk.three | apply Blk.seven | apply Blk.nine | (refine Blk.far ?_ ?z _; case z => ((try dsimp only); (first | omega | (simp <;> omega)))) | refine Blk.alloc ?_ _ | refine Blk.drew ?_ | refine Blk.turnTo ?_ (ho (by assumption)) ?_ | refine Blk.belowB ?_ (ho (by assumption)) ?_) <;> (first | omega | (simp <;> omega)))
          case k1 | k2 => exact (by with_reducible (repeat first | exact kR _ _ _ | assumption | exact ho (by assumption) | refine kD ?_ | refine kA ?_ _ | refine kS ?_ ?_ _ | refine kC ?_ (ho (by assumption))) <;> (first | omega | (simp <;> omega)))
    · go_wp2
      refine hK _ _ (by with_reducible (repeat first | exact bR _ _ | assumption | exact ho (by assumption) | refine bD ?_ | refine bA ?_ ?_ _ | refine bS ?_ ?_ _ | refine bC ?_ (ho (by assumption)) ?_) <;> (first | omega | (simp <;> omega))) (fun hS => ?_)
      clear hK
      try simp only [Act.put, gA, gB, gC, sA, sB, sC]
      refine wpL.two 1 4 rfl rfl (by kernel_rfl) rfl rfl ?_ ?_  <;> intro K hK
      · go_wp2_with fail
        (with_reducible refine Calls.mono (HLD.out _ (by with_reducible (repeat first | exact bR _ _ | assumption | exact ho (by assumption) | refine bD ?_ | refine bA ?_ ?_ _ | refine bS ?_ ?_ _ | refine bC ?_ (ho (by assumption)) ?_) <;> (first | omega | (simp <;> omega)))) ?_)
        rintro e w5 ⟨⟨ax, cx, rfl, hr, hl⟩, hb⟩
        have HR5 := Lib.hid hr
        have HL5 := Lib.hid hl
        obtain ⟨hc_w5, hf_w5⟩ := bcell hb
        have HB_w5 : Hid (Below W0.heap.size W0 w5) := Lib.hid (below_step (by with_reducible (repeat first | exact bR _ _ | assumption | exact ho (by assumption) | refine bD ?_ | refine bN ?_ _ | refine bA ?_ ?_ _ | refine bS ?_ ?_ _) <;> (first | omega | (simp <;> omega))) hb)
        have hs_w5 := hb.size
        try simp only [World.size_alloc, sz_set, sz_drew, sz_drewN] at hs_w5
        have HK_w5 := Lib.hid hb
        have HC_w5 := Lib.hid (callTo hb)
        clear hb
        try have l0_w5 : W0.heap.size < w5.heap.size := by omega
        try have n0_w5 : W0.heap.size ≠ w5.heap.size := by omega
        try have l1_w5 : W0.heap.size + 1 < w5.heap.size := by omega
        try have n1_w5 : W0.heap.size + 1 ≠ w5.heap.size := by omega
        clear hr hl
        refine hK _ _ (by with_reducible (repeat first | exact bR _ _ | assumption | exact ho (by assumption) | refine bD ?_ | refine bA ?_ ?_ _ | refine bS ?_ ?_ _ | refine bC ?_ (ho (by assumption)) ?_) <;> (first | omega | (simp <;> omega))) (fun hS => ?_)
        clear hK
        try simp only [Act.put, gA, gB, gC, sA, sB, sC]
        refine wpL.two 3 4 rfl rfl (by kernel_rfl) rfl rfl ?_ ?_  <;> intro K hK
        · go_wp2_with fail
          (with_reducible refine Calls.mono (HLE.out _ (by with_reducible (repeat first | exact bR _ _ | assumption | exact ho (by assumption) | refine bD ?_ | refine bA ?_ ?_ _ | refine bS ?_ ?_ _ | refine bC ?_ (ho (by assumption)) ?_) <;> (first | omega | (simp <;> omega)))) ?_)
          rintro e w6 ⟨⟨az, cz, rfl, hr, hl⟩, hb⟩
          have HR6 := Lib.hid hr
          have HL6 := Lib.hid hl
          obtain ⟨hc_w6, hf_w6⟩ := bcell hb
          have HB_w6 : Hid (Below W0.heap.size W0 w6) := Lib.hid (below_step (by with_reducible (repeat first | exact bR _ _ | assumption | exact ho (by assumption) | refine bD ?_ | refine bN ?_ _ | refine bA ?_ ?_ _ | refine bS ?_ ?_ _) <;> (first | omega | (simp <;> omega))) hb)
          have hs_w6 := hb.size
          try simp only [World.size_alloc, sz_set, sz_drew, sz_drewN] at hs_w6
          have HK_w6 := Lib.hid hb
          have HC_w6 := Lib.hid (callTo hb)
          clear hb
          try have l0_w6 : W0.heap.size < w6.heap.size := by omega
          try have n0_w6 : W0.heap.size ≠ w6.heap.size := by omega
          try have l1_w6 : W0.heap.size + 1 < w6.heap.size := by omega
          try have n1_w6 : W0.heap.size + 1 ≠ w6.heap.size := by omega
          try have l2_w6 : w5.heap.size < w6.heap.size := by omega
          try have n2_w6 : w5.heap.size ≠ w6.heap.size := by omega
          try have l3_w6 : w5.heap.size + 1 < w6.heap.size := by omega
          try have n3_w6 : w5.heap.size + 1 ≠ w6.heap.size := by omega
          clear hr hl
          refine hK _ _ (by with_reducible (repeat first | exact bR _ _ | assumption | exact ho (by assumption) | refine bD ?_ | refine bA ?_ ?_ _ | refine bS ?_ ?_ _ | refine bC ?_ (ho (by assumption)) ?_) <;> (first | omega | (simp <;> omega))) (fun hS => ?_)
          clear hK
          try simp only [Act.put, gA, gB, gC, sA, sB, sC]
          refine wpL.eff 4 rfl (by kernel_rfl) rfl ?_
          intro K hK
          go_wp2
          refine hK _ _ (by with_reducible (repeat first | exact bR _ _ | assumption | exact ho (by assumption) | refine bD ?_ | refine bA ?_ ?_ _ | refine bS ?_ ?_ _ | refine bC ?_ (ho (by assumption)) ?_) <;> (first | omega | (simp <;> omega))) (fun hS => ?_)
          clear hK
          try simp only [Act.put, gA, gB, gC, sA, sB, sC]
          refine wpL.eff 6 rfl (by kernel_rfl) rfl ?_
          intro K hK
          go_wp2
          refine hK _ _ (by with_reducible (repeat first | exact bR _ _ | assumption | exact ho (by assumption) | refine bD ?_ | refine bA ?_ ?_ _ | refine bS ?_ ?_ _ | refine bC ?_ (ho (by assumption)) ?_) <;> (first | omega | (simp <;> omega))) (fun hS => ?_)
          clear hK
          try simp only [Act.put, gA, gB, gC, sA, sB, sC]
          refine wpL.last 7 rfl (by kernel_rfl) rfl (by kernel_rfl) rfl ?_
          go_wp2_with fail
          go_meet
          case rel =>
            refine ⟨_, _, ax, cx, az, cz, rfl, rfl, Lib.hid ?b1, Lib.hid ?b2, Lib.hid ⟨(HR5.out.kp ?k1).rd, HL5.out⟩, Lib.hid ⟨(HR6.out.kp ?k2).rd, HL6.out⟩, Lib.hid (by with_reducible (repeat first | exact bR _ _ | assumption | exact ho (by assumption) | refine bD ?_ | refine bA ?_ ?_ _ | refine bS ?_ ?_ _ | refine bC ?_ (ho (by assumption)) ?_) <;> (first | omega | (simp <;> omega)))⟩
            case b1 | b2 => exact (by with_reducible (repeat first | assumption | exact ho (by assumption) | (refine Blk.newAt ?z; case z => first | rfl | (first | omega | (simp <;> omega))) | apply Blk.three | apply Blk.seven | apply Blk.nine | (refine Blk.far ?_ ?z _; case z => ((try dsimp only); (first | omega | (simp <;> omega)))) | refine Blk.alloc ?_ _ | refine Blk.drew ?_ | refine Blk.turnTo ?_ (ho (by assumption)) ?_ | refine Blk.belowB ?_ (ho (by assumption)) ?_) <;> (first | omega | (simp <;> omega)))
            case k1 | k2 => exact (by with_reducible (repeat first | exact kR _ _ _ | assumption | exact ho (by assumption) | refine kD ?_ | refine kA ?_ _ | refine kS ?_ ?_ _ | refine kC ?_ (ho (by assumption))) <;> (first | omega | (simp <;> omega)))
        · go_wp2
          refine hK _ _ (by with_reducible (repeat first | exact bR _ _ | assumption | exact ho (by assumption) | refine bD ?_ | refine bA ?_ ?_ _ | refine bS ?_ ?_ _ | refine bC ?_ (ho (by assumption)) ?_) <;> (first | omega | (simp <;> omega))) (fun hS => ?_)
          clear hK
          try simp only [Act.put, gA, gB, gC, sA, sB, sC]
          refine wpL.eff 3 rfl (by kernel_rfl) rfl ?_
          intro K hK
          go_wp2_with fail
          (with_reducible refine Calls.mono (HLE.out _ (by with_reducible (repeat first | exact bR _ _ | assumption | exact ho (by assumption) | refine bD ?_ | refine bA ?_ ?_ _ | refine bS ?_ ?_ _ | refine bC ?_ (ho (by assumption)) ?_) <;> (first | omega | (simp <;> omega)))) ?_)
          rintro e w6 ⟨⟨az, cz, rfl, hr, hl⟩, hb⟩
          have HR6 := Lib.hid hr
          have HL6 := Lib.hid hl
          obtain ⟨hc_w6, hf_w6⟩ := bcell hb
          have HB_w6 : Hid (Below W0.heap.size W0 w6) := Lib.hid (below_step (by with_reducible (repeat first | exact bR _ _ | assumption | exact ho (by assumption) | refine bD ?_ | refine bN ?_ _ | refine bA ?_ ?_ _ | refine bS ?_ ?_ _) <;> (first | omega | (simp <;> omega))) hb)
          have hs_w6 := hb.size
          try simp only [World.size_alloc, sz_set, sz_drew, sz_drewN] at hs_w6
          have HK_w6 := Lib.hid hb
          have HC_w6 := Lib.hid (callTo hb)
          clear hb
          try have l0_w6 : W0.heap.size < w6.heap.size := by omega
          try have n0_w6 : W0.heap.size ≠ w6.heap.size := by omega
          try have l1_w6 : W0.heap.size + 1 < w6.heap.size := by omega
          try have n1_w6 : W0.heap.size + 1 ≠ w6.heap.size := by omega
          try have l2_w6 : w5.heap.size < w6.heap.size := by omega
          try have n2_w6 : w5.heap.size ≠ w6.heap.size := by omega
          try have l3_w6 : w5.heap.size + 1 < w6.heap.size := by omega
          try have n3_w6 : w5.heap.size + 1 ≠ w6.heap.size := by omega
          clear hr hl
          refine hK _ _ (by with_reducible (repeat first | exact bR _ _ | assumption | exact ho (by assumption) | refine bD ?_ | refine bA ?_ ?_ _ | refine bS ?_ ?_ _ | refine bC ?_ (ho (by assumption)) ?_) <;> (first | omega | (simp <;> omega))) (fun hS => ?_)
          clear hK
          try simp only [Act.put, gA, gB, gC, sA, sB, sC]
          refine wpL.eff 6 rfl (by kernel_rfl) rfl ?_
          intro K hK
          go_wp2
          refine hK _ _ (by with_reducible (repeat first | exact bR _ _ | assumption | exact ho (by assumption) | refine bD ?_ | refine bA ?_ ?_ _ | refine bS ?_ ?_ _ | refine bC ?_ (ho (by assumption)) ?_) <;> (first | omega | (simp <;> omega))) (fun hS => ?_)
          clear hK
          try simp only [Act.put, gA, gB, gC, sA, sB, sC]
          refine wpL.last 7 rfl (by kernel_rfl) rfl (by kernel_rfl) rfl ?_
          go_wp2_with fail
          go_meet
          case rel =>
            refine ⟨_, _, ax, cx, az, cz, rfl, rfl, Lib.hid ?b1, Lib.hid ?b2, Lib.hid ⟨(HR5.out.kp ?k1).rd, HL5.out⟩, Lib.hid ⟨(HR6.out.kp ?k2).rd, HL6.out⟩, Lib.hid (by with_reducible (repeat first | exact bR _ _ | assumption | exact ho (by assumption) | refine bD ?_ | refine bA ?_ ?_ _ | refine bS ?_ ?_ _ | refine bC ?_ (ho (by assumption)) ?_) <;> (first | omega | (simp <;> omega)))⟩
            case b1 | b2 => exact (by with_reducible (repeat first | assumption | exact ho (by assumption) | (refine Blk.newAt ?z; case z => first | rfl | (first | omega | (simp <;> omega))) | apply Blk.three | apply Blk.seven | apply Blk.nine | (refine Blk.far ?_ ?z _; case z => ((try dsimp only); (first | omega | (simp <;> omega)))) | refine Blk.alloc ?_ _ | refine Blk.drew ?_ | refine Blk.turnTo ?_ (ho (by assumption)) ?_ | refine Blk.belowB ?_ (ho (by assumption)) ?_) <;> (first | omega | (simp <;> omega)))
            case k1 | k2 => exact (by with_reducible (repeat first | exact kR _ _ _ | assumption | exact ho (by assumption) | refine kD ?_ | refine kA ?_ _ | refine kS ?_ ?_ _ | refine kC ?_ (ho (by assumption))) <;> (first | omega | (simp <;> omega)))
      · go_wp2
        refine hK _ _ (by with_reducible (repeat first | exact bR _ _ | assumption | exact ho (by assumption) | refine bD ?_ | refine bA ?_ ?_ _ | refine bS ?_ ?_ _ | refine bC ?_ (ho (by assumption)) ?_) <;> (first | omega | (simp <;> omega))) (fun hS => ?_)
        clear hK
        try simp only [Act.put, gA, gB, gC, sA, sB, sC]
        refine wpL.eff 1 rfl (by kernel_rfl) rfl ?_
        intro K hK
        go_wp2_with fail
        (with_reducible refine Calls.mono (HLD.out _ (by with_reducible (repeat first | exact bR _ _ | assumption | exact ho (by assumption) | refine bD ?_ | refine bA ?_ ?_ _ | refine bS ?_ ?_ _ | refine bC ?_ (ho (by assumption)) ?_) <;> (first | omega | (simp <;> omega)))) ?_)
        rintro e w5 ⟨⟨ax, cx, rfl, hr, hl⟩, hb⟩
        have HR5 := Lib.hid hr
        have HL5 := Lib.hid hl
        obtain ⟨hc_w5, hf_w5⟩ := bcell hb
        have HB_w5 : Hid (Below W0.heap.size W0 w5) := Lib.hid (below_step (by with_reducible (repeat first | exact bR _ _ | assumption | exact ho (by assumption) | refine bD ?_ | refine bN ?_ _ | refine bA ?_ ?_ _ | refine bS ?_ ?_ _) <;> (first | omega | (simp <;> omega))) hb)
        have hs_w5 := hb.size
        try simp only [World.size_alloc, sz_set, sz_drew, sz_drewN] at hs_w5
        have HK_w5 := Lib.hid hb
        have HC_w5 := Lib.hid (callTo hb)
        clear hb
        try have l0_w5 : W0.heap.size < w5.heap.size := by omega
        try have n0_w5 : W0.heap.size ≠ w5.heap.size := by omega
        try have l1_w5 : W0.heap.size + 1 < w5.heap.size := by omega
        try have n1_w5 : W0.heap.size + 1 ≠ w5.heap.size := by omega
        clear hr hl
        refine hK _ _ (by with_reducible (repeat first | exact bR _ _ | assumption | exact ho (by assumption) | refine bD ?_ | refine bA ?_ ?_ _ | refine bS ?_ ?_ _ | refine bC ?_ (ho (by assumption)) ?_) <;> (first | omega | (simp <;> omega))) (fun hS => ?_)
        clear hK
        try simp only [Act.put, gA, gB, gC, sA, sB, sC]
        refine wpL.eff 3 rfl (by kernel_rfl) rfl ?_
        intro K hK
        go_wp2_with fail
        (with_reducible refine Calls.mono (HLE.out _ (by with_reducible (repeat first | exact bR _ _ | assumption | exact ho (by assumption) | refine bD ?_ | refine bA ?_ ?_ _ | refine bS ?_ ?_ _ | refine bC ?_ (ho (by assumption)) ?_) <;> (first | omega | (simp <;> omega)))) ?_)
        rintro e w6 ⟨⟨az, cz, rfl, hr, hl⟩, hb⟩
        have HR6 := Lib.hid hr
        have HL6 := Lib.hid hl
        obtain ⟨hc_w6, hf_w6⟩ := bcell hb
        have HB_w6 : Hid (Below W0.heap.size W0 w6) := Lib.hid (below_step (by with_reducible (repeat first | exact bR _ _ | assumption | exact ho (by assumption) | refine bD ?_ | refine bN ?_ _ | refine bA ?_ ?_ _ | refine bS ?_ ?_ _) <;> (first | omega | (simp <;> omega))) hb)
        have hs_w6 := hb.size
        try simp only [World.size_alloc, sz_set, sz_drew, sz_drewN] at hs_w6
        have HK_w6 := Lib.hid hb
        have HC_w6 := Lib.hid (callTo hb)
        clear hb
        try have l0_w6 : W0.heap.size < w6.heap.size := by omega
        try have n0_w6 : W0.heap.size ≠ w6.heap.size := by omega
        try have l1_w6 : W0.heap.size + 1 < w6.heap.size := by omega
        try have n1_w6 : W0.heap.size + 1 ≠ w6.heap.size := by omega
        try have l2_w6 : w5.heap.size < w6.heap.size := by omega
        try have n2_w6 : w5.heap.size ≠ w6.heap.size := by omega
        try have l3_w6 : w5.heap.size + 1 < w6.heap.size := by omega
        try have n3_w6 : w5.heap.size + 1 ≠ w6.heap.size := by omega
        clear hr hl
        refine hK _ _ (by with_reducible (repeat first | exact bR _ _ | assumption | exact ho (by assumption) | refine bD ?_ | refine bA ?_ ?_ _ | refine bS ?_ ?_ _ | refine bC ?_ (ho (by assumption)) ?_) <;> (first | omega | (simp <;> omega))) (fun hS => ?_)
        clear hK
        try simp only [Act.put, gA, gB, gC, sA, sB, sC]
        refine wpL.eff 6 rfl (by kernel_rfl) rfl ?_
        intro K hK
        go_wp2
        refine hK _ _ (by with_reducible (repeat first | exact bR _ _ | assumption | exact ho (by assumption) | refine bD ?_ | refine bA ?_ ?_ _ | refine bS ?_ ?_ _ | refine bC ?_ (ho (by assumption)) ?_) <;> (first | omega | (simp <;> omega))) (fun hS => ?_)
        clear hK
        try simp only [Act.put, gA, gB, gC, sA, sB, sC]
        refine wpL.last 7 rfl (by kernel_rfl) rfl (by kernel_rfl) rfl ?_
        go_wp2_with fail
        go_meet
        case rel =>
          refine ⟨_, _, ax, cx, az, cz, rfl, rfl, Lib.hid ?b1, Lib.hid ?b2, Lib.hid ⟨(HR5.out.kp ?k1).rd, HL5.out⟩, Lib.hid ⟨(HR6.out.kp ?k2).rd, HL6.out⟩, Lib.hid (by with_reducible (repeat first | exact bR _ _ | assumption | exact ho (by assumption) | refine bD ?_ | refine bA ?_ ?_ _ | refine bS ?_ ?_ _ | refine bC ?_ (ho (by assumption)) ?_) <;> (first | omega | (simp <;> omega)))⟩
          case b1 | b2 => exact (by with_reducible (repeat first | assumption | exact ho (by assumption) | (refine Blk.newAt ?z; case z => first | rfl | (first | omega | (simp <;> omega))) | apply Blk.three | apply Blk.seven | apply Blk.nine | (refine Blk.far ?_ ?z _; case z => ((try dsimp only); (first | omega | (simp <;> omega)))) | refine Blk.alloc ?_ _ | refine Blk.drew ?_ | refine Blk.turnTo ?_ (ho (by assumption)) ?_ | refine Blk.belowB ?_ (ho (by assumption)) ?_) <;> (first | omega | (simp <;> omega)))
          case k1 | k2 => exact (by with_reducible (repeat first | exact kR _ _ _ | assumption | exact ho (by assumption) | refine kD ?_ | refine kA ?_ _ | refine kS ?_ ?_ _ | refine kC ?_ (ho (by assumption))) <;> (first | omega | (simp <;> omega)))
  case rest =>
    obtain ⟨bx, bz, ax, cx, az, cz, rfl, rfl, HKX, HKZ, HRX, HRZ, HBx⟩ := hcut
    have HBw : Hid (Below w.heap.size w wc) := Lib.hid (HB_W0.out.trans (HBx.out.mono HB_W0.out.size))
    have J0 := Lib.hid (K0.out.belowB HBx.out z0)
    have J1 := Lib.hid (K1.out.belowB HBx.out z1)
    have J2 := Lib.hid (K2.out.belowB HBx.out z2)
    clear a0 a1 a2 b0 b1 b2 K0 K1 K2 z0 z1 z2 HB_W0 HBx HLD HLE
    obtain ⟨c0, c1, c2, c3, c4, c5, c6⟩ := par_cells J0.out
    obtain ⟨a0, a1, a2⟩ := el_cells J1.out
    obtain ⟨b0, b1, b2⟩ := el_cells J2.out
    obtain ⟨x0, x1, x2⟩ := el_cells HKX.out
    obtain ⟨y0, y1, y2⟩ := el_cells HKZ.out
    have m0 : w.heap.size < wc.heap.size := J0.out.lt
    have m1 : w.heap.size + 1 < wc.heap.size := J1.out.lt
    have m2 : w.heap.size + 1 + 1 < wc.heap.size := J2.out.lt
    have m3 : bx < wc.heap.size := HKX.out.lt
    have m4 : bz < wc.heap.size := HKZ.out.lt
    go_wp2_with fail
    (with_reducible refine Calls.mono (HPR0.out _ _ _ _ _ (by with_reducible (repeat first | exact bR _ _ | assumption | exact ho (by assumption) | refine bD ?_ | refine bA ?_ ?_ _ | refine bS ?_ ?_ _ | refine bC ?_ (ho (by assumption)) ?_) <;> (first | omega | (simp <;> omega))) HRX.out.1 HRX.out.2.1 HRX.out.2.2 HRZ.out.1 HRZ.out.2.1 HRZ.out.2.2) ?_)
    rintro e w7 ⟨⟨a7, c7, rfl, hr, hl⟩, hb⟩
    have HR7 := Lib.hid hr
    obtain ⟨hc_w7, hf_w7⟩ := bcell hb
    have HB_w7 : Hid (Below wc.heap.size wc w7) := Lib.hid (below_step (by with_reducible (repeat first | exact bR _ _ | assumption | exact ho (by assumption) | refine bD ?_ | refine bN ?_ _ | refine bA ?_ ?_ _ | refine bS ?_ ?_ _) <;> (first | omega | (simp <;> omega))) hb)
    have hs_w7 := hb.size
    try simp only [World.size_alloc, sz_set, sz_drew, sz_drewN] at hs_w7
    have HK_w7 := Lib.hid hb
    have HC_w7 := Lib.hid (callTo hb)
    clear hb
    have u0_0_w7 : w.heap.size < w7.heap.size := by omega
    have u0_1_w7 : w.heap.size < w7.heap.size + 1 := by omega
    have u0_2_w7 : w.heap.size < w7.heap.size + 1 + 1 := by omega
    have u0_3_w7 : w.heap.size < w7.heap.size + 1 + 1 + 1 := by omega
    have u1_0_w7 : w.heap.size + 1 < w7.heap.size := by omega
    have u1_1_w7 : w.heap.size + 1 < w7.heap.size + 1 := by omega
    have u1_2_w7 : w.heap.size + 1 < w7.heap.size + 1 + 1 := by omega
    have u1_3_w7 : w.heap.size + 1 < w7.heap.size + 1 + 1 + 1 := by omega
    have u2_0_w7 : w.heap.size + 1 + 1 < w7.heap.size := by omega
    have u2_1_w7 : w.heap.size + 1 + 1 < w7.heap.size + 1 := by omega
    have u2_2_w7 : w.heap.size + 1 + 1 < w7.heap.size + 1 + 1 := by omega
    have u2_3_w7 : w.heap.size + 1 + 1 < w7.heap.size + 1 + 1 + 1 := by omega
    have u3_0_w7 : bx < w7.heap.size := by omega
    have u3_1_w7 : bx < w7.heap.size + 1 := by omega
    have u3_2_w7 : bx < w7.heap.size + 1 + 1 := by omega
    have u3_3_w7 : bx < w7.heap.size + 1 + 1 + 1 := by omega
    have u4_0_w7 : bz < w7.heap.size := by omega
    have u4_1_w7 : bz < w7.heap.size + 1 := by omega
    have u4_2_w7 : bz < w7.heap.size + 1 + 1 := by omega
    have u4_3_w7 : bz < w7.heap.size + 1 + 1 + 1 := by omega
    clear hr hl
    go_wp2_with fail
    (with_reducible refine Calls.mono (HRF0.out _ (by with_reducible (repeat first | exact bR _ _ | assumption | exact ho (by assumption) | refine bD ?_ | refine bA ?_ ?_ _ | refine bS ?_ ?_ _ | refine bC ?_ (ho (by assumption)) ?_) <;> (first | omega | (simp <;> omega)))) ?_)
    rintro e w8 ⟨⟨a8, c8, rfl, hr, hl⟩, hb⟩
    have HR8 := Lib.hid hr
    obtain ⟨hc_w8, hf_w8⟩ := bcell hb
    have HB_w8 : Hid (Below wc.heap.size wc w8) := Lib.hid (below_step (by with_reducible (repeat first | exact bR _ _ | assumption | exact ho (by assumption) | refine bD ?_ | refine bN ?_ _ | refine bA ?_ ?_ _ | refine bS ?_ ?_ _) <;> (first | omega | (simp <;> omega))) hb)
    have hs_w8 := hb.size
    try simp only [World.size_alloc, sz_set, sz_drew, sz_drewN] at hs_w8
    have HK_w8 := Lib.hid hb
    have HC_w8 := Lib.hid (callTo hb)
    clear hb
    have u0_0_w8 : w.heap.size < w8.heap.size := by omega
    have u0_1_w8 : w.heap.size < w8.heap.size + 1 := by omega
    have u0_2_w8 : w.heap.size < w8.heap.size + 1 + 1 := by omega
    have u0_3_w8 : w.heap.size < w8.heap.size + 1 + 1 + 1 := by omega
    have u1_0_w8 : w.heap.size + 1 < w8.heap.size := by omega
    have u1_1_w8 : w.heap.size + 1 < w8.heap.size + 1 := by omega
    have u1_2_w8 : w.heap.size + 1 < w8.heap.size + 1 + 1 := by omega
    have u1_3_w8 : w.heap.size + 1 < w8.heap.size + 1 + 1 + 1 := by omega
    have u2_0_w8 : w.heap.size + 1 + 1 < w8.heap.size := by omega
    have u2_1_w8 : w.heap.size + 1 + 1 < w8.heap.size + 1 := by omega
    have u2_2_w8 : w.heap.size + 1 + 1 < w8.heap.size + 1 + 1 := by omega
    have u2_3_w8 : w.heap.size + 1 + 1 < w8.heap.size + 1 + 1 + 1 := by omega
    have u3_0_w8 : bx < w8.heap.size := by omega
    have u3_1_w8 : bx < w8.heap.size + 1 := by omega
    have u3_2_w8 : bx < w8.heap.size + 1 + 1 := by omega
    have u3_3_w8 : bx < w8.heap.size + 1 + 1 + 1 := by omega
    have u4_0_w8 : bz < w8.heap.size := by omega
    have u4_1_w8 : bz < w8.heap.size + 1 := by omega
    have u4_2_w8 : bz < w8.heap.size + 1 + 1 := by omega
    have u4_3_w8 : bz < w8.heap.size + 1 + 1 + 1 := by omega
    have u5_0_w8 : w7.heap.size < w8.heap.size := by omega
    have u5_1_w8 : w7.heap.size < w8.heap.size + 1 := by omega
    have u5_2_w8 : w7.heap.size < w8.heap.size + 1 + 1 := by omega
    have u5_3_w8 : w7.heap.size < w8.heap.size + 1 + 1 + 1 := by omega
    clear hr hl
    go_wp2_with fail
    (with_reducible refine Calls.mono (HSC0.out _ _ _ _ _ (HR7.out.rd.below (by with_reducible (repeat first | exact bR _ _ | assumption | exact ho (by assumption) | refine bD ?_ | refine bA ?_ ?_ _ | refine bS ?_ ?_ _ | refine bC ?_ (ho (by assumption)) ?_) <;> (first | omega | (simp <;> omega)))) (HR8.out.rd.below (by with_reducible (repeat first | exact bR _ _ | assumption | exact ho (by assumption) | refine bD ?_ | refine bA ?_ ?_ _ | refine bS ?_ ?_ _ | refine bC ?_ (ho (by assumption)) ?_) <;> (first | omega | (simp <;> omega))))) ?_)
    rintro e w9 ⟨rfl, hb⟩
    obtain ⟨hc_w9, hf_w9⟩ := bcell hb
    have HB_w9 : Hid (Below wc.heap.size wc w9) := Lib.hid (below_step (by with_reducible (repeat first | exact bR _ _ | assumption | exact ho (by assumption) | refine bD ?_ | refine bN ?_ _ | refine bA ?_ ?_ _ | refine bS ?_ ?_ _) <;> (first | omega | (simp <;> omega))) hb)
    have hs_w9 := hb.size
    try simp only [World.size_alloc, sz_set, sz_drew, sz_drewN] at hs_w9
    have HK_w9 := Lib.hid hb
    have HC_w9 := Lib.hid (callTo hb)
    clear hb
    have u0_0_w9 : w.heap.size < w9.heap.size := by omega
    have u0_1_w9 : w.heap.size < w9.heap.size + 1 := by omega
    have u0_2_w9 : w.heap.size < w9.heap.size + 1 + 1 := by omega
    have u0_3_w9 : w.heap.size < w9.heap.size + 1 + 1 + 1 := by omega
    have u1_0_w9 : w.heap.size + 1 < w9.heap.size := by omega
    have u1_1_w9 : w.heap.size + 1 < w9.heap.size + 1 := by omega
    have u1_2_w9 : w.heap.size + 1 < w9.heap.size + 1 + 1 := by omega
    have u1_3_w9 : w.heap.size + 1 < w9.heap.size + 1 + 1 + 1 := by omega
    have u2_0_w9 : w.heap.size + 1 + 1 < w9.heap.size := by omega
    have u2_1_w9 : w.heap.size + 1 + 1 < w9.heap.size + 1 := by omega
    have u2_2_w9 : w.heap.size + 1 + 1 < w9.heap.size + 1 + 1 := by omega
    have u2_3_w9 : w.heap.size + 1 + 1 < w9.heap.size + 1 + 1 + 1 := by omega
    have u3_0_w9 : bx < w9.heap.size := by omega
    have u3_1_w9 : bx < w9.heap.size + 1 := by omega
    have u3_2_w9 : bx < w9.heap.size + 1 + 1 := by omega
    have u3_3_w9 : bx < w9.heap.size + 1 + 1 + 1 := by omega
    have u4_0_w9 : bz < w9.heap.size := by omega
    have u4_1_w9 : bz < w9.heap.size + 1 := by omega
    have u4_2_w9 : bz < w9.heap.size + 1 + 1 := by omega
    have u4_3_w9 : bz < w9.heap.size + 1 + 1 + 1 := by omega
    have u5_0_w9 : w7.heap.size < w9.heap.size := by omega
    have u5_1_w9 : w7.heap.size < w9.heap.size + 1 := by omega
    have u5_2_w9 : w7.heap.size < w9.heap.size + 1 + 1 := by omega
    have u5_3_w9 : w7.heap.size < w9.heap.size + 1 + 1 + 1 := by omega
    have u6_0_w9 : w8.heap.size < w9.heap.size := by omega
    have u6_1_w9 : w8.heap.size < w9.heap.size + 1 := by omega
    have u6_2_w9 : w8.heap.size < w9.heap.size + 1 + 1 := by omega
    have u6_3_w9 : w8.heap.size < w9.heap.size + 1 + 1 + 1 := by omega
    go_wp2_with fail
    (with_reducible refine Calls.mono (HSA.out _ _ _ _ _ (HRX.out.1.below (by with_reducible (repeat first | exact bR _ _ | assumption | exact ho (by assumption) | refine bD ?_ | refine bA ?_ ?_ _ | refine bS ?_ ?_ _ | refine bC ?_ (ho (by assumption)) ?_) <;> (first | omega | (simp <;> omega)))) (HRA.out.below (by with_reducible (repeat first | exact bR _ _ | assumption | exact ho (by assumption) | refine bD ?_ | refine bA ?_ ?_ _ | refine bS ?_ ?_ _ | refine bC ?_ (ho (by assumption)) ?_) <;> (first | omega | (simp <;> omega))))) ?_)
    rintro e v1 ⟨rfl, hb⟩
    obtain ⟨hc_v1, hf_v1⟩ := bcell hb
    have HB_v1 : Hid (Below wc.heap.size wc v1) := Lib.hid (below_step (by with_reducible (repeat first | exact bR _ _ | assumption | exact ho (by assumption) | refine bD ?_ | refine bN ?_ _ | refine bA ?_ ?_ _ | refine bS ?_ ?_ _) <;> (first | omega | (simp <;> omega))) hb)
    have hs_v1 := hb.size
    try simp only [World.size_alloc, sz_set, sz_drew, sz_drewN] at hs_v1
    have HK_v1 := Lib.hid hb
    have HC_v1 := Lib.hid (callTo hb)
    clear hb
    have u0_0_v1 : w.heap.size < v1.heap.size := by omega
    have u0_1_v1 : w.heap.size < v1.heap.size + 1 := by omega
    have u0_2_v1 : w.heap.size < v1.heap.size + 1 + 1 := by omega
    have u0_3_v1 : w.heap.size < v1.heap.size + 1 + 1 + 1 := by omega
    have u1_0_v1 : w.heap.size + 1 < v1.heap.size := by omega
    have u1_1_v1 : w.heap.size + 1 < v1.heap.size + 1 := by omega
    have u1_2_v1 : w.heap.size + 1 < v1.heap.size + 1 + 1 := by omega
    have u1_3_v1 : w.heap.size + 1 < v1.heap.size + 1 + 1 + 1 := by omega
    have u2_0_v1 : w.heap.size + 1 + 1 < v1.heap.size := by omega
    have u2_1_v1 : w.heap.size + 1 + 1 < v1.heap.size + 1 := by omega
    have u2_2_v1 : w.heap.size + 1 + 1 < v1.heap.size + 1 + 1 := by omega
    have u2_3_v1 : w.heap.size + 1 + 1 < v1.heap.size + 1 + 1 + 1 := by omega
    have u3_0_v1 : bx < v1.heap.size := by omega
    have u3_1_v1 : bx < v1.heap.size + 1 := by omega
    have u3_2_v1 : bx < v1.heap.size + 1 + 1 := by omega
    have u3_3_v1 : bx < v1.heap.size + 1 + 1 + 1 := by omega
    have u4_0_v1 : bz < v1.heap.size := by omega
    have u4_1_v1 : bz < v1.heap.size + 1 := by omega
    have u4_2_v1 : bz < v1.heap.size + 1 + 1 := by omega
    have u4_3_v1 : bz < v1.heap.size + 1 + 1 + 1 := by omega
    have u5_0_v1 : w7.heap.size < v1.heap.size := by omega
    have u5_1_v1 : w7.heap.size < v1.heap.size + 1 := by omega
    have u5_2_v1 : w7.heap.size < v1.heap.size + 1 + 1 := by omega
    have u5_3_v1 : w7.heap.size < v1.heap.size + 1 + 1 + 1 := by omega
    have u6_0_v1 : w8.heap.size < v1.heap.size := by omega
    have u6_1_v1 : w8.heap.size < v1.heap.size + 1 := by omega
    have u6_2_v1 : w8.heap.size < v1.heap.size + 1 + 1 := by omega
    have u6_3_v1 : w8.heap.size < v1.heap.size + 1 + 1 + 1 := by omega
    go_wp2_with fail
    (with_reducible refine Calls.mono (HSB.out _ _ _ _ _ (HRZ.out.1.below (by with_reducible (repeat first | exact bR _ _ | assumption | exact ho (by assumption) | refine bD ?_ | refine bA ?_ ?_ _ | refine bS ?_ ?_ _ | refine bC ?_ (ho (by assumption)) ?_) <;> (first | omega | (simp <;> omega)))) (HRB.out.below (by with_reducible (repeat first | exact bR _ _ | assumption | exact ho (by assumption) | refine bD ?_ | refine bA ?_ ?_ _ | refine bS ?_ ?_ _ | refine bC ?_ (ho (by assumption)) ?_) <;> (first | omega | (simp <;> omega))))) ?_)
    rintro e v2 ⟨rfl, hb⟩
    obtain ⟨hc_v2, hf_v2⟩ := bcell hb
    have HB_v2 : Hid (Below wc.heap.size wc v2) := Lib.hid (below_step (by with_reducible (repeat first | exact bR _ _ | assumption | exact ho (by assumption) | refine bD ?_ | refine bN ?_ _ | refine bA ?_ ?_ _ | refine bS ?_ ?_ _) <;> (first | omega | (simp <;> omega))) hb)
    have hs_v2 := hb.size
    try simp only [World.size_alloc, sz_set, sz_drew, sz_drewN] at hs_v2
    have HK_v2 := Lib.hid hb
    have HC_v2 := Lib.hid (callTo hb)
    clear hb
    go_wp2_with fail
    (with_reducible refine Calls.mono (HAW.out _) ?_)
    rintro e v3 ⟨rfl, hb⟩
    obtain ⟨hc_v3, hf_v3⟩ := bcell hb
    have HB_v3 : Hid (Below wc.heap.size wc v3) := Lib.hid (below_step (by with_reducible (repeat first | exact bR _ _ | assumption | exact ho (by assumption) | refine bD ?_ | refine bN ?_ _ | refine bA ?_ ?_ _ | refine bS ?_ ?_ _) <;> (first | omega | (simp <;> omega))) hb)
    have hs_v3 := hb.size
    try simp only [World.size_alloc, sz_set, sz_drew, sz_drewN] at hs_v3
    have HK_v3 := Lib.hid hb
    have HC_v3 := Lib.hid (callTo hb)
    clear hb
    go_wp2
    go_ret
    exact ⟨rfl, (by with_reducible (repeat first | exact bR _ _ | assumption | exact ho (by assumption) | refine bD ?_ | refine bA ?_ ?_ _ | refine bS ?_ ?_ _ | refine bC ?_ (ho (by assumption)) ?_) <;> (first | omega | (simp <;> omega)))⟩
end Go.Proofs.YtcipjbckcnkfaaaGreat
