/- Sums, differences of ciphertexts. (Printed by genarc.py.) -/
import Derived.Test.YtcipjbckcnkfaaaGreatPs48
set_option linter.unusedSimpArgs false
set_option linter.unusedVariables false
namespace Go.Proofs.YtcipjbckcnkfaaaGreat
open Go.RowKit Go.Shelf
attribute [local go_sem ↓] Go.wp_at_zero Go.wp_at_succ

set_option maxHeartbeats 6400000 in
set_option maxRecDepth 100000 in
theorem arCombine_no (fn : FuncId) (p : Par) (ca : Option Addr) (cc : Nat) (A B : Ci) (aa ab : Option Addr) (cA cB : Nat) (w : World) (hin : ParIn w p ca cc) (hA : CiIn w A aa cA) (hB : CiIn w B ab cB) (hno : ¬ CiMatch p A B) :
    Calls Tryz.prog 44 #[.agg #[.func (.func fn) #[] #[]], .agg (p.cells ca cc), A.val aa cA, B.val ab cB] w fun e w' => e = .returned (.tuple #[.agg #[.int .i64 0, .int .i64 0, .slice none 0 0], .int .i64 2]) ∧ Below w.heap.size w w' := by
  have H1 := Lib.hid (fun (w' : World) (hb : Below w.heap.size w w') => arMatch_walk p ca cc A B aa ab cA cB w' (hin.below hb) (hA.below hb) (hB.below hb))
  rw [tr_neg hno] at H1
  unfold Ci.val Par.cells at *
  clear hin hA hB hno
  go_enter Tryz.func44, Tryz.ntmps44
  go_wp2_with fail
  (with_reducible refine Calls.mono (H1.out _ (by with_reducible (repeat first | exact bR _ _ | assumption | exact ho (by assumption) | refine bD ?_ | refine bN ?_ _ | refine bA ?_ ?_ _ | refine bS ?_ ?_ _) <;> (first | omega | (simp <;> omega)))) ?_)
  rintro e w2 ⟨rfl, hb⟩
  obtain ⟨hc_w2, hf_w2⟩ := bcell hb
  have HB_w2 : Hid (Below w.heap.size w w2) := Lib.hid (below_step (by with_reducible (repeat first | exact bR _ _ | assumption | exact ho (by assumption) | refine bD ?_ | refine bN ?_ _ | refine bA ?_ ?_ _ | refine bS ?_ ?_ _) <;> (first | omega | (simp <;> omega))) hb)
  have hs_w2 := hb.size
  try simp only [World.size_alloc, sz_set, sz_drew, sz_drewN] at hs_w2
  have q0_w2 : w.heap.size < w2.heap.size := by omega
  have q1_w2 : w.heap.size + 1 < w2.heap.size := by omega
  have q2_w2 : w.heap.size + 1 + 1 < w2.heap.size := by omega
  have q3_w2 : w.heap.size + 1 + 1 + 1 < w2.heap.size := by omega
  have q4_w2 : w.heap.size + 1 + 1 + 1 + 1 < w2.heap.size := by omega
  have HK_w2 := Lib.hid hb
  have HC_w2 := Lib.hid (callTo hb)
  clear hb
  go_wp2
  refine bodyPost_ret (v := .tuple #[.agg #[.int .i64 0, .int .i64 0, .slice none 0 0], .int .i64 2]) (by simp [results, Tryz.results44, go_sem, hc_w2, q4_w2]) rfl ⟨rfl, (by with_reducible (repeat first | exact bR _ _ | assumption | exact ho (by assumption) | refine bD ?_ | refine bN ?_ _ | refine bA ?_ ?_ _ | refine bS ?_ ?_ _) <;> (first | omega | (simp <;> omega)))⟩

set_option maxHeartbeats 25600000 in
set_option maxRecDepth 100000 in
theorem arCombine_yes (fn : FuncId) (op : El → El → El) (p : Par) (ca : Option Addr) (cc : Nat) (A B : Ci) (aa ab : Option Addr) (cA cB : Nat) (w : World) (hen : ∀ args w, (callFunc fn args).run Tryz.prog w = .ok (.enter fn args) w) (hf : ∀ (w' : World) (A B : El) (a1 a2 : Option Addr) (k1 k2 : Nat), Below w.heap.size w w' → Match p A B → RdR w' a1 A.rows → RdR w' a2 B.rows → Calls Tryz.prog fn #[.agg (p.cells ca cc), A.val a1 k1, B.val a2 k2] w' fun e w2 => PutEl w'.heap.size (op A B) e w2 ∧ Below w'.heap.size w' w2) (hin : ParIn w p ca cc) (hA : CiIn w A aa cA) (hB : CiIn w B ab cB) (hok : CiMatch p A B) :
    Calls Tryz.prog 44 #[.agg #[.func (.func fn) #[] #[]], .agg (p.cells ca cc), A.val aa cA, B.val ab cB] w fun e w' => PutCi w.heap.size A.level A.exponent (max A.parts.length B.parts.length) (fun i => op (partZ p A i) (partZ p B i)) e w' ∧ Below w.heap.size w w' := by
  have hg := hok.1.1.1
  have H1 := Lib.hid (fun (w' : World) (hb : Below w.heap.size w w') => arMatch_walk p ca cc A B aa ab cA cB w' (hin.below hb) (hA.below hb) (hB.below hb))
  rw [tr_pos hok] at H1
  have H2 := Lib.hid (fun (w' : World) (hb : Below w.heap.size w w') => arOf_walk p ca cc A aa cA w w' hb (hin.below hb) hok.1 hA.rd)
  have H3 := Lib.hid (fun (w' : World) (hb : Below w.heap.size w w') => arOf_walk p ca cc B ab cB w w' hb (hin.below hb) hok.2.1 hB.rd)
  have hm3 : max A.parts.length B.parts.length ≤ 3 := by have := hok.1.2.1; have := hok.2.1.2.1; omega
  have H4 : Hid (∀ (w' : World) (bx bz : Nat), Below w.heap.size w w' → Blk w' w.heap.size 67 #[.func (.func fn) #[] #[]] → Blk w' (w.heap.size + 1) 25 (p.cells ca cc) → ThreeAt w' bx (partZ p A) → ThreeAt w' bz (partZ p B) →
      Calls Tryz.prog 36 #[A.val aa cA, .int .i64 ((max A.parts.length B.parts.length : Nat) : Int), .func (.func 78) #[] #[.pointer (some ⟨w.heap.size, 0, none⟩), .pointer (some ⟨w.heap.size + 1, 0, none⟩), .pointer (some ⟨bx, 0, none⟩), .pointer (some ⟨bz, 0, none⟩)]] w' fun e w2 => PutCi w'.heap.size A.level A.exponent (max A.parts.length B.parts.length) (fun i => op (partZ p A i) (partZ p B i)) e w2 ∧ Below w'.heap.size w' w2) := Lib.hid (fun w' bx bz hb h0 h1 h2 h3 =>
    arMade_walk A.level A.exponent aa A.parts.length cA _ _ _ (fun i => op (partZ p A i) (partZ p B i)) w' (by omega) enters_comb1 (fun i hi w2 hb2 => arComb1_walk fn op w.heap.size (w.heap.size + 1) bx bz i p ca cc (partZ p A) (partZ p B) w2 hen (fun w3 E1 E2 a1 a2 k1 k2 hb3 => hf w3 E1 E2 a1 a2 k1 k2 (hb.trans ((hb2.mono hb.size).trans (hb3.mono (Nat.le_trans hb.size hb2.size))))) (h0.below hb2) (h1.below hb2) (h2.below hb2) (h3.below hb2) (by omega) (partZ_match hok (by omega))))
  have hM := max_cast A.parts.length B.parts.length
  obtain ⟨M, hM'⟩ : ∃ M, max A.parts.length B.parts.length = M := ⟨_, rfl⟩
  obtain ⟨F, hF⟩ : ∃ F : Nat → El, (fun i => op (partZ p A i) (partZ p B i)) = F := ⟨_, rfl⟩
  rw [hM', hF] at H4
  rw [hM'] at hM ⊢
  rw [hF]
  unfold PutCi Ci.val at *
  unfold OfPost at H2 H3
  obtain ⟨la, hla⟩ : ∃ la, A.parts.length = la := ⟨_, rfl⟩
  obtain ⟨lb, hlb⟩ : ∃ lb, B.parts.length = lb := ⟨_, rfl⟩
  rw [hla] at H1 H2 H4 hM ⊢
  rw [hlb] at H1 H3 hM ⊢
  obtain ⟨XA, hXA⟩ : ∃ XA, partZ p A = XA := ⟨_, rfl⟩
  obtain ⟨XB, hXB⟩ : ∃ XB, partZ p B = XB := ⟨_, rfl⟩
  rw [hXA] at H2 H4
  rw [hXB] at H3 H4
  have HM := Lib.hid hM
  unfold Par.cells at *
  clear hin hA hB hok hg hM' hF hla hlb hXA hXB hM hf hen
  go_enter Tryz.func44, Tryz.ntmps44
  go_wp2_with fail
  (with_reducible refine Calls.mono (H1.out _ (by with_reducible (repeat first | exact bR _ _ | assumption | exact ho (by assumption) | refine bD ?_ | refine bN ?_ _ | refine bA ?_ ?_ _ | refine bS ?_ ?_ _) <;> (first | omega | (simp <;> omega)))) ?_)
  rintro e w2 ⟨rfl, hb⟩
  obtain ⟨hc_w2, hf_w2⟩ := bcell hb
  have HB_w2 : Hid (Below w.heap.size w w2) := Lib.hid (below_step (by with_reducible (repeat first | exact bR _ _ | assumption | exact ho (by assumption) | refine bD ?_ | refine bN ?_ _ | refine bA ?_ ?_ _ | refine bS ?_ ?_ _) <;> (first | omega | (simp <;> omega))) hb)
  have hs_w2 := hb.size
  try simp only [World.size_alloc, sz_set, sz_drew, sz_drewN] at hs_w2
  have q0_w2 : w.heap.size < w2.heap.size := by omega
  have q1_w2 : w.heap.size + 1 < w2.heap.size := by omega
  have q2_w2 : w.heap.size + 1 + 1 < w2.heap.size := by omega
  have q3_w2 : w.heap.size + 1 + 1 + 1 < w2.heap.size := by omega
  have q4_w2 : w.heap.size + 1 + 1 + 1 + 1 < w2.heap.size := by omega
  have HK_w2 := Lib.hid hb
  have HC_w2 := Lib.hid (callTo hb)
  clear hb
  go_upto_region 3 with fail
  refine gen_w _ _ (fun W0 hW0 => ?_)
  have HB0 : Hid (Below w.heap.size w W0) := Lib.hid (by rw [hW0]; exact (by with_reducible (repeat first | exact bR _ _ | assumption | exact ho (by assumption) | refine bD ?_ | refine bN ?_ _ | refine bA ?_ ?_ _ | refine bS ?_ ?_ _) <;> (first | omega | (simp <;> omega))))
  have HCb : Hid (Blk W0 w.heap.size 67 #[.func (.func fn) #[] #[]]) := Lib.hid (by rw [hW0]; exact Blk.below (by repeat (first | exact Blk.newAt (by (first | omega | (simp only [World.size_alloc, sz_set, sz_drew, sz_drewN]; done) | (simp only [World.size_alloc, sz_set, sz_drew, sz_drewN]; omega))) | (with_reducible refine Blk.alloc ?_ _) | (with_reducible refine Blk.drew ?_) | (with_reducible refine Blk.drewN ?_ _) | (with_reducible refine Blk.belowB ?_ (Hid.out (by assumption)) ?szk; case szk => (first | omega | (simp only [World.size_alloc, sz_set, sz_drew, sz_drewN]; done) | (simp only [World.size_alloc, sz_set, sz_drew, sz_drewN]; omega))))) HK_w2.out)
  have HPb : Hid (Blk W0 (w.heap.size + 1) 25 #[.int .i64 p.n, .int .u32 (p.prime : Int), .int .i64 p.power, .slice ca p.chain.length cc, .int .u32 (p.special : Int), .int .i64 p.weight, .int .u32 (p.err : Int)]) := Lib.hid (by rw [hW0]; exact Blk.below (by repeat (first | exact Blk.newAt (by (first | omega | (simp only [World.size_alloc, sz_set, sz_drew, sz_drewN]; done) | (simp only [World.size_alloc, sz_set, sz_drew, sz_drewN]; omega))) | (with_reducible refine Blk.alloc ?_ _) | (with_reducible refine Blk.drew ?_) | (with_reducible refine Blk.drewN ?_ _) | (with_reducible refine Blk.belowB ?_ (Hid.out (by assumption)) ?szk; case szk => (first | omega | (simp only [World.size_alloc, sz_set, sz_drew, sz_drewN]; done) | (simp only [World.size_alloc, sz_set, sz_drew, sz_drewN]; omega))))) HK_w2.out)
  have HAb : Hid (Blk W0 (w.heap.size + 1 + 1) 28 #[.int .i64 A.level, .int .i64 A.exponent, .slice aa la cA]) := Lib.hid (by rw [hW0]; exact Blk.below (by repeat (first | exact Blk.newAt (by (first | omega | (simp only [World.size_alloc, sz_set, sz_drew, sz_drewN]; done) | (simp only [World.size_alloc, sz_set, sz_drew, sz_drewN]; omega))) | (with_reducible refine Blk.alloc ?_ _) | (with_reducible refine Blk.drew ?_) | (with_reducible refine Blk.drewN ?_ _) | (with_reducible refine Blk.belowB ?_ (Hid.out (by assumption)) ?szk; case szk => (first | omega | (simp only [World.size_alloc, sz_set, sz_drew, sz_drewN]; done) | (simp only [World.size_alloc, sz_set, sz_drew, sz_drewN]; omega))))) HK_w2.out)
  have HBb : Hid (Blk W0 (w.heap.size + 1 + 1 + 1) 28 #[.int .i64 B.level, .int .i64 B.exponent, .slice ab lb cB]) := Lib.hid (by rw [hW0]; exact Blk.below (by repeat (first | exact Blk.newAt (by (first | omega | (simp only [World.size_alloc, sz_set, sz_drew, sz_drewN]; done) | (simp only [World.size_alloc, sz_set, sz_drew, sz_drewN]; omega))) | (with_reducible refine Blk.alloc ?_ _) | (with_reducible refine Blk.drew ?_) | (with_reducible refine Blk.drewN ?_ _) | (with_reducible refine Blk.belowB ?_ (Hid.out (by assumption)) ?szk; case szk => (first | omega | (simp only [World.size_alloc, sz_set, sz_drew, sz_drewN]; done) | (simp only [World.size_alloc, sz_set, sz_drew, sz_drewN]; omega))))) HK_w2.out)
  have HOb : Hid (Blk W0 (w.heap.size + 1 + 1 + 1 + 1) 28 #[.int .i64 0, .int .i64 0, .slice none 0 0]) := Lib.hid (by rw [hW0]; exact Blk.below (by repeat (first | exact Blk.newAt (by (first | omega | (simp only [World.size_alloc, sz_set, sz_drew, sz_drewN]; done) | (simp only [World.size_alloc, sz_set, sz_drew, sz_drewN]; omega))) | (with_reducible refine Blk.alloc ?_ _) | (with_reducible refine Blk.drew ?_) | (with_reducible refine Blk.drewN ?_ _) | (with_reducible refine Blk.belowB ?_ (Hid.out (by assumption)) ?szk; case szk => (first | omega | (simp only [World.size_alloc, sz_set, sz_drew, sz_drewN]; done) | (simp only [World.size_alloc, sz_set, sz_drew, sz_drewN]; omega))))) HK_w2.out)
  have hz0 : w.heap.size + 1 + 1 + 1 + 1 < W0.heap.size := HOb.out.lt
  have z1 : w.heap.size + 1 + 1 + 1 < W0.heap.size := by omega
  have z2 : w.heap.size + 1 + 1 < W0.heap.size := by omega
  have z3 : w.heap.size + 1 < W0.heap.size := by omega
  have z4 : w.heap.size < W0.heap.size := by omega
  obtain ⟨c0, c1, c2, c3, c4, c5, c6⟩ := par_cells HPb.out
  obtain ⟨d0, d1, d2⟩ := el_cells HAb.out
  obtain ⟨e0, e1, e2⟩ := el_cells HBb.out
  clear hW0 HB_w2 HK_w2 HC_w2 hc_w2 hf_w2 hs_w2 q0_w2 q1_w2 q2_w2 q3_w2 q4_w2 H1
  go_cut [10, 11] (fun v10 v11 wx => ∃ bx bz, v10 = .pointer (some ⟨bx, 0, none⟩) ∧ v11 = .pointer (some ⟨bz, 0, none⟩) ∧ Hid (ThreeAt wx bx XA) ∧ Hid (ThreeAt wx bz XB) ∧ Hid (Below W0.heap.size W0 wx))
  case first =>
    have hS : (fun w' : World => Below W0.heap.size W0 w') W0.drew := (Below.refl _ _).drew
    refine wp_region_L (fun w' : World => Below W0.heap.size W0 w') 9 (by kernel_rfl) (by kernel_rfl) (by kernel_rfl) ?_
    refine tK 0 (v := ?_) (by assumption) ?_ ?_
    rotate_left
    · (intro _ _; go_simp; try with_reducible rfl)
    try simp only [Act.put, gA, gB, gC, sA, sB, sC]
    refine tK 1 (v := ?_) (by assumption) ?_ ?_
    rotate_left
    · (intro _ _; go_simp; try with_reducible rfl)
    try simp only [Act.put, gA, gB, gC, sA, sB, sC]
    refine tK 3 (v := ?_) (by assumption) ?_ ?_
    rotate_left
    · (intro _ _; go_simp; try with_reducible rfl)
    try simp only [Act.put, gA, gB, gC, sA, sB, sC]
    refine tK 4 (v := ?_) (by assumption) ?_ ?_
    rotate_left
    · (intro _ _; go_simp; try with_reducible rfl)
    try simp only [Act.put, gA, gB, gC, sA, sB, sC]
    refine wpL.three 2 6 7 rfl rfl rfl (by kernel_rfl) rfl rfl rfl ?_ ?_ ?_  <;> intro K hK
    · go_wp2_with fail
      (with_reducible refine Calls.mono (H2.out _ (by with_reducible (repeat first | exact bR _ _ | assumption | exact ho (by assumption) | refine bD ?_ | refine bA ?_ ?_ _ | refine bS ?_ ?_ _ | refine bC ?_ (ho (by assumption)) ?_) <;> (first | omega | (simp <;> omega)))) ?_)
      rintro e w5 ⟨⟨a0, k0, a1, k1, a2, k2, rfl, s0, s1, s2⟩, hb⟩
      have HS5 := Lib.hid (And.intro s0 (And.intro s1 s2))
      obtain ⟨hc_w5, hf_w5⟩ := bcell hb
      have HB_w5 : Hid (Below W0.heap.size W0 w5) := Lib.hid (below_step (by with_reducible (repeat first | exact bR _ _ | assumption | exact ho (by assumption) | refine bD ?_ | refine bN ?_ _ | refine bA ?_ ?_ _ | refine bS ?_ ?_ _) <;> (first | omega | (simp <;> omega))) hb)
      have hs_w5 := hb.size
      try simp only [World.size_alloc, sz_set, sz_drew, sz_drewN] at hs_w5
      have HK_w5 := Lib.hid hb
      have HC_w5 := Lib.hid (callTo hb)
      clear hb
      try have l0_w5 : W0.heap.size < w5.heap.size := by omega
      try have n0_w5 : W0.heap.size ≠ w5.heap.size := by omega
      try have l1_w5 : W0.heap.size + 1 < w5.heap.size := by omega
      try have n1_w5 : W0.heap.size + 1 ≠ w5.heap.size := by omega
      clear s0 s1 s2
      refine hK _ _ (by with_reducible (repeat first | exact bR _ _ | assumption | exact ho (by assumption) | refine bD ?_ | refine bA ?_ ?_ _ | refine bS ?_ ?_ _ | refine bC ?_ (ho (by assumption)) ?_) <;> (first | omega | (simp <;> omega))) (fun hS => ?_)
      clear hK
      try simp only [Act.put, gA, gB, gC, sA, sB, sC]
      refine wpL.three 5 6 7 rfl rfl rfl (by kernel_rfl) rfl rfl rfl ?_ ?_ ?_  <;> intro K hK
      · go_wp2_with fail
        (with_reducible refine Calls.mono (H3.out _ (by with_reducible (repeat first | exact bR _ _ | assumption | exact ho (by assumption) | refine bD ?_ | refine bA ?_ ?_ _ | refine bS ?_ ?_ _ | refine bC ?_ (ho (by assumption)) ?_) <;> (first | omega | (simp <;> omega)))) ?_)
        rintro e w6 ⟨⟨b0, m0, b1, m1, b2, m2, rfl, s0, s1, s2⟩, hb⟩
        have HS6 := Lib.hid (And.intro s0 (And.intro s1 s2))
        obtain ⟨hc_w6, hf_w6⟩ := bcell hb
        have HB_w6 : Hid (Below W0.heap.size W0 w6) := Lib.hid (below_step (by with_reducible (repeat first | exact bR _ _ | assumption | exact ho (by assumption) | refine bD ?_ | refine bN ?_ _ | refine bA ?_ ?_ _ | refine bS ?_ ?_ _) <;> (first | omega | (simp <;> omega))) hb)
        have hs_w6 := hb.size
        try simp only [World.size_alloc, sz_set, sz_drew, sz_drewN] at hs_w6
        have HK_w6 := Lib.hid hb
        have HC_w6 := Lib.hid (callTo hb)
        clear hb
        try have l0_w6 : W0.heap.size < w6.heap.size := by omega
        try have n0_w6 : W0.heap.size ≠ w6.heap.size := by omega
        try have l1_w6 : W0.heap.size + 1 < w6.heap.size := by omega
        try have n1_w6 : W0.heap.size + 1 ≠ w6.heap.size := by omega
        try have l2_w6 : w5.heap.size < w6.heap.size := by omega
        try have n2_w6 : w5.heap.size ≠ w6.heap.size := by omega
        try have l3_w6 : w5.heap.size + 1 < w6.heap.size := by omega
        try have n3_w6 : w5.heap.size + 1 ≠ w6.heap.size := by omega
        clear s0 s1 s2
        refine hK _ _ (by with_reducible (repeat first | exact bR _ _ | assumption | exact ho (by assumption) | refine bD ?_ | refine bA ?_ ?_ _ | refine bS ?_ ?_ _ | refine bC ?_ (ho (by assumption)) ?_) <;> (first | omega | (simp <;> omega))) (fun hS => ?_)
        clear hK
        try simp only [Act.put, gA, gB, gC, sA, sB, sC]
        refine wpL.two 6 7 rfl rfl (by kernel_rfl) rfl rfl ?_ ?_  <;> intro K hK
        · go_wp2
          refine hK _ _ (by with_reducible (repeat first | exact bR _ _ | assumption | exact ho (by assumption) | refine bD ?_ | refine bA ?_ ?_ _ | refine bS ?_ ?_ _ | refine bC ?_ (ho (by assumption)) ?_) <;> (first | omega | (simp <;> omega))) (fun hS => ?_)
          clear hK
          try simp only [Act.put, gA, gB, gC, sA, sB, sC]
          refine wpL.eff 7 rfl (by kernel_rfl) rfl ?_
          intro K hK
          go_wp2
          refine hK _ _ (by with_reducible (repeat first | exact bR _ _ | assumption | exact ho (by assumption) | refine bD ?_ | refine bA ?_ ?_ _ | refine bS ?_ ?_ _ | refine bC ?_ (ho (by assumption)) ?_) <;> (first | omega | (simp <;> omega))) (fun hS => ?_)
          clear hK
          try simp only [Act.put, gA, gB, gC, sA, sB, sC]
          refine wpL.eff 8 rfl (by kernel_rfl) rfl ?_
          intro K hK
          go_wp2
          refine hK _ _ (by with_reducible (repeat first | exact bR _ _ | assumption | exact ho (by assumption) | refine bD ?_ | refine bA ?_ ?_ _ | refine bS ?_ ?_ _ | refine bC ?_ (ho (by assumption)) ?_) <;> (first | omega | (simp <;> omega))) (fun hS => ?_)
          clear hK
          try simp only [Act.put, gA, gB, gC, sA, sB, sC]
          refine wpL.last 9 rfl (by kernel_rfl) rfl (by kernel_rfl) rfl ?_
          go_wp2_with fail
          go_meet
          case rel =>
            have HR := HS5.out
            have HR6 := HS6.out
            exact ⟨_, _, rfl, rfl, Lib.hid (ThreeAt.of HR (by with_reducible (repeat first | exact bR _ _ | assumption | exact ho (by assumption) | refine bD ?_ | refine bA ?_ ?_ _ | refine bS ?_ ?_ _ | refine bC ?_ (ho (by assumption)) ?_) <;> (first | omega | (simp <;> omega))) (by with_reducible (repeat first | exact kR _ _ _ | assumption | exact ho (by assumption) | refine kD ?_ | refine kA ?_ _ | refine kS ?_ ?_ _ | refine kC ?_ (ho (by assumption))) <;> (first | omega | (simp <;> omega))) (by with_reducible (repeat first | assumption | exact ho (by assumption) | (refine Blk.newAt ?z; case z => first | rfl | (first | omega | (simp <;> omega))) | apply Blk.three | apply Blk.seven | apply Blk.nine | (refine Blk.far ?_ ?z _; case z => ((try dsimp only); (first | omega | (simp <;> omega)))) | refine Blk.alloc ?_ _ | refine Blk.drew ?_ | refine Blk.turnTo ?_ (ho (by assumption)) ?_ | refine Blk.belowB ?_ (ho (by assumption)) ?_) <;> (first | omega | (simp <;> omega)))), Lib.hid (ThreeAt.of HR6 (by with_reducible (repeat first | exact bR _ _ | assumption | exact ho (by assumption) | refine bD ?_ | refine bA ?_ ?_ _ | refine bS ?_ ?_ _ | refine bC ?_ (ho (by assumption)) ?_) <;> (first | omega | (simp <;> omega))) (by with_reducible (repeat first | exact kR _ _ _ | assumption | exact ho (by assumption) | refine kD ?_ | refine kA ?_ _ | refine kS ?_ ?_ _ | refine kC ?_ (ho (by assumption))) <;> (first | omega | (simp <;> omega))) (by with_reducible (repeat first | assumption | exact ho (by assumption) | (refine Blk.newAt ?z; case z => first | rfl | (first | omega | (simp <;> omega))) | apply Blk.three | apply Blk.seven | apply Blk.nine | (refine Blk.far ?_ ?z _; case z => ((try dsimp only); (first | omega | (simp <;> omega)))) | refine Blk.alloc ?_ _ | refine Blk.drew ?_ | refine Blk.turnTo ?_ (ho (by assumption)) ?_ | refine Blk.belowB ?_ (ho (by assumption)) ?_) <;> (first | omega | (simp <;> omega)))), Lib.hid (by with_reducible (repeat first | exact bR _ _ | assumption | exact ho (by assumption) | refine bD ?_ | refine bA ?_ ?_ _ | refine bS ?_ ?_ _ | refine bC ?_ (ho (by assumption)) ?_) <;> (first | omega | (simp <;> omega)))⟩
        · go_wp2
          refine hK _ _ (by with_reducible (repeat first | exact bR _ _ | assumption | exact ho (by assumption) | refine bD ?_ | refine bA ?_ ?_ _ | refine bS ?_ ?_ _ | refine bC ?_ (ho (by assumption)) ?_) <;> (first | omega | (simp <;> omega))) (fun hS => ?_)
          clear hK
          try simp only [Act.put, gA, gB, gC, sA, sB, sC]
          refine wpL.eff 6 rfl (by kernel_rfl) rfl ?_
          intro K hK
          go_wp2
          refine hK _ _ (by with_reducible (repeat first | exact bR _ _ | assumption | exact ho (by assumption) | refine bD ?_ | refine bA ?_ ?_ _ | refine bS ?_ ?_ _ | refine bC ?_ (ho (by assumption)) ?_) <;> (first | omega | (simp <;> omega))) (fun hS => ?_)
          clear hK
          try simp only [Act.put, gA, gB, gC, sA, sB, sC]
          refine wpL.eff 8 rfl (by kernel_rfl) rfl ?_
          intro K hK
          go_wp2
          refine hK _ _ (by with_reducible (repeat first | exact bR _ _ | assumption | exact ho (by assumption) | refine bD ?_ | refine bA ?_ ?_ _ | refine bS ?_ ?_ _ | refine bC ?_ (ho (by assumption)) ?_) <;> (first | omega | (simp <;> omega))) (fun hS => ?_)
          clear hK
          try simp only [Act.put, gA, gB, gC, sA, sB, sC]
          refine wpL.last 9 rfl (by kernel_rfl) rfl (by kernel_rfl) rfl ?_
          go_wp2_with fail
          go_meet
          case rel =>
            have HR := HS5.out
            have HR6 := HS6.out
            exact ⟨_, _, rfl, rfl, Lib.hid (ThreeAt.of HR (by with_reducible (repeat first | exact bR _ _ | assumption | exact ho (by assumption) | refine bD ?_ | refine bA ?_ ?_ _ | refine bS ?_ ?_ _ | refine bC ?_ (ho (by assumption)) ?_) <;> (first | omega | (simp <;> omega))) (by with_reducible (repeat first | exact kR _ _ _ | assumption | exact ho (by assumption) | refine kD ?_ | refine kA ?_ _ | refine kS ?_ ?_ _ | refine kC ?_ (ho (by assumption))) <;> (first | omega | (simp <;> omega))) (by with_reducible (repeat first | assumption | exact ho (by assumption) | (refine Blk.newAt ?z; case z => first | rfl | (first | omega | (simp <;> omega))) | apply Blk.three | apply Blk.seven | apply Blk.nine | (refine Blk.far ?_ ?z _; case z => ((try dsimp only); (first | omega | (simp <;> omega)))) | refine Blk.alloc ?_ _ | refine Blk.drew ?_ | refine Blk.turnTo ?_ (ho (by assumption)) ?_ | refine Blk.belowB ?_ (ho (by assumption)) ?_) <;> (first | omega | (simp <;> omega)))), Lib.hid (ThreeAt.of HR6 (by with_reducible (repeat first | exact bR _ _ | assumption | exact ho (by assumption) | refine bD ?_ | refine bA ?_ ?_ _ | refine bS ?_ ?_ _ | refine bC ?_ (ho (by assumption)) ?_) <;> (first | omega | (simp <;> omega))) (by with_reducible (repeat first | exact kR _ _ _ | assumption | exact ho (by assumption) | refine kD ?_ | refine kA ?_ _ | refine kS ?_ ?_ _ | refine kC ?_ (ho (by assumption))) <;> (first | omega | (simp <;> omega))) (by with_reducible (repeat first | assumption | exact ho (by assumption) | (refine Blk.newAt ?z; case z => first | rfl | (first | omega | (simp <;> omega))) | apply Blk.three | apply Blk.seven | apply Blk.nine | (refine Blk.far ?_ ?z _; case z => ((try dsimp only); (first | omega | (simp <;> omega)))) | refine Blk.alloc ?_ _ | refine Blk.drew ?_ | refine Blk.turnTo ?_ (ho (by assumption)) ?_ | refine Blk.belowB ?_ (ho (by assumption)) ?_) <;> (first | omega | (simp <;> omega)))), Lib.hid (by with_reducible (repeat first | exact bR _ _ | assumption | exact ho (by assumption) | refine bD ?_ | refine bA ?_ ?_ _ | refine bS ?_ ?_ _ | refine bC ?_ (ho (by assumption)) ?_) <;> (first | omega | (simp <;> omega)))⟩
      · go_wp2
        refine hK _ _ (by with_reducible (repeat first | exact bR _ _ | assumption | exact ho (by assumption) | refine bD ?_ | refine bA ?_ ?_ _ | refine bS ?_ ?_ _ | refine bC ?_ (ho (by assumption)) ?_) <;> (first | omega | (simp <;> omega))) (fun hS => ?_)
        clear hK
        try simp only [Act.put, gA, gB, gC, sA, sB, sC]
        refine wpL.two 5 7 rfl rfl (by kernel_rfl) rfl rfl ?_ ?_  <;> intro K hK
        · go_wp2_with fail
          (with_reducible refine Calls.mono (H3.out _ (by with_reducible (repeat first | exact bR _ _ | assumption | exact ho (by assumption) | refine bD ?_ | refine bA ?_ ?_ _ | refine bS ?_ ?_ _ | refine bC ?_ (ho (by assumption)) ?_) <;> (first | omega | (simp <;> omega)))) ?_)
          rintro e w6 ⟨⟨b0, m0, b1, m1, b2, m2, rfl, s0, s1, s2⟩, hb⟩
          have HS6 := Lib.hid (And.intro s0 (And.intro s1 s2))
          obtain ⟨hc_w6, hf_w6⟩ := bcell hb
          have HB_w6 : Hid (Below W0.heap.size W0 w6) := Lib.hid (below_step (by with_reducible (repeat first | exact bR _ _ | assumption | exact ho (by assumption) | refine bD ?_ | refine bN ?_ _ | refine bA ?_ ?_ _ | refine bS ?_ ?_ _) <;> (first | omega | (simp <;> omega))) hb)
          have hs_w6 := hb.size
          try simp only [World.size_alloc, sz_set, sz_drew, sz_drewN] at hs_w6
          have HK_w6 := Lib.hid hb
          have HC_w6 := Lib.hid (callTo hb)
          clear hb
          try have l0_w6 : W0.heap.size < w6.heap.size := by omega
          try have n0_w6 : W0.heap.size ≠ w6.heap.size := by omega
          try have l1_w6 : W0.heap.size + 1 < w6.heap.size := by omega
          try have n1_w6 : W0.heap.size + 1 ≠ w6.heap.size := by omega
          try have l2_w6 : w5.heap.size < w6.heap.size := by omega
          try have n2_w6 : w5.heap.size ≠ w6.heap.size := by omega
          try have l3_w6 : w5.heap.size + 1 < w6.heap.size := by omega
          try have n3_w6 : w5.heap.size + 1 ≠ w6.heap.size := by omega
          clear s0 s1 s2
          refine hK _ _ (by with_reducible (repeat first | exact bR _ _ | assumption | exact ho (by assumption) | refine bD ?_ | refine bA ?_ ?_ _ | refine bS ?_ ?_ _ | refine bC ?_ (ho (by assumption)) ?_) <;> (first | omega | (simp <;> omega))) (fun hS => ?_)
          clear hK
          try simp only [Act.put, gA, gB, gC, sA, sB, sC]
          refine wpL.eff 7 rfl (by kernel_rfl) rfl ?_
          intro K hK
          go_wp2
          refine hK _ _ (by with_reducible (repeat first | exact bR _ _ | assumption | exact ho (by assumption) | refine bD ?_ | refine bA ?_ ?_ _ | refine bS ?_ ?_ _ | refine bC ?_ (ho (by assumption)) ?_) <;> (first | omega | (simp <;> omega))) (fun hS => ?_)
          clear hK
          try simp only [Act.put, gA, gB, gC, sA, sB, sC]
          refine wpL.eff 8 rfl (by kernel_rfl) rfl ?_
          intro K hK
          go_wp2
          refine hK _ _ (by with_reducible (repeat first | exact bR _ _ | assumption | exact ho (by assumption) | refine bD ?_ | refine bA ?_ ?_ _ | refine bS ?_ ?_ _ | refine bC ?_ (ho (by assumption)) ?_) <;> (first | omega | (simp <;> omega))) (fun hS => ?_)
          clear hK
          try simp only [Act.put, gA, gB, gC, sA, sB, sC]
          refine wpL.last 9 rfl (by kernel_rfl) rfl (by kernel_rfl) rfl ?_
          go_wp2_with fail
          go_meet
          case rel =>
            have HR := HS5.out
            have HR6 := HS6.out
            exact ⟨_, _, rfl, rfl, Lib.hid (ThreeAt.of HR (by with_reducible (repeat first | exact bR _ _ | assumption | exact ho (by assumption) | refine bD ?_ | refine bA ?_ ?_ _ | refine bS ?_ ?_ _ | refine bC ?_ (ho (by assumption)) ?_) <;> (first | omega | (simp <;> omega))) (by with_reducible (repeat first | exact kR _ _ _ | assumption | exact ho (by assumption) | refine kD ?_ | refine kA ?_ _ | refine kS ?_ ?_ _ | refine kC ?_ (ho (by assumption))) <;> (first | omega | (simp <;> omega))) (by with_reducible (repeat first | assumption | exact ho (by assumption) | (refine Blk.newAt ?z; case z => first | rfl | (first | omega | (simp <;> omega))) | apply Blk.three | apply Blk.seven | apply Blk.nine | (refine Blk.far ?_ ?z _; case z => ((try dsimp only); (first | omega | (simp <;> omega)))) | refine Blk.alloc ?_ _ | refine Blk.drew ?_ | refine Blk.turnTo ?_ (ho (by assumption)) ?_ | refine Blk.belowB ?_ (ho (by assumption)) ?_) <;> (first | omega | (simp <;> omega)))), Lib.hid (ThreeAt.of HR6 (by with_reducible (repeat first | exact bR _ _ | assumption | exact ho (by assumption) | refine bD ?_ | refine bA ?_ ?_ _ | refine bS ?_ ?_ _ | refine bC ?_ (ho (by assumption)) ?_) <;> (first | omega | (simp <;> omega))) (by with_reducible (repeat first | exact kR _ _ _ | assumption | exact ho (by assumption) | refine kD ?_ | refine kA ?_ _ | refine kS ?_ ?_ _ | refine kC ?_ (ho (by assumption))) <;> (first | omega | (simp <;> omega))) (by with_reducible (repeat first | assumption | exact ho (by assumption) | (refine Blk.newAt ?z; case z => first | rfl | (first | omega | (simp <;> omega))) | apply Blk.three | apply Blk.seven | apply Blk.nine | (refine Blk.far ?_ ?z _; case z => ((try dsimp only); (first | omega | (simp <;> omega)))) | refine Blk.alloc ?_ _ | refine Blk.drew ?_ | refine Blk.turnTo ?_ (ho (by assumption)) ?_ | refine Blk.belowB ?_ (ho (by assumption)) ?_) <;> (first | omega | (simp <;> omega)))), Lib.hid (by with_reducible (repeat first | exact bR _ _ | assumption | exact ho (by assumption) | refine bD ?_ | refine bA ?_ ?_ _ | refine bS ?_ ?_ _ | refine bC ?_ (ho (by assumption)) ?_) <;> (first | omega | (simp <;> omega)))⟩
        · go_wp2
          refine hK _ _ (by with_reducible (repeat first | exact bR _ _ | assumption | exact ho (by assumption) | refine bD ?_ | refine bA ?_ ?_ _ | refine bS ?_ ?_ _ | refine bC ?_ (ho (by assumption)) ?_) <;> (first | omega | (simp <;> omega))) (fun hS => ?_)
          clear hK
          try simp only [Act.put, gA, gB, gC, sA, sB, sC]
          refine wpL.eff 5 rfl (by kernel_rfl) rfl ?_
          intro K hK
          go_wp2_with fail
          (with_reducible refine Calls.mono (H3.out _ (by with_reducible (repeat first | exact bR _ _ | assumption | exact ho (by assumption) | refine bD ?_ | refine bA ?_ ?_ _ | refine bS ?_ ?_ _ | refine bC ?_ (ho (by assumption)) ?_) <;> (first | omega | (simp <;> omega)))) ?_)
          rintro e w6 ⟨⟨b0, m0, b1, m1, b2, m2, rfl, s0, s1, s2⟩, hb⟩
          have HS6 := Lib.hid (And.intro s0 (And.intro s1 s2))
          obtain ⟨hc_w6, hf_w6⟩ := bcell hb
          have HB_w6 : Hid (Below W0.heap.size W0 w6) := Lib.hid (below_step (by with_reducible (repeat first | exact bR _ _ | assumption | exact ho (by assumption) | refine bD ?_ | refine bN ?_ _ | refine bA ?_ ?_ _ | refine bS ?_ ?_ _) <;> (first | omega | (simp <;> omega))) hb)
          have hs_w6 := hb.size
          try simp only [World.size_alloc, sz_set, sz_drew, sz_drewN] at hs_w6
          have HK_w6 := Lib.hid hb
          have HC_w6 := Lib.hid (callTo hb)
          clear hb
          try have l0_w6 : W0.heap.size < w6.heap.size := by omega
          try have n0_w6 : W0.heap.size ≠ w6.heap.size := by omega
          try have l1_w6 : W0.heap.size + 1 < w6.heap.size := by omega
          try have n1_w6 : W0.heap.size + 1 ≠ w6.heap.size := by omega
          try have l2_w6 : w5.heap.size < w6.heap.size := by omega
          try have n2_w6 : w5.heap.size ≠ w6.heap.size := by omega
          try have l3_w6 : w5.heap.size + 1 < w6.heap.size := by omega
          try have n3_w6 : w5.heap.size + 1 ≠ w6.heap.size := by omega
          clear s0 s1 s2
          refine hK _ _ (by with_reducible (repeat first | exact bR _ _ | assumption | exact ho (by assumption) | refine bD ?_ | refine bA ?_ ?_ _ | refine bS ?_ ?_ _ | refine bC ?_ (ho (by assumption)) ?_) <;> (first | omega | (simp <;> omega))) (fun hS => ?_)
          clear hK
          try simp only [Act.put, gA, gB, gC, sA, sB, sC]
          refine wpL.eff 8 rfl (by kernel_rfl) rfl ?_
          intro K hK
          go_wp2
          refine hK _ _ (by with_reducible (repeat first | exact bR _ _ | assumption | exact ho (by assumption) | refine bD ?_ | refine bA ?_ ?_ _ | refine bS ?_ ?_ _ | refine bC ?_ (ho (by assumption)) ?_) <;> (first | omega | (simp <;> omega))) (fun hS => ?_)
          clear hK
          try simp only [Act.put, gA, gB, gC, sA, sB, sC]
          refine wpL.last 9 rfl (by kernel_rfl) rfl (by kernel_rfl) rfl ?_
          go_wp2_with fail
          go_meet
          case rel =>
            have HR := HS5.out
            have HR6 := HS6.out
            exact ⟨_, _, rfl, rfl, Lib.hid (ThreeAt.of HR (by with_reducible (repeat first | exact bR _ _ | assumption | exact ho (by assumption) | refine bD ?_ | refine bA ?_ ?_ _ | refine bS ?_ ?_ _ | refine bC ?_ (ho (by assumption)) ?_) <;> (first | omega | (simp <;> omega))) (by with_reducible (repeat first | exact kR _ _ _ | assumption | exact ho (by assumption) | refine kD ?_ | refine kA ?_ _ | refine kS ?_ ?_ _ | refine kC ?_ (ho (by assumption))) <;> (first | omega | (simp <;> omega))) (by with_reducible (repeat first | assumption | exact ho (by assumption) | (refine Blk.newAt ?z; case z => first | rfl | (first | omega | (simp <;> omega))) | apply Blk.three | apply Blk.seven | apply Blk.nine | (refine Blk.far ?_ ?z _; case z => ((try dsimp only); (first | omega | (simp <;> omega)))) | refine Blk.alloc ?_ _ | refine Blk.drew ?_ | refine Blk.turnTo ?_ (ho (by assumption)) ?_ | refine Blk.belowB ?_ (ho (by assumption)) ?_) <;> (first | omega | (simp <;> omega)))), Lib.hid (ThreeAt.of HR6 (by with_reducible (repeat first | exact bR _ _ | assumption | exact ho (by assumption) | refine bD ?_ | refine bA ?_ ?_ _ | refine bS ?_ ?_ _ | refine bC ?_ (ho (by assumption)) ?_) <;> (first | omega | (simp <;> omega))) (by with_reducible (repeat first | exact kR _ _ _ | assumption | exact ho (by assumption) | refine kD ?_ | refine kA ?_ _ | refine kS ?_ ?_ _ | refine kC ?_ (ho (by assumption))) <;> (first | omega | (simp <;> omega))) (by with_reducible (repeat first | assumption | exact ho (by assumption) | (refine Blk.newAt ?z; case z => first | rfl | (first | omega | (simp <;> omega))) | apply Blk.three | apply Blk.seven | apply Blk.nine | (refine Blk.far ?_ ?z _; case z => ((try dsimp only); (first | omega | (simp <;> omega)))) | refine Blk.alloc ?_ _ | refine Blk.drew ?_ | refine Blk.turnTo ?_ (ho (by assumption)) ?_ | refine Blk.belowB ?_ (ho (by assumption)) ?_) <;> (first | omega | (simp <;> omega)))), Lib.hid (by with_reducible (repeat first | exact bR _ _ | assumption | exact ho (by assumption) | refine bD ?_ | refine bA ?_ ?_ _ | refine bS ?_ ?_ _ | refine bC ?_ (ho (by assumption)) ?_) <;> (first | omega | (simp <;> omega)))⟩
      · go_wp2
        refine hK _ _ (by with_reducible (repeat first | exact bR _ _ | assumption | exact ho (by assumption) | refine bD ?_ | refine bA ?_ ?_ _ | refine bS ?_ ?_ _ | refine bC ?_ (ho (by assumption)) ?_) <;> (first | omega | (simp <;> omega))) (fun hS => ?_)
        clear hK
        try simp only [Act.put, gA, gB, gC, sA, sB, sC]
        refine wpL.two 5 6 rfl rfl (by kernel_rfl) rfl rfl ?_ ?_  <;> intro K hK
        · go_wp2_with fail
          (with_reducible refine Calls.mono (H3.out _ (by with_reducible (repeat first | exact bR _ _ | assumption | exact ho (by assumption) | refine bD ?_ | refine bA ?_ ?_ _ | refine bS ?_ ?_ _ | refine bC ?_ (ho (by assumption)) ?_) <;> (first | omega | (simp <;> omega)))) ?_)
          rintro e w6 ⟨⟨b0, m0, b1, m1, b2, m2, rfl, s0, s1, s2⟩, hb⟩
          have HS6 := Lib.hid (And.intro s0 (And.intro s1 s2))
          obtain ⟨hc_w6, hf_w6⟩ := bcell hb
          have HB_w6 : Hid (Below W0.heap.size W0 w6) := Lib.hid (below_step (by with_reducible (repeat first | exact bR _ _ | assumption | exact ho (by assumption) | refine bD ?_ | refine bN ?_ _ | refine bA ?_ ?_ _ | refine bS ?_ ?_ _) <;> (first | omega | (simp <;> omega))) hb)
          have hs_w6 := hb.size
          try simp only [World.size_alloc, sz_set, sz_drew, sz_drewN] at hs_w6
          have HK_w6 := Lib.hid hb
          have HC_w6 := Lib.hid (callTo hb)
          clear hb
          try have l0_w6 : W0.heap.size < w6.heap.size := by omega
          try have n0_w6 : W0.heap.size ≠ w6.heap.size := by omega
          try have l1_w6 : W0.heap.size + 1 < w6.heap.size := by omega
          try have n1_w6 : W0.heap.size + 1 ≠ w6.heap.size := by omega
          try have l2_w6 : w5.heap.size < w6.heap.size := by omega
          try have n2_w6 : w5.heap.size ≠ w6.heap.size := by omega
          try have l3_w6 : w5.heap.size + 1 < w6.heap.size := by omega
          try have n3_w6 : w5.heap.size + 1 ≠ w6.heap.size := by omega
          clear s0 s1 s2
          refine hK _ _ (by with_reducible (repeat first | exact bR _ _ | assumption | exact ho (by assumption) | refine bD ?_ | refine bA ?_ ?_ _ | refine bS ?_ ?_ _ | refine bC ?_ (ho (by assumption)) ?_) <;> (first | omega | (simp <;> omega))) (fun hS => ?_)
          clear hK
          try simp only [Act.put, gA, gB, gC, sA, sB, sC]
          refine wpL.eff 6 rfl (by kernel_rfl) rfl ?_
          intro K hK
          go_wp2
          refine hK _ _ (by with_reducible (repeat first | exact bR _ _ | assumption | exact ho (by assumption) | refine bD ?_ | refine bA ?_ ?_ _ | refine bS ?_ ?_ _ | refine bC ?_ (ho (by assumption)) ?_) <;> (first | omega | (simp <;> omega))) (fun hS => ?_)
          clear hK
          try simp only [Act.put, gA, gB, gC, sA, sB, sC]
          refine wpL.eff 8 rfl (by kernel_rfl) rfl ?_
          intro K hK
          go_wp2
          refine hK _ _ (by with_reducible (repeat first | exact bR _ _ | assumption | exact ho (by assumption) | refine bD ?_ | refine bA ?_ ?_ _ | refine bS ?_ ?_ _ | refine bC ?_ (ho (by assumption)) ?_) <;> (first | omega | (simp <;> omega))) (fun hS => ?_)
          clear hK
          try simp only [Act.put, gA, gB, gC, sA, sB, sC]
          refine wpL.last 9 rfl (by kernel_rfl) rfl (by kernel_rfl) rfl ?_
          go_wp2_with fail
          go_meet
          case rel =>
            have HR := HS5.out
            have HR6 := HS6.out
            exact ⟨_, _, rfl, rfl, Lib.hid (ThreeAt.of HR (by with_reducible (repeat first | exact bR _ _ | assumption | exact ho (by assumption) | refine bD ?_ | refine bA ?_ ?_ _ | refine bS ?_ ?_ _ | refine bC ?_ (ho (by assumption)) ?_) <;> (first | omega | (simp <;> omega))) (by with_reducible (repeat first | exact kR _ _ _ | assumption | exact ho (by assumption) | refine kD ?_ | refine kA ?_ _ | refine kS ?_ ?_ _ | refine kC ?_ (ho (by assumption))) <;> (first | omega | (simp <;> omega))) (by with_reducible (repeat first | assumption | exact ho (by assumption) | (refine Blk.newAt ?z; case z => first | rfl | (first | omega | (simp <;> omega))) | apply Blk.three | apply Blk.seven | apply Blk.nine | (refine Blk.far ?_ ?z _; case z => ((try dsimp only); (first | omega | (simp <;> omega)))) | refine Blk.alloc ?_ _ | refine Blk.drew ?_ | refine Blk.turnTo ?_ (ho (by assumption)) ?_ | refine Blk.belowB ?_ (ho (by assumption)) ?_) <;> (first | omega | (simp <;> omega)))), Lib.hid (ThreeAt.of HR6 (by with_reducible (repeat first | exact bR _ _ | assumption | exact ho (by assumption) | refine bD ?_ | refine bA ?_ ?_ _ | refine bS ?_ ?_ _ | refine bC ?_ (ho (by assumption)) ?_) <;> (first | omega | (simp <;> omega))) (by with_reducible (repeat first | exact kR _ _ _ | assumption | exact ho (by assumption) | refine kD ?_ | refine kA ?_ _ | refine kS ?_ ?_ _ | refine kC ?_ (ho (by assumption))) <;> (first | omega | (simp <;> omega))) (by with_reducible (repeat first | assumption | exact ho (by assumption) | (refine Blk.newAt ?z; case z => first | rfl | (first | omega | (simp <;> omega))) | apply Blk.three | apply Blk.seven | apply Blk.nine | (refine Blk.far ?_ ?z _; case z => ((try dsimp only); (first | omega | (simp <;> omega)))) | refine Blk.alloc ?_ _ | refine Blk.drew ?_ | refine Blk.turnTo ?_ (ho (by assumption)) ?_ | refine Blk.belowB ?_ (ho (by assumption)) ?_) <;> (first | omega | (simp <;> omega)))), Lib.hid (by with_reducible (repeat first | exact bR _ _ | assumption | exact ho (by assumption) | refine bD ?_ | refine bA ?_ ?_ _ | refine bS ?_ ?_ _ | refine bC ?_ (ho (by assumption)) ?_) <;> (first | omega | (simp <;> omega)))⟩
        · go_wp2
          refine hK _ _ (by with_reducible (repeat first | exact bR _ _ | assumption | exact ho (by assumption) | refine bD ?_ | refine bA ?_ ?_ _ | refine bS ?_ ?_ _ | refine bC ?_ (ho (by assumption)) ?_) <;> (first | omega | (simp <;> omega))) (fun hS => ?_)
          clear hK
          try simp only [Act.put, gA, gB, gC, sA, sB, sC]
          refine wpL.eff 5 rfl (by kernel_rfl) rfl ?_
          intro K hK
          go_wp2_with fail
          (with_reducible refine Calls.mono (H3.out _ (by with_reducible (repeat first | exact bR _ _ | assumption | exact ho (by assumption) | refine bD ?_ | refine bA ?_ ?_ _ | refine bS ?_ ?_ _ | refine bC ?_ (ho (by assumption)) ?_) <;> (first | omega | (simp <;> omega)))) ?_)
          rintro e w6 ⟨⟨b0, m0, b1, m1, b2, m2, rfl, s0, s1, s2⟩, hb⟩
          have HS6 := Lib.hid (And.intro s0 (And.intro s1 s2))
          obtain ⟨hc_w6, hf_w6⟩ := bcell hb
          have HB_w6 : Hid (Below W0.heap.size W0 w6) := Lib.hid (below_step (by with_reducible (repeat first | exact bR _ _ | assumption | exact ho (by assumption) | refine bD ?_ | refine bN ?_ _ | refine bA ?_ ?_ _ | refine bS ?_ ?_ _) <;> (first | omega | (simp <;> omega))) hb)
          have hs_w6 := hb.size
          try simp only [World.size_alloc, sz_set, sz_drew, sz_drewN] at hs_w6
          have HK_w6 := Lib.hid hb
          have HC_w6 := Lib.hid (callTo hb)
          clear hb
          try have l0_w6 : W0.heap.size < w6.heap.size := by omega
          try have n0_w6 : W0.heap.size ≠ w6.heap.size := by omega
          try have l1_w6 : W0.heap.size + 1 < w6.heap.size := by omega
          try have n1_w6 : W0.heap.size + 1 ≠ w6.heap.size := by omega
          try have l2_w6 : w5.heap.size < w6.heap.size := by omega
          try have n2_w6 : w5.heap.size ≠ w6.heap.size := by omega
          try have l3_w6 : w5.heap.size + 1 < w6.heap.size := by omega
          try have n3_w6 : w5.heap.size + 1 ≠ w6.heap.size := by omega
          clear s0 s1 s2
          refine hK _ _ (by with_reducible (repeat first | exact bR _ _ | assumption | exact ho (by assumption) | refine bD ?_ | refine bA ?_ ?_ _ | refine bS ?_ ?_ _ | refine bC ?_ (ho (by assumption)) ?_) <;> (first | omega | (simp <;> omega))) (fun hS => ?_)
          clear hK
          try simp only [Act.put, gA, gB, gC, sA, sB, sC]
          refine wpL.eff 8 rfl (by kernel_rfl) rfl ?_
          intro K hK
          go_wp2
          refine hK _ _ (by with_reducible (repeat first | exact bR _ _ | assumption | exact ho (by assumption) | refine bD ?_ | refine bA ?_ ?_ _ | refine bS ?_ ?_ _ | refine bC ?_ (ho (by assumption)) ?_) <;> (first | omega | (simp <;> omega))) (fun hS => ?_)
          clear hK
          try simp only [Act.put, gA, gB, gC, sA, sB, sC]
          refine wpL.last 9 rfl (by kernel_rfl) rfl (by kernel_rfl) rfl ?_
          go_wp2_with fail
          go_meet
          case rel =>
            have HR := HS5.out
            have HR6 := HS6.out
            exact ⟨_, _, rfl, rfl, Lib.hid (ThreeAt.of HR (by with_reducible (repeat first | exact bR _ _ | assumption | exact ho (by assumption) | refine bD ?_ | refine bA ?_ ?_ _ | refine bS ?_ ?_ _ | refine bC ?_ (ho (by assumption)) ?_) <;> (first | omega | (simp <;> omega))) (by with_reducible (repeat first | exact kR _ _ _ | assumption | exact ho (by assumption) | refine kD ?_ | refine kA ?_ _ | refine kS ?_ ?_ _ | refine kC ?_ (ho (by assumption))) <;> (first | omega | (simp <;> omega))) (by with_reducible (repeat first | assumption | exact ho (by assumption) | (refine Blk.newAt ?z; case z => first | rfl | (first | omega | (simp <;> omega))) | apply Blk.three | apply Blk.seven | apply Blk.nine | (refine Blk.far ?_ ?z _; case z => ((try dsimp only); (first | omega | (simp <;> omega)))) | refine Blk.alloc ?_ _ | refine Blk.drew ?_ | refine Blk.turnTo ?_ (ho (by assumption)) ?_ | refine Blk.belowB ?_ (ho (by assumption)) ?_) <;> (first | omega | (simp <;> omega)))), Lib.hid (ThreeAt.of HR6 (by with_reducible (repeat first | exact bR _ _ | assumption | exact ho (by assumption) | refine bD ?_ | refine bA ?_ ?_ _ | refine bS ?_ ?_ _ | refine bC ?_ (ho (by assumption)) ?_) <;> (first | omega | (simp <;> omega))) (by with_reducible (repeat first | exact kR _ _ _ | assumption | exact ho (by assumption) | refine kD ?_ | refine kA ?_ _ | refine kS ?_ ?_ _ | refine kC ?_ (ho (by assumption))) <;> (first | omega | (simp <;> omega))) (by with_reducible (repeat first | assumption | exact ho (by assumption) | (refine Blk.newAt ?z; case z => first | rfl | (first | omega | (simp <;> omega))) | apply Blk.three | apply Blk.seven | apply Blk.nine | (refine Blk.far ?_ ?z _; case z => ((try dsimp only); (first | omega | (simp <;> omega)))) | refine Blk.alloc ?_ _ | refine Blk.drew ?_ | refine Blk.turnTo ?_ (ho (by assumption)) ?_ | refine Blk.belowB ?_ (ho (by assumption)) ?_) <;> (first | omega | (simp <;> omega)))), Lib.hid (by with_reducible (repeat first | exact bR _ _ | assumption | exact ho (by assumption) | refine bD ?_ | refine bA ?_ ?_ _ | refine bS ?_ ?_ _ | refine bC ?_ (ho (by assumption)) ?_) <;> (first | omega | (simp <;> omega)))⟩
    · go_wp2
      refine hK _ _ (by with_reducible (repeat first | exact bR _ _ | assumption | exact ho (by assumption) | refine bD ?_ | refine bA ?_ ?_ _ | refine bS ?_ ?_ _ | refine bC ?_ (ho (by assumption)) ?_) <;> (first | omega | (simp <;> omega))) (fun hS => ?_)
      clear hK
      try simp only [Act.put, gA, gB, gC, sA, sB, sC]
      refine wpL.two 2 7 rfl rfl (by kernel_rfl) rfl rfl ?_ ?_  <;> intro K hK
      · go_wp2_with fail
        (with_reducible refine Calls.mono (H2.out _ (by with_reducible (repeat first | exact bR _ _ | assumption | exact ho (by assumption) | refine bD ?_ | refine bA ?_ ?_ _ | refine bS ?_ ?_ _ | refine bC ?_ (ho (by assumption)) ?_) <;> (first | omega | (simp <;> omega)))) ?_)
        rintro e w5 ⟨⟨a0, k0, a1, k1, a2, k2, rfl, s0, s1, s2⟩, hb⟩
        have HS5 := Lib.hid (And.intro s0 (And.intro s1 s2))
        obtain ⟨hc_w5, hf_w5⟩ := bcell hb
        have HB_w5 : Hid (Below W0.heap.size W0 w5) := Lib.hid (below_step (by with_reducible (repeat first | exact bR _ _ | assumption | exact ho (by assumption) | refine bD ?_ | refine bN ?_ _ | refine bA ?_ ?_ _ | refine bS ?_ ?_ _) <;> (first | omega | (simp <;> omega))) hb)
        have hs_w5 := hb.size
        try simp only [World.size_alloc, sz_set, sz_drew, sz_drewN] at hs_w5
        have HK_w5 := Lib.hid hb
        have HC_w5 := Lib.hid (callTo hb)
        clear hb
        try have l0_w5 : W0.heap.size < w5.heap.size := by omega
        try have n0_w5 : W0.heap.size ≠ w5.heap.size := by omega
        try have l1_w5 : W0.heap.size + 1 < w5.heap.size := by omega
        try have n1_w5 : W0.heap.size + 1 ≠ w5.heap.size := by omega
        clear s0 s1 s2
        refine hK _ _ (by with_reducible (repeat first | exact bR _ _ | assumption | exact ho (by assumption) | refine bD ?_ | refine bA ?_ ?_ _ | refine bS ?_ ?_ _ | refine bC ?_ (ho (by assumption)) ?_) <;> (first | omega | (simp <;> omega))) (fun hS => ?_)
        clear hK
        try simp only [Act.put, gA, gB, gC, sA, sB, sC]
        refine wpL.two 5 7 rfl rfl (by kernel_rfl) rfl rfl ?_ ?_  <;> intro K hK
        · go_wp2_with fail
          (with_reducible refine Calls.mono (H3.out _ (by with_reducible (repeat first | exact bR _ _ | assumption | exact ho (by assumption) | refine bD ?_ | refine bA ?_ ?_ _ | refine bS ?_ ?_ _ | refine bC ?_ (ho (by assumption)) ?_) <;> (first | omega | (simp <;> omega)))) ?_)
          rintro e w6 ⟨⟨b0, m0, b1, m1, b2, m2, rfl, s0, s1, s2⟩, hb⟩
          have HS6 := Lib.hid (And.intro s0 (And.intro s1 s2))
          obtain ⟨hc_w6, hf_w6⟩ := bcell hb
          have HB_w6 : Hid (Below W0.heap.size W0 w6) := Lib.hid (below_step (by with_reducible (repeat first | exact bR _ _ | assumption | exact ho (by assumption) | refine bD ?_ | refine bN ?_ _ | refine bA ?_ ?_ _ | refine bS ?_ ?_ _) <;> (first | omega | (simp <;> omega))) hb)
          have hs_w6 := hb.size
          try simp only [World.size_alloc, sz_set, sz_drew, sz_drewN] at hs_w6
          have HK_w6 := Lib.hid hb
          have HC_w6 := Lib.hid (callTo hb)
          clear hb
          try have l0_w6 : W0.heap.size < w6.heap.size := by omega
          try have n0_w6 : W0.heap.size ≠ w6.heap.size := by omega
          try have l1_w6 : W0.heap.size + 1 < w6.heap.size := by omega
          try have n1_w6 : W0.heap.size + 1 ≠ w6.heap.size := by omega
          try have l2_w6 : w5.heap.size < w6.heap.size := by omega
          try have n2_w6 : w5.heap.size ≠ w6.heap.size := by omega
          try have l3_w6 : w5.heap.size + 1 < w6.heap.size := by omega
          try have n3_w6 : w5.heap.size + 1 ≠ w6.heap.size := by omega
          clear s0 s1 s2
          refine hK _ _ (by with_reducible (repeat first | exact bR _ _ | assumption | exact ho (by assumption) | refine bD ?_ | refine bA ?_ ?_ _ | refine bS ?_ ?_ _ | refine bC ?_ (ho (by assumption)) ?_) <;> (first | omega | (simp <;> omega))) (fun hS => ?_)
          clear hK
          try simp only [Act.put, gA, gB, gC, sA, sB, sC]
          refine wpL.eff 7 rfl (by kernel_rfl) rfl ?_
          intro K hK
          go_wp2
          refine hK _ _ (by with_reducible (repeat first | exact bR _ _ | assumption | exact ho (by assumption) | refine bD ?_ | refine bA ?_ ?_ _ | refine bS ?_ ?_ _ | refine bC ?_ (ho (by assumption)) ?_) <;> (first | omega | (simp <;> omega))) (fun hS => ?_)
          clear hK
          try simp only [Act.put, gA, gB, gC, sA, sB, sC]
          refine wpL.eff 8 rfl (by kernel_rfl) rfl ?_
          intro K hK
          go_wp2
          refine hK _ _ (by with_reducible (repeat first | exact bR _ _ | assumption | exact ho (by assumption) | refine bD ?_ | refine bA ?_ ?_ _ | refine bS ?_ ?_ _ | refine bC ?_ (ho (by assumption)) ?_) <;> (first | omega | (simp <;> omega))) (fun hS => ?_)
          clear hK
          try simp only [Act.put, gA, gB, gC, sA, sB, sC]
          refine wpL.last 9 rfl (by kernel_rfl) rfl (by kernel_rfl) rfl ?_
          go_wp2_with fail
          go_meet
          case rel =>
            have HR := HS5.out
            have HR6 := HS6.out
            exact ⟨_, _, rfl, rfl, Lib.hid (ThreeAt.of HR (by with_reducible (repeat first | exact bR _ _ | assumption | exact ho (by assumption) | refine bD ?_ | refine bA ?_ ?_ _ | refine bS ?_ ?_ _ | refine bC ?_ (ho (by assumption)) ?_) <;> (first | omega | (simp <;> omega))) (by with_reducible (repeat first | exact kR _ _ _ | assumption | exact ho (by assumption) | refine kD ?_ | refine kA ?_ _ | refine kS ?_ ?_ _ | refine kC ?_ (ho (by assumption))) <;> (first | omega | (simp <;> omega))) (by with_reducible (repeat first | assumption | exact ho (by assumption) | (refine Blk.newAt ?z; case z => first | rfl | (first | omega | (simp <;> omega))) | apply Blk.three | apply Blk.seven | apply Blk.nine | (refine Blk.far ?_ ?z _; case z => ((try dsimp only); (first | omega | (simp <;> omega)))) | refine Blk.alloc ?_ _ | refine Blk.drew ?_ | refine Blk.turnTo ?_ (ho (by assumption)) ?_ | refine Blk.belowB ?_ (ho (by assumption)) ?_) <;> (first | omega | (simp <;> omega)))), Lib.hid (ThreeAt.of HR6 (by with_reducible (repeat first | exact bR _ _ | assumption | exact ho (by assumption) | refine bD ?_ | refine bA ?_ ?_ _ | refine bS ?_ ?_ _ | refine bC ?_ (ho (by assumption)) ?_) <;> (first | omega | (simp <;> omega))) (by with_reducible (repeat first | exact kR _ _ _ | assumption | exact ho (by assumption) | refine kD ?_ | refine kA ?_ _ | refine kS ?_ ?_ _ | refine kC ?_ (ho (by assumption))) <;> (first | omega | (simp <;> omega))) (by with_reducible (repeat first | assumption | exact ho (by assumption) | (refine Blk.newAt ?z; case z => first | rfl | (first | omega | (simp <;> omega))) | apply Blk.three | apply Blk.seven | apply Blk.nine | (refine Blk.far ?_ ?z _; case z => ((try dsimp only); (first | omega | (simp <;> omega)))) | refine Blk.alloc ?_ _ | refine Blk.drew ?_ | refine Blk.turnTo ?_ (ho (by assumption)) ?_ | refine Blk.belowB ?_ (ho (by assumption)) ?_) <;> (first | omega | (simp <;> omega)))), Lib.hid (by with_reducible (repeat first | exact bR _ _ | assumption | exact ho (by assumption) | refine bD ?_ | refine bA ?_ ?_ _ | refine bS ?_ ?_ _ | refine bC ?_ (ho (by assumption)) ?_) <;> (first | omega | (simp <;> omega)))⟩
        · go_wp2
          refine hK _ _ (by with_reducible (repeat first | exact bR _ _ | assumption | exact ho (by assumption) | refine bD ?_ | refine bA ?_ ?_ _ | refine bS ?_ ?_ _ | refine bC ?_ (ho (by assumption)) ?_) <;> (first | omega | (simp <;> omega))) (fun hS => ?_)
          clear hK
          try simp only [Act.put, gA, gB, gC, sA, sB, sC]
          refine wpL.eff 5 rfl (by kernel_rfl) rfl ?_
          intro K hK
          go_wp2_with fail
          (with_reducible refine Calls.mono (H3.out _ (by with_reducible (repeat first | exact bR _ _ | assumption | exact ho (by assumption) | refine bD ?_ | refine bA ?_ ?_ _ | refine bS ?_ ?_ _ | refine bC ?_ (ho (by assumption)) ?_) <;> (first | omega | (simp <;> omega)))) ?_)
          rintro e w6 ⟨⟨b0, m0, b1, m1, b2, m2, rfl, s0, s1, s2⟩, hb⟩
          have HS6 := Lib.hid (And.intro s0 (And.intro s1 s2))
          obtain ⟨hc_w6, hf_w6⟩ := bcell hb
          have HB_w6 : Hid (Below W0.heap.size W0 w6) := Lib.hid (below_step (by with_reducible (repeat first | exact bR _ _ | assumption | exact ho (by assumption) | refine bD ?_ | refine bN ?_ _ | refine bA ?_ ?_ _ | refine bS ?_ ?_ _) <;> (first | omega | (simp <;> omega))) hb)
          have hs_w6 := hb.size
          try simp only [World.size_alloc, sz_set, sz_drew, sz_drewN] at hs_w6
          have HK_w6 := Lib.hid hb
          have HC_w6 := Lib.hid (callTo hb)
          clear hb
          try have l0_w6 : W0.heap.size < w6.heap.size := by omega
          try have n0_w6 : W0.heap.size ≠ w6.heap.size := by omega
          try have l1_w6 : W0.heap.size + 1 < w6.heap.size := by omega
          try have n1_w6 : W0.heap.size + 1 ≠ w6.heap.size := by omega
          try have l2_w6 : w5.heap.size < w6.heap.size := by omega
          try have n2_w6 : w5.heap.size ≠ w6.heap.size := by omega
          try have l3_w6 : w5.heap.size + 1 < w6.heap.size := by omega
          try have n3_w6 : w5.heap.size + 1 ≠ w6.heap.size := by omega
          clear s0 s1 s2
          refine hK _ _ (by with_reducible (repeat first | exact bR _ _ | assumption | exact ho (by assumption) | refine bD ?_ | refine bA ?_ ?_ _ | refine bS ?_ ?_ _ | refine bC ?_ (ho (by assumption)) ?_) <;> (first | omega | (simp <;> omega))) (fun hS => ?_)
          clear hK
          try simp only [Act.put, gA, gB, gC, sA, sB, sC]
          refine wpL.eff 8 rfl (by kernel_rfl) rfl ?_
          intro K hK
          go_wp2
          refine hK _ _ (by with_reducible (repeat first | exact bR _ _ | assumption | exact ho (by assumption) | refine bD ?_ | refine bA ?_ ?_ _ | refine bS ?_ ?_ _ | refine bC ?_ (ho (by assumption)) ?_) <;> (first | omega | (simp <;> omega))) (fun hS => ?_)
          clear hK
          try simp only [Act.put, gA, gB, gC, sA, sB, sC]
          refine wpL.last 9 rfl (by kernel_rfl) rfl (by kernel_rfl) rfl ?_
          go_wp2_with fail
          go_meet
          case rel =>
            have HR := HS5.out
            have HR6 := HS6.out
            exact ⟨_, _, rfl, rfl, Lib.hid (ThreeAt.of HR (by with_reducible (repeat first | exact bR _ _ | assumption | exact ho (by assumption) | refine bD ?_ | refine bA ?_ ?_ _ | refine bS ?_ ?_ _ | refine bC ?_ (ho (by assumption)) ?_) <;> (first | omega | (simp <;> omega))) (by with_reducible (repeat first | exact kR _ _ _ | assumption | exact ho (by assumption) | refine kD ?_ | refine kA ?_ _ | refine kS ?_ ?_ _ | refine kC ?_ (ho (by assumption))) <;> (first | omega | (simp <;> omega))) (by with_reducible (repeat first | assumption | exact ho (by assumption) | (refine Blk.newAt ?z; case z => first | rfl | (first | omega | (simp <;> omega))) | apply Blk.three | apply Blk.seven | apply Blk.nine | (refine Blk.far ?_ ?z _; case z => ((try dsimp only); (first | omega | (simp <;> omega)))) | refine Blk.alloc ?_ _ | refine Blk.drew ?_ | refine Blk.turnTo ?_ (ho (by assumption)) ?_ | refine Blk.belowB ?_ (ho (by assumption)) ?_) <;> (first | omega | (simp <;> omega)))), Lib.hid (ThreeAt.of HR6 (by with_reducible (repeat first | exact bR _ _ | assumption | exact ho (by assumption) | refine bD ?_ | refine bA ?_ ?_ _ | refine bS ?_ ?_ _ | refine bC ?_ (ho (by assumption)) ?_) <;> (first | omega | (simp <;> omega))) (by with_reducible (repeat first | exact kR _ _ _ | assumption | exact ho (by assumption) | refine kD ?_ | refine kA ?_ _ | refine kS ?_ ?_ _ | refine kC ?_ (ho (by assumption))) <;> (first | omega | (simp <;> omega))) (by with_reducible (repeat first | assumption | exact ho (by assumption) | (refine Blk.newAt ?z; case z => first | rfl | (first | omega | (simp <;> omega))) | apply Blk.three | apply Blk.seven | apply Blk.nine | (refine Blk.far ?_ ?z _; case z => ((try dsimp only); (first | omega | (simp <;> omega)))) | refine Blk.alloc ?_ _ | refine Blk.drew ?_ | refine Blk.turnTo ?_ (ho (by assumption)) ?_ | refine Blk.belowB ?_ (ho (by assumption)) ?_) <;> (first | omega | (simp <;> omega)))), Lib.hid (by with_reducible (repeat first | exact bR _ _ | assumption | exact ho (by assumption) | refine bD ?_ | refine bA ?_ ?_ _ | refine bS ?_ ?_ _ | refine bC ?_ (ho (by assumption)) ?_) <;> (first | omega | (simp <;> omega)))⟩
      · go_wp2
        refine hK _ _ (by with_reducible (repeat first | exact bR _ _ | assumption | exact ho (by assumption) | refine bD ?_ | refine bA ?_ ?_ _ | refine bS ?_ ?_ _ | refine bC ?_ (ho (by assumption)) ?_) <;> (first | omega | (simp <;> omega))) (fun hS => ?_)
        clear hK
        try simp only [Act.put, gA, gB, gC, sA, sB, sC]
        refine wpL.eff 2 rfl (by kernel_rfl) rfl ?_
        intro K hK
        go_wp2_with fail
        (with_reducible refine Calls.mono (H2.out _ (by with_reducible (repeat first | exact bR _ _ | assumption | exact ho (by assumption) | refine bD ?_ | refine bA ?_ ?_ _ | refine bS ?_ ?_ _ | refine bC ?_ (ho (by assumption)) ?_) <;> (first | omega | (simp <;> omega)))) ?_)
        rintro e w5 ⟨⟨a0, k0, a1, k1, a2, k2, rfl, s0, s1, s2⟩, hb⟩
        have HS5 := Lib.hid (And.intro s0 (And.intro s1 s2))
        obtain ⟨hc_w5, hf_w5⟩ := bcell hb
        have HB_w5 : Hid (Below W0.heap.size W0 w5) := Lib.hid (below_step (by with_reducible (repeat first | exact bR _ _ | assumption | exact ho (by assumption) | refine bD ?_ | refine bN ?_ _ | refine bA ?_ ?_ _ | refine bS ?_ ?_ _) <;> (first | omega | (simp <;> omega))) hb)
        have hs_w5 := hb.size
        try simp only [World.size_alloc, sz_set, sz_drew, sz_drewN] at hs_w5
        have HK_w5 := Lib.hid hb
        have HC_w5 := Lib.hid (callTo hb)
        clear hb
        try have l0_w5 : W0.heap.size < w5.heap.size := by omega
        try have n0_w5 : W0.heap.size ≠ w5.heap.size := by omega
        try have l1_w5 : W0.heap.size + 1 < w5.heap.size := by omega
        try have n1_w5 : W0.heap.size + 1 ≠ w5.heap.size := by omega
        clear s0 s1 s2
        refine hK _ _ (by with_reducible (repeat first | exact bR _ _ | assumption | exact ho (by assumption) | refine bD ?_ | refine bA ?_ ?_ _ | refine bS ?_ ?_ _ | refine bC ?_ (ho (by assumption)) ?_) <;> (first | omega | (simp <;> omega))) (fun hS => ?_)
        clear hK
        try simp only [Act.put, gA, gB, gC, sA, sB, sC]
        refine wpL.eff 5 rfl (by kernel_rfl) rfl ?_
        intro K hK
        go_wp2_with fail
        (with_reducible refine Calls.mono (H3.out _ (by with_reducible (repeat first | exact bR _ _ | assumption | exact ho (by assumption) | refine bD ?_ | refine bA ?_ ?_ _ | refine bS ?_ ?_ _ | refine bC ?_ (ho (by assumption)) ?_) <;> (first | omega | (simp <;> omega)))) ?_)
        rintro e w6 ⟨⟨b0, m0, b1, m1, b2, m2, rfl, s0, s1, s2⟩, hb⟩
        have HS6 := Lib.hid (And.intro s0 (And.intro s1 s2))
        obtain ⟨hc_w6, hf_w6⟩ := bcell hb
        have HB_w6 : Hid (Below W0.heap.size W0 w6) := Lib.hid (below_step (by with_reducible (repeat first | exact bR _ _ | assumption | exact ho (by assumption) | refine bD ?_ | refine bN ?_ _ | refine bA ?_ ?_ _ | refine bS ?_ ?_ _) <;> (first | omega | (simp <;> omega))) hb)
        have hs_w6 := hb.size
        try simp only [World.size_alloc, sz_set, sz_drew, sz_drewN] at hs_w6
        have HK_w6 := Lib.hid hb
        have HC_w6 := Lib.hid (callTo hb)
        clear hb
        try have l0_w6 : W0.heap.size < w6.heap.size := by omega
        try have n0_w6 : W0.heap.size ≠ w6.heap.size := by omega
        try have l1_w6 : W0.heap.size + 1 < w6.heap.size := by omega
        try have n1_w6 : W0.heap.size + 1 ≠ w6.heap.size := by omega
        try have l2_w6 : w5.heap.size < w6.heap.size := by omega
        try have n2_w6 : w5.heap.size ≠ w6.heap.size := by omega
        try have l3_w6 : w5.heap.size + 1 < w6.heap.size := by omega
        try have n3_w6 : w5.heap.size + 1 ≠ w6.heap.size := by omega
        clear s0 s1 s2
        refine hK _ _ (by with_reducible (repeat first | exact bR _ _ | assumption | exact ho (by assumption) | refine bD ?_ | refine bA ?_ ?_ _ | refine bS ?_ ?_ _ | refine bC ?_ (ho (by assumption)) ?_) <;> (first | omega | (simp <;> omega))) (fun hS => ?_)
        clear hK
        try simp only [Act.put, gA, gB, gC, sA, sB, sC]
        refine wpL.eff 8 rfl (by kernel_rfl) rfl ?_
        intro K hK
        go_wp2
        refine hK _ _ (by with_reducible (repeat first | exact bR _ _ | assumption | exact ho (by assumption) | refine bD ?_ | refine bA ?_ ?_ _ | refine bS ?_ ?_ _ | refine bC ?_ (ho (by assumption)) ?_) <;> (first | omega | (simp <;> omega))) (fun hS => ?_)
        clear hK
        try simp only [Act.put, gA, gB, gC, sA, sB, sC]
        refine wpL.last 9 rfl (by kernel_rfl) rfl (by kernel_rfl) rfl ?_
        go_wp2_with fail
        go_meet
        case rel =>
          have HR := HS5.out
          have HR6 := HS6.out
          exact ⟨_, _, rfl, rfl, Lib.hid (ThreeAt.of HR (by with_reducible (repeat first | exact bR _ _ | assumption | exact ho (by assumption) | refine bD ?_ | refine bA ?_ ?_ _ | refine bS ?_ ?_ _ | refine bC ?_ (ho (by assumption)) ?_) <;> (first | omega | (simp <;> omega))) (by with_reducible (repeat first | exact kR _ _ _ | assumption | exact ho (by assumption) | refine kD ?_ | refine kA ?_ _ | refine kS ?_ ?_ _ | refine kC ?_ (ho (by assumption))) <;> (first | omega | (simp <;> omega))) (by with_reducible (repeat first | assumption | exact ho (by assumption) | (refine Blk.newAt ?z; case z => first | rfl | (first | omega | (simp <;> omega))) | apply Blk.three | apply Blk.seven | apply Blk.nine | (refine Blk.far ?_ ?z _; case z => ((try dsimp only); (first | omega | (simp <;> omega)))) | refine Blk.alloc ?_ _ | refine Blk.drew ?_ | refine Blk.turnTo ?_ (ho (by assumption)) ?_ | refine Blk.belowB ?_ (ho (by assumption)) ?_) <;> (first | omega | (simp <;> omega)))), Lib.hid (ThreeAt.of HR6 (by with_reducible (repeat first | exact bR _ _ | assumption | exact ho (by assumption) | refine bD ?_ | refine bA ?_ ?_ _ | refine bS ?_ ?_ _ | refine bC ?_ (ho (by assumption)) ?_) <;> (first | omega | (simp <;> omega))) (by with_reducible (repeat first | exact kR _ _ _ | assumption | exact ho (by assumption) | refine kD ?_ | refine kA ?_ _ | refine kS ?_ ?_ _ | refine kC ?_ (ho (by assumption))) <;> (first | omega | (simp <;> omega))) (by with_reducible (repeat first | assumption | exact ho (by assumption) | (refine Blk.newAt ?z; case z => first | rfl | (first | omega | (simp <;> omega))) | apply Blk.three | apply Blk.seven | apply Blk.nine | (refine Blk.far ?_ ?z _; case z => ((try dsimp only); (first | omega | (simp <;> omega)))) | refine Blk.alloc ?_ _ | refine Blk.drew ?_ | refine Blk.turnTo ?_ (ho (by assumption)) ?_ | refine Blk.belowB ?_ (ho (by assumption)) ?_) <;> (first | omega | (simp <;> omega)))), Lib.hid (by with_reducible (repeat first | exact bR _ _ | assumption | exact ho (by assumption) | refine bD ?_ | refine bA ?_ ?_ _ | refine bS ?_ ?_ _ | refine bC ?_ (ho (by assumption)) ?_) <;> (first | omega | (simp <;> omega)))⟩
    · go_wp2
      refine hK _ _ (by with_reducible (repeat first | exact bR _ _ | assumption | exact ho (by assumption) | refine bD ?_ | refine bA ?_ ?_ _ | refine bS ?_ ?_ _ | refine bC ?_ (ho (by assumption)) ?_) <;> (first | omega | (simp <;> omega))) (fun hS => ?_)
      clear hK
      try simp only [Act.put, gA, gB, gC, sA, sB, sC]
      refine wpL.two 2 6 rfl rfl (by kernel_rfl) rfl rfl ?_ ?_  <;> intro K hK
      · go_wp2_with fail
        (with_reducible refine Calls.mono (H2.out _ (by with_reducible (repeat first | exact bR _ _ | assumption | exact ho (by assumption) | refine bD ?_ | refine bA ?_ ?_ _ | refine bS ?_ ?_ _ | refine bC ?_ (ho (by assumption)) ?_) <;> (first | omega | (simp <;> omega)))) ?_)
        rintro e w5 ⟨⟨a0, k0, a1, k1, a2, k2, rfl, s0, s1, s2⟩, hb⟩
        have HS5 := Lib.hid (And.intro s0 (And.intro s1 s2))
        obtain ⟨hc_w5, hf_w5⟩ := bcell hb
        have HB_w5 : Hid (Below W0.heap.size W0 w5) := Lib.hid (below_step (by with_reducible (repeat first | exact bR _ _ | assumption | exact ho (by assumption) | refine bD ?_ | refine bN ?_ _ | refine bA ?_ ?_ _ | refine bS ?_ ?_ _) <;> (first | omega | (simp <;> omega))) hb)
        have hs_w5 := hb.size
        try simp only [World.size_alloc, sz_set, sz_drew, sz_drewN] at hs_w5
        have HK_w5 := Lib.hid hb
        have HC_w5 := Lib.hid (callTo hb)
        clear hb
        try have l0_w5 : W0.heap.size < w5.heap.size := by omega
        try have n0_w5 : W0.heap.size ≠ w5.heap.size := by omega
        try have l1_w5 : W0.heap.size + 1 < w5.heap.size := by omega
        try have n1_w5 : W0.heap.size + 1 ≠ w5.heap.size := by omega
        clear s0 s1 s2
        refine hK _ _ (by with_reducible (repeat first | exact bR _ _ | assumption | exact ho (by assumption) | refine bD ?_ | refine bA ?_ ?_ _ | refine bS ?_ ?_ _ | refine bC ?_ (ho (by assumption)) ?_) <;> (first | omega | (simp <;> omega))) (fun hS => ?_)
        clear hK
        try simp only [Act.put, gA, gB, gC, sA, sB, sC]
        refine wpL.two 5 6 rfl rfl (by kernel_rfl) rfl rfl ?_ ?_  <;> intro K hK
        · go_wp2_with fail
          (with_reducible refine Calls.mono (H3.out _ (by with_reducible (repeat first | exact bR _ _ | assumption | exact ho (by assumption) | refine bD ?_ | refine bA ?_ ?_ _ | refine bS ?_ ?_ _ | refine bC ?_ (ho (by assumption)) ?_) <;> (first | omega | (simp <;> omega)))) ?_)
          rintro e w6 ⟨⟨b0, m0, b1, m1, b2, m2, rfl, s0, s1, s2⟩, hb⟩
          have HS6 := Lib.hid (And.intro s0 (And.intro s1 s2))
          obtain ⟨hc_w6, hf_w6⟩ := bcell hb
          have HB_w6 : Hid (Below W0.heap.size W0 w6) := Lib.hid (below_step (by with_reducible (repeat first | exact bR _ _ | assumption | exact ho (by assumption) | refine bD ?_ | refine bN ?_ _ | refine bA ?_ ?_ _ | refine bS ?_ ?_ _) <;> (first | omega | (simp <;> omega))) hb)
          have hs_w6 := hb.size
          try simp only [World.size_alloc, sz_set, sz_drew, sz_drewN] at hs_w6
          have HK_w6 := Lib.hid hb
          have HC_w6 := Lib.hid (callTo hb)
          clear hb
          try have l0_w6 : W0.heap.size < w6.heap.size := by omega
          try have n0_w6 : W0.heap.size ≠ w6.heap.size := by omega
          try have l1_w6 : W0.heap.size + 1 < w6.heap.size := by omega
          try have n1_w6 : W0.heap.size + 1 ≠ w6.heap.size := by omega
          try have l2_w6 : w5.heap.size < w6.heap.size := by omega
          try have n2_w6 : w5.heap.size ≠ w6.heap.size := by omega
          try have l3_w6 : w5.heap.size + 1 < w6.heap.size := by omega
          try have n3_w6 : w5.heap.size + 1 ≠ w6.heap.size := by omega
          clear s0 s1 s2
          refine hK _ _ (by with_reducible (repeat first | exact bR _ _ | assumption | exact ho (by assumption) | refine bD ?_ | refine bA ?_ ?_ _ | refine bS ?_ ?_ _ | refine bC ?_ (ho (by assumption)) ?_) <;> (first | omega | (simp <;> omega))) (fun hS => ?_)
          clear hK
          try simp only [Act.put, gA, gB, gC, sA, sB, sC]
          refine wpL.eff 6 rfl (by kernel_rfl) rfl ?_
          intro K hK
          go_wp2
          refine hK _ _ (by with_reducible (repeat first | exact bR _ _ | assumption | exact ho (by assumption) | refine bD ?_ | refine bA ?_ ?_ _ | refine bS ?_ ?_ _ | refine bC ?_ (ho (by assumption)) ?_) <;> (first | omega | (simp <;> omega))) (fun hS => ?_)
          clear hK
          try simp only [Act.put, gA, gB, gC, sA, sB, sC]
          refine wpL.eff 8 rfl (by kernel_rfl) rfl ?_
          intro K hK
          go_wp2
          refine hK _ _ (by with_reducible (repeat first | exact bR _ _ | assumption | exact ho (by assumption) | refine bD ?_ | refine bA ?_ ?_ _ | refine bS ?_ ?_ _ | refine bC ?_ (ho (by assumption)) ?_) <;> (first | omega | (simp <;> omega))) (fun hS => ?_)
          clear hK
          try simp only [Act.put, gA, gB, gC, sA, sB, sC]
          refine wpL.last 9 rfl (by kernel_rfl) rfl (by kernel_rfl) rfl ?_
          go_wp2_with fail
          go_meet
          case rel =>
            have HR := HS5.out
            have HR6 := HS6.out
            exact ⟨_, _, rfl, rfl, Lib.hid (ThreeAt.of HR (by with_reducible (repeat first | exact bR _ _ | assumption | exact ho (by assumption) | refine bD ?_ | refine bA ?_ ?_ _ | refine bS ?_ ?_ _ | refine bC ?_ (ho (by assumption)) ?_) <;> (first | omega | (simp <;> omega))) (by with_reducible (repeat first | exact kR _ _ _ | assumption | exact ho (by assumption) | refine kD ?_ | refine kA ?_ _ | refine kS ?_ ?_ _ | refine kC ?_ (ho (by assumption))) <;> (first | omega | (simp <;> omega))) (by with_reducible (repeat first | assumption | exact ho (by assumption) | (refine Blk.newAt ?z; case z => first | rfl | (first | omega | (simp <;> omega))) | apply Blk.three | apply Blk.seven | apply Blk.nine | (refine Blk.far ?_ ?z _; case z => ((try dsimp only); (first | omega | (simp <;> omega)))) | refine Blk.alloc ?_ _ | refine Blk.drew ?_ | refine Blk.turnTo ?_ (ho (by assumption)) ?_ | refine Blk.belowB ?_ (ho (by assumption)) ?_) <;> (first | omega | (simp <;> omega)))), Lib.hid (ThreeAt.of HR6 (by with_reducible (repeat first | exact bR _ _ | assumption | exact ho (by assumption) | refine bD ?_ | refine bA ?_ ?_ _ | refine bS ?_ ?_ _ | refine bC ?_ (ho (by assumption)) ?_) <;> (first | omega | (simp <;> omega))) (by with_reducible (repeat first | exact kR _ _ _ | assumption | exact ho (by assumption) | refine kD ?_ | refine kA ?_ _ | refine kS ?_ ?_ _ | refine kC ?_ (ho (by assumption))) <;> (first | omega | (simp <;> omega))) (by with_reducible (repeat first | assumption | exact ho (by assumption) | (refine Blk.newAt ?z; case z => first | rfl | (first | omega | (simp <;> omega))) | apply Blk.three | apply Blk.seven | apply Blk.nine | (refine Blk.far ?_ ?z _; case z => ((try dsimp only); (first | omega | (simp <;> omega)))) | refine Blk.alloc ?_ _ | refine Blk.drew ?_ | refine Blk.turnTo ?_ (ho (by assumption)) ?_ | refine Blk.belowB ?_ (ho (by assumption)) ?_) <;> (first | omega | (simp <;> omega)))), Lib.hid (by with_reducible (repeat first | exact bR _ _ | assumption | exact ho (by assumption) | refine bD ?_ | refine bA ?_ ?_ _ | refine bS ?_ ?_ _ | refine bC ?_ (ho (by assumption)) ?_) <;> (first | omega | (simp <;> omega)))⟩
        · go_wp2
          refine hK _ _ (by with_reducible (repeat first | exact bR _ _ | assumption | exact ho (by assumption) | refine bD ?_ | refine bA ?_ ?_ _ | refine bS ?_ ?_ _ | refine bC ?_ (ho (by assumption)) ?_) <;> (first | omega | (simp <;> omega))) (fun hS => ?_)
          clear hK
          try simp only [Act.put, gA, gB, gC, sA, sB, sC]
          refine wpL.eff 5 rfl (by kernel_rfl) rfl ?_
          intro K hK
          go_wp2_with fail
          (with_reducible refine Calls.mono (H3.out _ (by with_reducible (repeat first | exact bR _ _ | assumption | exact ho (by assumption) | refine bD ?_ | refine bA ?_ ?_ _ | refine bS ?_ ?_ _ | refine bC ?_ (ho (by assumption)) ?_) <;> (first | omega | (simp <;> omega)))) ?_)
          rintro e w6 ⟨⟨b0, m0, b1, m1, b2, m2, rfl, s0, s1, s2⟩, hb⟩
          have HS6 := Lib.hid (And.intro s0 (And.intro s1 s2))
          obtain ⟨hc_w6, hf_w6⟩ := bcell hb
          have HB_w6 : Hid (Below W0.heap.size W0 w6) := Lib.hid (below_step (by with_reducible (repeat first | exact bR _ _ | assumption | exact ho (by assumption) | refine bD ?_ | refine bN ?_ _ | refine bA ?_ ?_ _ | refine bS ?_ ?_ _) <;> (first | omega | (simp <;> omega))) hb)
          have hs_w6 := hb.size
          try simp only [World.size_alloc, sz_set, sz_drew, sz_drewN] at hs_w6
          have HK_w6 := Lib.hid hb
          have HC_w6 := Lib.hid (callTo hb)
          clear hb
          try have l0_w6 : W0.heap.size < w6.heap.size := by omega
          try have n0_w6 : W0.heap.size ≠ w6.heap.size := by omega
          try have l1_w6 : W0.heap.size + 1 < w6.heap.size := by omega
          try have n1_w6 : W0.heap.size + 1 ≠ w6.heap.size := by omega
          try have l2_w6 : w5.heap.size < w6.heap.size := by omega
          try have n2_w6 : w5.heap.size ≠ w6.heap.size := by omega
          try have l3_w6 : w5.heap.size + 1 < w6.heap.size := by omega
          try have n3_w6 : w5.heap.size + 1 ≠ w6.heap.size := by omega
          clear s0 s1 s2
          refine hK _ _ (by with_reducible (repeat first | exact bR _ _ | assumption | exact ho (by assumption) | refine bD ?_ | refine bA ?_ ?_ _ | refine bS ?_ ?_ _ | refine bC ?_ (ho (by assumption)) ?_) <;> (first | omega | (simp <;> omega))) (fun hS => ?_)
          clear hK
          try simp only [Act.put, gA, gB, gC, sA, sB, sC]
          refine wpL.eff 8 rfl (by kernel_rfl) rfl ?_
          intro K hK
          go_wp2
          refine hK _ _ (by with_reducible (repeat first | exact bR _ _ | assumption | exact ho (by assumption) | refine bD ?_ | refine bA ?_ ?_ _ | refine bS ?_ ?_ _ | refine bC ?_ (ho (by assumption)) ?_) <;> (first | omega | (simp <;> omega))) (fun hS => ?_)
          clear hK
          try simp only [Act.put, gA, gB, gC, sA, sB, sC]
          refine wpL.last 9 rfl (by kernel_rfl) rfl (by kernel_rfl) rfl ?_
          go_wp2_with fail
          go_meet
          case rel =>
            have HR := HS5.out
            have HR6 := HS6.out
            exact ⟨_, _, rfl, rfl, Lib.hid (ThreeAt.of HR (by with_reducible (repeat first | exact bR _ _ | assumption | exact ho (by assumption) | refine bD ?_ | refine bA ?_ ?_ _ | refine bS ?_ ?_ _ | refine bC ?_ (ho (by assumption)) ?_) <;> (first | omega | (simp <;> omega))) (by with_reducible (repeat first | exact kR _ _ _ | assumption | exact ho (by assumption) | refine kD ?_ | refine kA ?_ _ | refine kS ?_ ?_ _ | refine kC ?_ (ho (by assumption))) <;> (first | omega | (simp <;> omega))) (by with_reducible (repeat first | assumption | exact ho (by assumption) | (refine Blk.newAt ?z; case z => first | rfl | (first | omega | (simp <;> omega))) | apply Blk.three | apply Blk.seven | apply Blk.nine | (refine Blk.far ?_ ?z _; case z => ((try dsimp only); (first | omega | (simp <;> omega)))) | refine Blk.alloc ?_ _ | refine Blk.drew ?_ | refine Blk.turnTo ?_ (ho (by assumption)) ?_ | refine Blk.belowB ?_ (ho (by assumption)) ?_) <;> (first | omega | (simp <;> omega)))), Lib.hid (ThreeAt.of HR6 (by with_reducible (repeat first | exact bR _ _ | assumption | exact ho (by assumption) | refine bD ?_ | refine bA ?_ ?_ _ | refine bS ?_ ?_ _ | refine bC ?_ (ho (by assumption)) ?_) <;> (first | omega | (simp <;> omega))) (by with_reducible (repeat first | exact kR _ _ _ | assumption | exact ho (by assumption) | refine kD ?_ | refine kA ?_ _ | refine kS ?_ ?_ _ | refine kC ?_ (ho (by assumption))) <;> (first | omega | (simp <;> omega))) (by with_reducible (repeat first | assumption | exact ho (by assumption) | (refine Blk.newAt ?z; case z => first | rfl | (first | omega | (simp <;> omega))) | apply Blk.three | apply Blk.seven | apply Blk.nine | (refine Blk.far ?_ ?z _; case z => ((try dsimp only); (first | omega | (simp <;> omega)))) | refine Blk.alloc ?_ _ | refine Blk.drew ?_ | refine Blk.turnTo ?_ (ho (by assumption)) ?_ | refine Blk.belowB ?_ (ho (by assumption)) ?_) <;> (first | omega | (simp <;> omega)))), Lib.hid (by with_reducible (repeat first | exact bR _ _ | assumption | exact ho (by assumption) | refine bD ?_ | refine bA ?_ ?_ _ | refine bS ?_ ?_ _ | refine bC ?_ (ho (by assumption)) ?_) <;> (first | omega | (simp <;> omega)))⟩
      · go_wp2
        refine hK _ _ (by with_reducible (repeat first | exact bR _ _ | assumption | exact ho (by assumption) | refine bD ?_ | refine bA ?_ ?_ _ | refine bS ?_ ?_ _ | refine bC ?_ (ho (by assumption)) ?_) <;> (first | omega | (simp <;> omega))) (fun hS => ?_)
        clear hK
        try simp only [Act.put, gA, gB, gC, sA, sB, sC]
        refine wpL.eff 2 rfl (by kernel_rfl) rfl ?_
        intro K hK
        go_wp2_with fail
        (with_reducible refine Calls.mono (H2.out _ (by with_reducible (repeat first | exact bR _ _ | assumption | exact ho (by assumption) | refine bD ?_ | refine bA ?_ ?_ _ | refine bS ?_ ?_ _ | refine bC ?_ (ho (by assumption)) ?_) <;> (first | omega | (simp <;> omega)))) ?_)
        rintro e w5 ⟨⟨a0, k0, a1, k1, a2, k2, rfl, s0, s1, s2⟩, hb⟩
        have HS5 := Lib.hid (And.intro s0 (And.intro s1 s2))
        obtain ⟨hc_w5, hf_w5⟩ := bcell hb
        have HB_w5 : Hid (Below W0.heap.size W0 w5) := Lib.hid (below_step (by with_reducible (repeat first | exact bR _ _ | assumption | exact ho (by assumption) | refine bD ?_ | refine bN ?_ _ | refine bA ?_ ?_ _ | refine bS ?_ ?_ _) <;> (first | omega | (simp <;> omega))) hb)
        have hs_w5 := hb.size
        try simp only [World.size_alloc, sz_set, sz_drew, sz_drewN] at hs_w5
        have HK_w5 := Lib.hid hb
        have HC_w5 := Lib.hid (callTo hb)
        clear hb
        try have l0_w5 : W0.heap.size < w5.heap.size := by omega
        try have n0_w5 : W0.heap.size ≠ w5.heap.size := by omega
        try have l1_w5 : W0.heap.size + 1 < w5.heap.size := by omega
        try have n1_w5 : W0.heap.size + 1 ≠ w5.heap.size := by omega
        clear s0 s1 s2
        refine hK _ _ (by with_reducible (repeat first | exact bR _ _ | assumption | exact ho (by assumption) | refine bD ?_ | refine bA ?_ ?_ _ | refine bS ?_ ?_ _ | refine bC ?_ (ho (by assumption)) ?_) <;> (first | omega | (simp <;> omega))) (fun hS => ?_)
        clear hK
        try simp only [Act.put, gA, gB, gC, sA, sB, sC]
        refine wpL.eff 5 rfl (by kernel_rfl) rfl ?_
        intro K hK
        go_wp2_with fail
        (with_reducible refine Calls.mono (H3.out _ (by with_reducible (repeat first | exact bR _ _ | assumption | exact ho (by assumption) | refine bD ?_ | refine bA ?_ ?_ _ | refine bS ?_ ?_ _ | refine bC ?_ (ho (by assumption)) ?_) <;> (first | omega | (simp <;> omega)))) ?_)
        rintro e w6 ⟨⟨b0, m0, b1, m1, b2, m2, rfl, s0, s1, s2⟩, hb⟩
        have HS6 := Lib.hid (And.intro s0 (And.intro s1 s2))
        obtain ⟨hc_w6, hf_w6⟩ := bcell hb
        have HB_w6 : Hid (Below W0.heap.size W0 w6) := Lib.hid (below_step (by with_reducible (repeat first | exact bR _ _ | assumption | exact ho (by assumption) | refine bD ?_ | refine bN ?_ _ | refine bA ?_ ?_ _ | refine bS ?_ ?_ _) <;> (first | omega | (simp <;> omega))) hb)
        have hs_w6 := hb.size
        try simp only [World.size_alloc, sz_set, sz_drew, sz_drewN] at hs_w6
        have HK_w6 := Lib.hid hb
        have HC_w6 := Lib.hid (callTo hb)
        clear hb
        try have l0_w6 : W0.heap.size < w6.heap.size := by omega
        try have n0_w6 : W0.heap.size ≠ w6.heap.size := by omega
        try have l1_w6 : W0.heap.size + 1 < w6.heap.size := by omega
        try have n1_w6 : W0.heap.size + 1 ≠ w6.heap.size := by omega
        try have l2_w6 : w5.heap.size < w6.heap.size := by omega
        try have n2_w6 : w5.heap.size ≠ w6.heap.size := by omega
        try have l3_w6 : w5.heap.size + 1 < w6.heap.size := by omega
        try have n3_w6 : w5.heap.size + 1 ≠ w6.heap.size := by omega
        clear s0 s1 s2
        refine hK _ _ (by with_reducible (repeat first | exact bR _ _ | assumption | exact ho (by assumption) | refine bD ?_ | refine bA ?_ ?_ _ | refine bS ?_ ?_ _ | refine bC ?_ (ho (by assumption)) ?_) <;> (first | omega | (simp <;> omega))) (fun hS => ?_)
        clear hK
        try simp only [Act.put, gA, gB, gC, sA, sB, sC]
        refine wpL.eff 8 rfl (by kernel_rfl) rfl ?_
        intro K hK
        go_wp2
        refine hK _ _ (by with_reducible (repeat first | exact bR _ _ | assumption | exact ho (by assumption) | refine bD ?_ | refine bA ?_ ?_ _ | refine bS ?_ ?_ _ | refine bC ?_ (ho (by assumption)) ?_) <;> (first | omega | (simp <;> omega))) (fun hS => ?_)
        clear hK
        try simp only [Act.put, gA, gB, gC, sA, sB, sC]
        refine wpL.last 9 rfl (by kernel_rfl) rfl (by kernel_rfl) rfl ?_
        go_wp2_with fail
        go_meet
        case rel =>
          have HR := HS5.out
          have HR6 := HS6.out
          exact ⟨_, _, rfl, rfl, Lib.hid (ThreeAt.of HR (by with_reducible (repeat first | exact bR _ _ | assumption | exact ho (by assumption) | refine bD ?_ | refine bA ?_ ?_ _ | refine bS ?_ ?_ _ | refine bC ?_ (ho (by assumption)) ?_) <;> (first | omega | (simp <;> omega))) (by with_reducible (repeat first | exact kR _ _ _ | assumption | exact ho (by assumption) | refine kD ?_ | refine kA ?_ _ | refine kS ?_ ?_ _ | refine kC ?_ (ho (by assumption))) <;> (first | omega | (simp <;> omega))) (by with_reducible (repeat first | assumption | exact ho (by assumption) | (refine Blk.newAt ?z; case z => first | rfl | (first | omega | (simp <;> omega))) | apply Blk.three | apply Blk.seven | apply Blk.nine | (refine Blk.far ?_ ?z _; case z => ((try dsimp only); (first | omega | (simp <;> omega)))) | refine Blk.alloc ?_ _ | refine Blk.drew ?_ | refine Blk.turnTo ?_ (ho (by assumption)) ?_ | refine Blk.belowB ?_ (ho (by assumption)) ?_) <;> (first | omega | (simp <;> omega)))), Lib.hid (ThreeAt.of HR6 (by with_reducible (repeat first | exact bR _ _ | assumption | exact ho (by assumption) | refine bD ?_ | refine bA ?_ ?_ _ | refine bS ?_ ?_ _ | refine bC ?_ (ho (by assumption)) ?_) <;> (first | omega | (simp <;> omega))) (by with_reducible (repeat first | exact kR _ _ _ | assumption | exact ho (by assumption) | refine kD ?_ | refine kA ?_ _ | refine kS ?_ ?_ _ | refine kC ?_ (ho (by assumption))) <;> (first | omega | (simp <;> omega))) (by with_reducible (repeat first | assumption | exact ho (by assumption) | (refine Blk.newAt ?z; case z => first | rfl | (first | omega | (simp <;> omega))) | apply Blk.three | apply Blk.seven | apply Blk.nine | (refine Blk.far ?_ ?z _; case z => ((try dsimp only); (first | omega | (simp <;> omega)))) | refine Blk.alloc ?_ _ | refine Blk.drew ?_ | refine Blk.turnTo ?_ (ho (by assumption)) ?_ | refine Blk.belowB ?_ (ho (by assumption)) ?_) <;> (first | omega | (simp <;> omega)))), Lib.hid (by with_reducible (repeat first | exact bR _ _ | assumption | exact ho (by assumption) | refine bD ?_ | refine bA ?_ ?_ _ | refine bS ?_ ?_ _ | refine bC ?_ (ho (by assumption)) ?_) <;> (first | omega | (simp <;> omega)))⟩
  case rest =>
    obtain ⟨bx, bz, rfl, rfl, HX, HY, HBx⟩ := hcut
    have hMx := HM.out
    have hs1 := HBx.out.size
    obtain ⟨hcx, hfx⟩ := bcellB HBx.out
    have HBy : Hid (Below w.heap.size w wc) := Lib.hid (HB0.out.trans (HBx.out.mono HB0.out.size))
    have HO1 := Lib.hid (HOb.out.belowB HBx.out hz0)
    have hq := HO1.out.lt
    go_wp2_with fail
    (with_reducible refine Calls.mono (H4.out _ _ _ (by with_reducible (repeat first | exact bR _ _ | assumption | exact ho (by assumption) | refine bD ?_ | refine bN ?_ _ | refine bA ?_ ?_ _ | refine bS ?_ ?_ _) <;> (first | omega | (simp <;> omega))) (HCb.out.belowB HBx.out z4) (HPb.out.belowB HBx.out z3) HX.out HY.out) ?_)
    rintro e w7 ⟨⟨g, rfl, hgb, hP⟩, hb⟩
    have HP := Lib.hid hP
    have hk7 := HO1.out.below hb
    obtain ⟨k0, k1, k2⟩ := el_cells hk7
    have f0 := hk7.free 0
    have f1 := hk7.free 1
    have f2 := hk7.free 2
    have HB7 : Hid (Below w.heap.size w w7) := Lib.hid (below_call HBy.out hb HBy.out.size)
    clear hP hb hk7
    go_wp2
    refine bodyPost_ret (v := .tuple #[.agg #[.int .i64 A.level, .int .i64 A.exponent, .slice (some ⟨g, 0, none⟩) M M], .int .i64 0]) (by simp [results, Tryz.results44, go_sem, k0, k1, k2]) rfl ⟨⟨g, rfl, by omega, ?_⟩, (by with_reducible (repeat first | exact bR _ _ | assumption | exact ho (by assumption) | refine bD ?_ | refine bN ?_ _ | refine bA ?_ ?_ _ | refine bS ?_ ?_ _) <;> (first | omega | (simp <;> omega)))⟩
    obtain ⟨cs, p1, p2, p3⟩ := HP.out
    exact ⟨cs, (by with_reducible (repeat first | assumption | exact ho (by assumption) | (refine Blk.newAt ?z; case z => first | rfl | (first | omega | (simp <;> omega))) | apply Blk.three | apply Blk.seven | apply Blk.nine | (refine Blk.far ?_ ?z _; case z => ((try dsimp only); (first | omega | (simp <;> omega)))) | refine Blk.alloc ?_ _ | refine Blk.drew ?_ | refine Blk.turnTo ?_ (ho (by assumption)) ?_ | refine Blk.belowB ?_ (ho (by assumption)) ?_) <;> (first | omega | (simp <;> omega))), p2, fun j hj => by
      obtain ⟨ao', c', bj, q1, q2, q3, q4, q5, q6⟩ := p3 j hj
      exact ⟨ao', c', bj, q1, q2, q3, q4.kp (by with_reducible (repeat first | exact kR _ _ _ | assumption | exact ho (by assumption) | refine kD ?_ | refine kA ?_ _ | refine kS ?_ ?_ _ | refine kC ?_ (ho (by assumption))) <;> (first | omega | (simp <;> omega))), by omega, q6⟩⟩
end Go.Proofs.YtcipjbckcnkfaaaGreat
