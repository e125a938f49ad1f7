/- The reference's product of elements.
The reference's Of, Mul and Scale. (Printed by genwrap.py.) -/
import Derived.Test.YtcipjbckcnkfaaaGreatPs14
import Derived.Test.YtcipjbckcnkfaaaGreatPs16
import Derived.Test.YtcipjbckcnkfaaaGreatPs11
import Derived.Test.YtcipjbckcnkfaaaGreatPs23
import Derived.Test.YtcipjbckcnkfaaaGreatPs22
set_option linter.unusedSimpArgs false
set_option linter.unusedVariables false
namespace Go.Proofs.YtcipjbckcnkfaaaGreat
open Go.RowKit
attribute [local go_sem ↓] Go.wp_at_zero Go.wp_at_succ

set_option maxHeartbeats 6400000 in
set_option maxRecDepth 100000 in
theorem r09Mul_walk (p : Par) (ca : Option Addr) (cc : Nat) (A B : El) (aa ab : Option Addr) (cA cB : Nat) (w : World) (hin : ParIn w p ca cc) (hg : Good p) (hM : Match p A B) (hra : RdR w aa A.rows) (hrb : RdR w ab B.rows) :
    Calls Tryz.prog 75 #[.agg (p.cells ca cc), A.val aa cA, B.val ab cB] w fun e w' => (∃ v, e = .returned (.tuple #[v, .int .i64 0]) ∧ GiveEl w.heap.size (mulEl p A B) v w') ∧ Below w.heap.size w w' := by
  obtain ⟨lv, m, N, hlv, hma, hmb, hpn, hqm, hlv1, hlv2, hn0, hn32, hs0, hs1, hna, hval, hqb⟩ := hM.shape hg
  have hm25 : m ≤ 25 := by
    have h24 := hg.len
    cases hsp : A.special
    · have := hs0 hsp; omega
    · have := hs1 hsp; omega
  have hpl := hM.a.1
  have H1 := Lib.hid (fun (w' : World) (hb : Below w.heap.size w w') => r09two_walk p ca cc A B aa ab cA cB w' (hin.below hb) hg hM (hra.below hb) (hrb.below hb))
  have H3 := Lib.hid (fun (w' : World) (hb : Below w.heap.size w w') => r09Moduli_walk p ca cc A.level A.special w' (hin.below hb) hg hpl)
  obtain ⟨q, hq⟩ : ∃ q, p.qs A.level A.special = q := ⟨_, rfl⟩
  rw [hq] at hqm hqb hval H3
  rw [hqm] at H3
  have hl := hM.level
  have hs := hM.special
  obtain ⟨sp, hsp⟩ : ∃ sp, A.special = sp := ⟨_, rfl⟩
  obtain ⟨f, hf⟩ : ∃ f : Nat → Nat → Nat, (fun i k => nc (A.get i) (B.get i) (q.getD i 0) N k) = f := ⟨_, rfl⟩
  have HE : Hid (mulEl p A B = ⟨lv, sp, mkRows m N f⟩) := Lib.hid (by unfold mulEl; rw [hq, hqm, hpn, hlv, hsp, Int.toNat_natCast, hf])
  have HF : Hid (∀ i, f i = fun k => nc (A.get i) (B.get i) (q.getD i 0) N k) := Lib.hid (fun i => by rw [← hf])
  have HPR := Lib.hid (fun (i : Nat) (hi : i < m) (ro1 ro2 : Option Addr) (rc1 rc2 : Nat) (w' : World) (h1 : Rd w' ro1 (A.row i)) (h2 : Rd w' ro2 (B.row i)) => r06Product_walk (q.getD i 0) N (A.row i) (B.row i) ro1 ro2 rc1 rc2 w' (hqb i hi).1 (hqb i hi).2 hn0 hn32 (hna i hi).1 (hna i hi).2 h1 h2 (fun j hj => hval i hi j hj))
  have HRA := Lib.hid hra
  have HRB := Lib.hid hrb
  have HMA := Lib.hid hma
  have HMB := Lib.hid hmb
  have HNA := Lib.hid hna
  have HQL := Lib.hid hqm
  have HQB := Lib.hid hqb
  unfold El.val Par.cells at *
  rw [hl, hs, hlv, hsp, hma, hmb] at H1 ⊢
  rw [hlv, hsp] at H3
  clear hin hg hM hra hrb hl hs hlv hsp hma hmb hpn hqm hs0 hs1 hna hval hqb hf hq hpl
  go_enter Tryz.func75, Tryz.ntmps75
  go_wp2_with fail
  (with_reducible refine Calls.mono (H1.out _ (by with_reducible (repeat first | exact bR _ _ | assumption | exact ho (by assumption) | refine bD ?_ | refine bN ?_ _ | refine bA ?_ ?_ _ | refine bS ?_ ?_ _) <;> (first | omega | (simp <;> omega)))) ?_)
  rintro e w2 ⟨rfl, hb⟩
  obtain ⟨hc_w2, hf_w2⟩ := bcell hb
  have HB_w2 : Hid (Below w.heap.size w w2) := Lib.hid (below_step (by with_reducible (repeat first | exact bR _ _ | assumption | exact ho (by assumption) | refine bD ?_ | refine bN ?_ _ | refine bA ?_ ?_ _ | refine bS ?_ ?_ _) <;> (first | omega | (simp <;> omega))) hb)
  have hs_w2 := hb.size
  try simp only [World.size_alloc, sz_set, sz_drew, sz_drewN] at hs_w2
  have q0_w2 : w.heap.size < w2.heap.size := by omega
  have q1_w2 : w.heap.size + 1 < w2.heap.size := by omega
  have q2_w2 : w.heap.size + 1 + 1 < w2.heap.size := by omega
  have q3_w2 : w.heap.size + 1 + 1 + 1 < w2.heap.size := by omega
  have HK_w2 := Lib.hid hb
  clear hb
  go_wp2_with fail
  (with_reducible refine Calls.mono (H3.out _ (by with_reducible (repeat first | exact bR _ _ | assumption | exact ho (by assumption) | refine bD ?_ | refine bN ?_ _ | refine bA ?_ ?_ _ | refine bS ?_ ?_ _) <;> (first | omega | (simp <;> omega)))) ?_)
  rintro e w3 ⟨qo, qc, rfl, hqr, hqc, hqc2, hb⟩
  have HB42 : Hid (Blk w3 w2.heap.size 54 #[.int .i64 lv, .bool sp, .slice none 0 0]) := Lib.hid (Blk.below (Blk.newAt rfl) hb)
  have hqd : w2.heap.size < w3.heap.size := HB42.out.lt
  obtain ⟨hc_w3, hf_w3⟩ := bcell hb
  have HB_w3 : Hid (Below w.heap.size w w3) := Lib.hid (below_step (by with_reducible (repeat first | exact bR _ _ | assumption | exact ho (by assumption) | refine bD ?_ | refine bN ?_ _ | refine bA ?_ ?_ _ | refine bS ?_ ?_ _) <;> (first | omega | (simp <;> omega))) hb)
  have hs_w3 := hb.size
  try simp only [World.size_alloc, sz_set, sz_drew, sz_drewN] at hs_w3
  have q0_w3 : w.heap.size < w3.heap.size := by omega
  have q1_w3 : w.heap.size + 1 < w3.heap.size := by omega
  have q2_w3 : w.heap.size + 1 + 1 < w3.heap.size := by omega
  have q3_w3 : w.heap.size + 1 + 1 + 1 < w3.heap.size := by omega
  have HK_w3 := Lib.hid hb
  clear hb
  have HQR := Lib.hid hqr
  clear hqr
  have n1 : w.heap.size + 1 ≠ w2.heap.size := by omega
  have n2 : w.heap.size + 1 + 1 ≠ w2.heap.size := by omega
  have n3 : w.heap.size + 1 + 1 + 1 ≠ w2.heap.size := by omega
  have k1 : w3.cell? ⟨w.heap.size + 1, 2, none⟩ = some (.slice aa m cA) := by rw [hc_w3 _ _ (by simp; omega)]; simp [go_sem, hc_w2, q1_w2, n1]
  have k2 : w3.cell? ⟨w.heap.size + 1 + 1, 2, none⟩ = some (.slice ab m cB) := by rw [hc_w3 _ _ (by simp; omega)]; simp [go_sem, hc_w2, q2_w2, n2]
  go_wp2
  go_loopg [10] m (fun fu v wr => ∃ (i : Nat) (ao : Option Addr) (c : Nat), v = .int .i64 i ∧ i ≤ m ∧ m - i ≤ fu ∧ Hid (Blk wr w2.heap.size 54 #[.int .i64 lv, .bool sp, .slice ao i c]) ∧ Hid (OwR wr w3.heap.size (.slice ao i c) (mkRows i N f)) ∧ Hid (Turn w3 wr [w2.heap.size]))
  case atStart => exact ⟨0, none, 0, rfl, by omega, by omega, HB42, Lib.hid (OwR.nil _ _), Lib.hid (Turn.refl _ _)⟩
  case round =>
    obtain ⟨i, ao, c, rfl, hi, hfu, HBO, HOR, HT⟩ := hrel
    obtain ⟨hcr, hfr⟩ := tcell HT.out
    by_cases hlt : i < m
    case neg =>
      obtain rfl : i = m := by omega
      obtain ⟨e0, e1, e2⟩ := el_cells HBO.out
      have HFI : Hid (∀ W4, Turn wr W4 [w.heap.size + 1 + 1 + 1] → RdRN W4 w.heap.size ao (mkRows i N f) ∧ Below w.heap.size w W4) := Lib.hid (fun W4 hT4 =>
        ⟨(HOR.out.turn hT4 (fun x hx => by simp at hx; omega)).rdn.mono (by omega), HB_w3.out.trans ((HT.out.trans' hT4).belowN HB_w3.out.size (fun x hx => by simp at hx; omega))⟩)
      obtain ⟨ao', c', e', _, hcl, hcb⟩ := HOR.out.shape
      rw [mkRows_len] at e' hcl
      cases e'
      go_wp2
      have T0 := (((Turn.refl wr [w.heap.size + 1 + 1 + 1]).setCell (p := ⟨w.heap.size + 1 + 1 + 1, 0, none⟩) (.inl (by simp)) (.int .i64 lv)).setCell (p := ⟨w.heap.size + 1 + 1 + 1, 1, none⟩) (.inl (by simp)) (.bool sp)).setCell (p := ⟨w.heap.size + 1 + 1 + 1, 2, none⟩) (.inl (by simp)) (.slice ao i c)
      obtain ⟨r1, r2⟩ := HFI.out _ T0
      refine bodyPost_ret (v := .tuple #[.agg #[.int .i64 lv, .bool sp, .slice ao i c], .int .i64 0]) (by simp [results, Tryz.results75, go_sem, hcr, hc_w3, hc_w2, q0_w2, q0_w3, q1_w2, q1_w3, q2_w2, q2_w3, q3_w2, q3_w3, n3]) rfl ⟨⟨_, rfl, ao, c, ?_, ?_, ?_, hcb⟩, r2⟩
      · rw [HE.out]; unfold El.val; simp only [mkRows_len]
      · rw [HE.out]; exact r1
      · rw [HE.out]; simp only; rw [mkRows_len]; exact hcl
    have HBwr : Hid (Below w.heap.size w wr) := Lib.hid (HB_w3.out.trans (HT.out.belowN HB_w3.out.size (fun x hx => by simp at hx; omega)))
    have hs3 := HT.out.size
    have hbo2 : w2.heap.size < wr.heap.size := HBO.out.lt
    obtain ⟨bq, oq, rfl, hcq⟩ := HQR.out i (by rw [HQL.out]; exact hlt)
    have hq1 := HT.out.cell (hcq i (by rw [HQL.out]; exact hlt)) (by
      have hne := elem_no_u32 HB42.out (hcq i (by rw [HQL.out]; exact hlt))
      simpa using hne)
    obtain ⟨ba, oa, rfl, hca⟩ := (HRA.out.below HBwr.out) i (by rw [HMA.out]; exact hlt)
    obtain ⟨ro1, rc1, hr1, hrd1, _⟩ := hca i (by rw [HMA.out]; exact hlt)
    obtain ⟨bb, ob, rfl, hcb⟩ := (HRB.out.below HBwr.out) i (by rw [HMB.out]; exact hlt)
    obtain ⟨ro2, rc2, hr2, hrd2, _⟩ := hcb i (by rw [HMB.out]; exact hlt)
    have hl1 : (A.rows.getD i []).length = N := (HNA.out i hlt).1
    have hl2 : (B.rows.getD i []).length = N := (HNA.out i hlt).2
    rw [hl1] at hr1
    rw [hl2] at hr2
    have hPi := HPR.out i hlt ro1 ro2 rc1 rc2
    have hFi := HF.out i
    have hqb := HQB.out i hlt
    obtain ⟨x, hx⟩ : ∃ x, q.getD i 0 = x := ⟨_, rfl⟩
    rw [hx] at hq1 hPi hFi hqb
    obtain ⟨e0, e1, e2⟩ := el_cells HBO.out
    have a2 : wr.cell? ⟨w.heap.size + 1, 2, none⟩ = some (.slice (some ⟨ba, oa, none⟩) m cA) := by rw [hcr _ _ q1_w3 n1]; exact k1
    have b2 : wr.cell? ⟨w.heap.size + 1 + 1, 2, none⟩ = some (.slice (some ⟨bb, ob, none⟩) m cB) := by rw [hcr _ _ q2_w3 n2]; exact k2
    have hlow : ∀ {b o : Nat} {v : Value}, w.cell? ⟨b, o, none⟩ = some v → b < w3.heap.size ∧ b ≠ w2.heap.size := fun {b o v} h => by have : b < w.heap.size := World.block_lt_of_cell? w _ h; exact ⟨by omega, by omega⟩
    obtain ⟨ba', oa', ea, hca0⟩ := HRA.out i (by rw [HMA.out]; exact hlt)
    cases ea
    obtain ⟨_, _, hra0, _⟩ := hca0 i (by rw [HMA.out]; exact hlt)
    obtain ⟨bb', ob', eb, hcb0⟩ := HRB.out i (by rw [HMB.out]; exact hlt)
    cases eb
    obtain ⟨_, _, hrb0, _⟩ := hcb0 i (by rw [HMB.out]; exact hlt)
    have la := hlow hra0
    have lb := hlow hrb0
    have lq : bq < w3.heap.size := World.block_lt_of_cell? w3 _ (hcq i (by rw [HQL.out]; exact hlt))
    have lq2 : bq ≠ w2.heap.size := elem_no_u32 HB42.out (hcq i (by rw [HQL.out]; exact hlt))
    have HSK : Hid (∀ w' : World, (∀ k, k < w3.heap.size → k ≠ w2.heap.size → w'.heap[k]? = wr.heap[k]?) → w'.cell? ⟨w.heap.size + 1, 2, none⟩ = some (.slice (some ⟨ba, oa, none⟩) m cA) ∧ w'.cell? ⟨w.heap.size + 1 + 1, 2, none⟩ = some (.slice (some ⟨bb, ob, none⟩) m cB) ∧ w'.cell? ⟨ba, oa + i, none⟩ = some (.slice ro1 N rc1) ∧ w'.cell? ⟨bb, ob + i, none⟩ = some (.slice ro2 N rc2) ∧ w'.cell? ⟨bq, oq + i, none⟩ = some (.int .u32 (x : Int))) := Lib.hid (fun w' hk => by
      have t : ∀ {a : Addr} {v : Value}, wr.cell? a = some v → a.block < w3.heap.size → a.block ≠ w2.heap.size → w'.cell? a = some v := fun {a v} h h1 h2 => (World.cell?_of_block (hk _ h1 h2)).trans h
      exact ⟨t a2 q1_w3 n1, t b2 q2_w3 n2, t hr1 la.1 la.2, t hr2 lb.1 lb.2, t hq1 lq lq2⟩)
    have HPi : Hid (∀ W, Below wr.heap.size wr W → W.heap.size = wr.heap.size → Calls Tryz.prog 104 #[.int .u32 x, .slice ro1 N rc1, .slice ro2 N rc2] W fun e w' => e = .returned (.slice (some ⟨wr.heap.size, 0, none⟩) N N) ∧ RowB w' wr.heap.size ((List.range N).map (f i)) ∧ Below wr.heap.size wr w') := Lib.hid (fun W hb hs => by
      have h := hPi W (hrd1.below hb) (hrd2.below hb)
      rw [hs] at h
      rw [hFi]
      exact h.mono (fun e w' ⟨h1, h2, h3⟩ => ⟨h1, h2, hb.trans h3⟩))
    have HAP : Hid (∀ w4, RowB w4 wr.heap.size ((List.range N).map (f i)) → Below wr.heap.size wr w4 → ∃ ao4 c4 w5, (Builtin.append_ #[52, 52] 52 #[.slice ao i c, .slice (some ⟨w4.heap.size, 0, none⟩) 1 1]).run Tryz.prog (w4.alloc (.cells #[.slice (some ⟨wr.heap.size, 0, none⟩) N N] 23)) = .ok (.slice ao4 (i + 1) c4) w5 ∧
        Hid (Blk w5 w2.heap.size 54 #[.int .i64 lv, .bool sp, .slice ao i c]) ∧ Hid (OwR w5 w3.heap.size (.slice ao4 (i + 1) c4) (mkRows (i + 1) N f)) ∧ Hid (Turn w3 w5 [w2.heap.size]) ∧ w5.frozen? ⟨w2.heap.size, 2, none⟩ = false ∧ w5.cell? ⟨w2.heap.size, 2, none⟩ = some (.slice ao i c) ∧ Hid (∀ k, k < w3.heap.size → w4.heap[k]? = wr.heap[k]?) ∧ Hid (∀ k, k < w3.heap.size → w5.heap[k]? = wr.heap[k]?) ∧ w4.cell? ⟨w2.heap.size, 2, none⟩ = some (.slice ao i c) ∧ w2.heap.size < w4.heap.size) := Lib.hid (fun w4 hrow hb4 => by
      have hs4 := hb4.size
      have hrl : ((List.range N).map (f i)).length = N := by simp
      have hal : Below w4.heap.size w4 (w4.alloc (.cells #[.slice (some ⟨wr.heap.size, 0, none⟩) N N] 23)) := (Below.refl _ w4).alloc (Nat.le_refl _) _
      obtain ⟨v', w5, hrun, hO4, hB4, hT4⟩ := ((HOR.out.below hb4).below hal).append (by simp; omega) (by rw [mkRows_len]; omega) 52 ⟨w4.heap.size, 0, none⟩ 1 (some ⟨wr.heap.size, 0, none⟩) N ((List.range N).map (f i)) (by rw [hrl]; exact (Blk.new w4 _ _).cell 0) ((RowB.rd hrow).below hal) (by rw [hrl]; exact Nat.le_refl _) (fun a ha => by
        cases ha
        obtain ⟨vals, ho1, hg1, _⟩ := HOR.out
        refine ⟨fun k => ?_, U32.below ⟨_, hrow⟩ hal, by simp only; omega⟩
        have := hg1 _ k
        simp only at this
        omega)
      obtain ⟨ao4, c4', rfl, _, _, _⟩ := hO4.shape
      rw [← mkRows_succ, mkRows_len] at hO4
      have hl4 : (mkRows i N f ++ [(List.range N).map (f i)]).length = i + 1 := by rw [List.length_append, mkRows_len]; rfl
      rw [hl4] at hrun
      have hbk4 : Blk w5 w2.heap.size 54 #[.int .i64 lv, .bool sp, .slice ao i c] := (hB4.block _ (by omega)).trans ((HBO.out.below hb4).below hal)
      exact ⟨ao4, c4', w5, hrun, hbk4, hO4, HT.out.low (((hb4.mono hs3).trans (hal.mono (by omega))).trans hB4) (Nat.le_refl _), hbk4.free 2, hbk4.cell 2, fun k hk => hb4.block k (by omega), fun k hk => (hB4.block k hk).trans ((hal.block k (by omega)).trans (hb4.block k (by omega))), (HBO.out.below hb4).cell 2, by omega⟩)
    have i0 : (0 : Int) ≤ (i : Int) := Int.natCast_nonneg _
    have i1 : (i : Int) < (m : Int) := by omega
    clear hcq hca hcb hr1 hr2 hrd1 hrd2 hl1 hl2 hPi hFi hx hcr hfr hca0 hcb0 hra0 hrb0 hlow k1 k2 e0 e1
    have hs3' : w3.heap.size ≤ wr.heap.size := hs3
    go_wp2
    have hS0 : (fun w' : World => w'.cell? ⟨w2.heap.size, 2, none⟩ = some (.slice ao i c) ∧ w'.cell? ⟨w.heap.size + 1, 2, none⟩ = some (.slice (some ⟨ba, oa, none⟩) m cA) ∧ w'.cell? ⟨w.heap.size + 1 + 1, 2, none⟩ = some (.slice (some ⟨bb, ob, none⟩) m cB) ∧ w'.cell? ⟨ba, oa + i, none⟩ = some (.slice ro1 N rc1) ∧ w'.cell? ⟨bb, ob + i, none⟩ = some (.slice ro2 N rc2) ∧ w'.cell? ⟨bq, oq + i, none⟩ = some (.int .u32 (x : Int))) wr.drew := ⟨e2, HSK.out _ (fun k hk hn => rfl)⟩
    refine wp_region_L (fun w' => w'.cell? ⟨w2.heap.size, 2, none⟩ = some (.slice ao i c) ∧ w'.cell? ⟨w.heap.size + 1, 2, none⟩ = some (.slice (some ⟨ba, oa, none⟩) m cA) ∧ w'.cell? ⟨w.heap.size + 1 + 1, 2, none⟩ = some (.slice (some ⟨bb, ob, none⟩) m cB) ∧ w'.cell? ⟨ba, oa + i, none⟩ = some (.slice ro1 N rc1) ∧ w'.cell? ⟨bb, ob + i, none⟩ = some (.slice ro2 N rc2) ∧ w'.cell? ⟨bq, oq + i, none⟩ = some (.int .u32 (x : Int))) 20 (by kernel_rfl) (by kernel_rfl) (by kernel_rfl) ?_
    refine tJ 0 (v := ?_) (by assumption) ?_ ?_
    rotate_left
    · (intro w h; (try dsimp only at h); go_simp; try with_reducible rfl)
    try simp only [Act.put, gA, gB, gC, sA, sB, sC]
    refine tJ 1 (v := ?_) (by assumption) ?_ ?_
    rotate_left
    · (intro w h; (try dsimp only at h); go_simp; try with_reducible rfl)
    try simp only [Act.put, gA, gB, gC, sA, sB, sC]
    refine tJ 2 (v := ?_) (by assumption) ?_ ?_
    rotate_left
    · (intro w h; (try dsimp only at h); go_simp; try with_reducible rfl)
    try simp only [Act.put, gA, gB, gC, sA, sB, sC]
    refine tJ 3 (v := ?_) (by assumption) ?_ ?_
    rotate_left
    · (intro w h; (try dsimp only at h); go_simp; try with_reducible rfl)
    try simp only [Act.put, gA, gB, gC, sA, sB, sC]
    refine tJ 4 (v := ?_) (by assumption) ?_ ?_
    rotate_left
    · (intro w h; (try dsimp only at h); go_simp; try with_reducible rfl)
    try simp only [Act.put, gA, gB, gC, sA, sB, sC]
    refine tJ 5 (v := ?_) (by assumption) ?_ ?_
    rotate_left
    · (intro w h; (try dsimp only at h); go_simp; try with_reducible rfl)
    try simp only [Act.put, gA, gB, gC, sA, sB, sC]
    refine tJ 6 (v := ?_) (by assumption) ?_ ?_
    rotate_left
    · (intro w h; (try dsimp only at h); go_simp; try with_reducible rfl)
    try simp only [Act.put, gA, gB, gC, sA, sB, sC]
    refine tJ 7 (v := ?_) (by assumption) ?_ ?_
    rotate_left
    · (intro w h; (try dsimp only at h); go_simp; try with_reducible rfl)
    try simp only [Act.put, gA, gB, gC, sA, sB, sC]
    refine tJ 8 (v := ?_) (by assumption) ?_ ?_
    rotate_left
    · (intro w h; (try dsimp only at h); go_simp; try with_reducible rfl)
    try simp only [Act.put, gA, gB, gC, sA, sB, sC]
    refine tJ 9 (v := ?_) (by assumption) ?_ ?_
    rotate_left
    · (intro w h; (try dsimp only at h); go_simp; try with_reducible rfl)
    try simp only [Act.put, gA, gB, gC, sA, sB, sC]
    refine tJ 10 (v := ?_) (by assumption) ?_ ?_
    rotate_left
    · (intro w h; (try dsimp only at h); go_simp; try with_reducible rfl)
    try simp only [Act.put, gA, gB, gC, sA, sB, sC]
    refine tJ 11 (v := ?_) (by assumption) ?_ ?_
    rotate_left
    · (intro w h; (try dsimp only at h); go_simp; try with_reducible rfl)
    try simp only [Act.put, gA, gB, gC, sA, sB, sC]
    refine tJ 12 (v := ?_) (by assumption) ?_ ?_
    rotate_left
    · (intro w h; (try dsimp only at h); go_simp; try with_reducible rfl)
    try simp only [Act.put, gA, gB, gC, sA, sB, sC]
    refine tJ 13 (v := ?_) (by assumption) ?_ ?_
    rotate_left
    · (intro w h; (try dsimp only at h); go_simp; try with_reducible rfl)
    try simp only [Act.put, gA, gB, gC, sA, sB, sC]
    refine tJ 14 (v := ?_) (by assumption) ?_ ?_
    rotate_left
    · (intro w h; (try dsimp only at h); go_simp; try with_reducible rfl)
    try simp only [Act.put, gA, gB, gC, sA, sB, sC]
    refine tJ 15 (v := ?_) (by assumption) ?_ ?_
    rotate_left
    · (intro w h; (try dsimp only at h); go_simp; try with_reducible rfl)
    try simp only [Act.put, gA, gB, gC, sA, sB, sC]
    clear hS0
    refine wpL.eff 16 rfl (by kernel_rfl) rfl ?_
    intro K hK
    go_wp2_with fail
    (with_reducible refine Calls.mono (HPi.out _ ((Below.refl _ _).drew) rfl) ?_)
    rintro e w4 ⟨rfl, hrow, hb4⟩
    obtain ⟨ao4, c4, w5, hrun, HBK, HO5, HT5, f5, e5, K4, K5, e4, l4⟩ := HAP.out w4 hrow hb4
    have l5 := hb4.size
    have hS4 : (fun w' : World => w'.cell? ⟨w2.heap.size, 2, none⟩ = some (.slice ao i c) ∧ w'.cell? ⟨w.heap.size + 1, 2, none⟩ = some (.slice (some ⟨ba, oa, none⟩) m cA) ∧ w'.cell? ⟨w.heap.size + 1 + 1, 2, none⟩ = some (.slice (some ⟨bb, ob, none⟩) m cB) ∧ w'.cell? ⟨ba, oa + i, none⟩ = some (.slice ro1 N rc1) ∧ w'.cell? ⟨bb, ob + i, none⟩ = some (.slice ro2 N rc2) ∧ w'.cell? ⟨bq, oq + i, none⟩ = some (.int .u32 (x : Int))) (w4.alloc (.cells #[.slice (some ⟨wr.heap.size, 0, none⟩) N N] 23)) := ⟨by rw [World.cell?_alloc_lt _ _ _ l4]; exact e4, HSK.out _ (fun k hk hn => (Below.heap_alloc _ _ k (by omega)).trans (K4.out k hk))⟩
    refine hK _ _ (⟨e4, HSK.out _ (fun k hk hn => K4.out k hk)⟩) (fun hS => ?_)
    clear hK
    try simp only [Act.put, gA, gB, gC, sA, sB, sC]
    clear hrow hb4
    refine wpL.eff 17 rfl (by kernel_rfl) rfl ?_
    intro K hK
    go_wp2
    refine hK _ _ (hS4) (fun hS => ?_)
    clear hK
    try simp only [Act.put, gA, gB, gC, sA, sB, sC]
    refine wpL.eff 18 rfl (by kernel_rfl) rfl ?_
    intro K hK
    refine wp_append_run (.tmp 35) (.tmp 51) 52 rfl _ _ rfl rfl _ _ hrun ?_
    have hS5 : (fun w' : World => w'.cell? ⟨w2.heap.size, 2, none⟩ = some (.slice ao i c) ∧ w'.cell? ⟨w.heap.size + 1, 2, none⟩ = some (.slice (some ⟨ba, oa, none⟩) m cA) ∧ w'.cell? ⟨w.heap.size + 1 + 1, 2, none⟩ = some (.slice (some ⟨bb, ob, none⟩) m cB) ∧ w'.cell? ⟨ba, oa + i, none⟩ = some (.slice ro1 N rc1) ∧ w'.cell? ⟨bb, ob + i, none⟩ = some (.slice ro2 N rc2) ∧ w'.cell? ⟨bq, oq + i, none⟩ = some (.int .u32 (x : Int))) w5 := ⟨e5, HSK.out _ (fun k hk hn => K5.out k hk)⟩
    refine hK _ _ (hS5) (fun hS => ?_)
    clear hK
    try simp only [Act.put, gA, gB, gC, sA, sB, sC]
    clear hS4 hrun
    refine tJ 19 (v := ?_) (by assumption) ?_ ?_
    rotate_left
    · (intro w h; (try dsimp only at h); go_simp; try with_reducible rfl)
    try simp only [Act.put, gA, gB, gC, sA, sB, sC]
    clear hS5
    refine wpL.last 20 rfl (by kernel_rfl) rfl (by kernel_rfl) rfl ?_
    go_wp2
    go_roundg (m - (i + 1))
    case measure => omega
    case rel => exact ⟨i + 1, ao4, c4, by go_num, by omega, Nat.le_refl _, Lib.hid (HBK.out.set 2 _), Lib.hid (HO5.out.turn (S := [w2.heap.size]) ((Turn.refl w5 _).setCell (p := ⟨w2.heap.size, 2, none⟩) (.inl (by simp)) _) (fun x hx => by simp at hx; omega)), Lib.hid (HT5.out.setCell (p := ⟨w2.heap.size, 2, none⟩) (.inl (by simp)) _)⟩
end Go.Proofs.YtcipjbckcnkfaaaGreat

namespace Go.Proofs.YtcipjbckcnkfaaaGreat
open Go.RowKit

theorem r13Add_give (p : Par) (ca : Option Addr) (cc : Nat) (A B : El) (aa ab : Option Addr) (cA cB : Nat) (w : World) (hin : ParIn w p ca cc) (hg : Good p) (hM : Match p A B) (hra : RdR w aa A.rows) (hrb : RdR w ab B.rows) :
    Calls Tryz.prog 41 #[.agg (p.cells ca cc), A.val aa cA, B.val ab cB] w fun e w' => (∃ v, e = .returned v ∧ GiveEl w.heap.size (sumEl p A B 1) v w') ∧ Below w.heap.size w w' :=
  (r13Add_walk p ca cc A B aa ab cA cB w hin hg hM hra hrb).mono (fun _ _ ⟨ao, c, h1, h2, h3, h4, h5⟩ => ⟨⟨_, h1, ao, c, rfl, h2, h3, h4⟩, h5⟩)
theorem r13Sub_give (p : Par) (ca : Option Addr) (cc : Nat) (A B : El) (aa ab : Option Addr) (cA cB : Nat) (w : World) (hin : ParIn w p ca cc) (hg : Good p) (hM : Match p A B) (hra : RdR w aa A.rows) (hrb : RdR w ab B.rows) :
    Calls Tryz.prog 47 #[.agg (p.cells ca cc), A.val aa cA, B.val ab cB] w fun e w' => (∃ v, e = .returned v ∧ GiveEl w.heap.size (sumEl p A B (-1)) v w') ∧ Below w.heap.size w w' :=
  (r13Sub_walk p ca cc A B aa ab cA cB w hin hg hM hra hrb).mono (fun _ _ ⟨ao, c, h1, h2, h3, h4, h5⟩ => ⟨⟨_, h1, ao, c, rfl, h2, h3, h4⟩, h5⟩)

set_option maxHeartbeats 3200000 in
theorem r13Of_walk (p : Par) (ca : Option Addr) (cc : Nat) (A : El) (aa : Option Addr) (cA : Nat) (l : List Int) (al : Option Addr) (cl : Nat) (w : World) (hin : ParIn w p ca cc) (hg : Good p) (hpl : PlaceOk p A.level A.special) (hll : (l.length : Int) = p.n) (hlv : ∀ j, j < l.length → -9223372036854775808 ≤ l.getD j 0 ∧ l.getD j 0 ≤ 9223372036854775807) (hrd : RdI w al l) :
    Calls Tryz.prog 79 #[.agg (p.cells ca cc), A.val aa cA, .slice al l.length cl] w fun e w' => (∃ v, e = .returned v ∧ GiveEl w.heap.size (ofEl p A.level A.special l) v w') ∧ Below w.heap.size w w' := by
  have H1 := Lib.hid (fun (w' : World) (hb : Below w.heap.size w w') => r09FromInts_walk p ca cc A.level A.special l al cl w' (hin.below hb) hg hpl hll hlv (hrd.below hb))
  obtain ⟨E, hE⟩ : ∃ E, ofEl p A.level A.special l = E := ⟨_, rfl⟩
  rw [hE] at H1 ⊢
  obtain ⟨el, hel⟩ : ∃ el, E.level = el := ⟨_, rfl⟩
  obtain ⟨es, hes⟩ : ∃ es, E.special = es := ⟨_, rfl⟩
  obtain ⟨m, hm⟩ : ∃ m, E.rows.length = m := ⟨_, rfl⟩
  unfold GiveEl El.val Par.cells at *
  rw [hel, hes, hm] at H1 ⊢
  clear hin hg hpl hll hlv hrd hE hel hes hm
  go_enter Tryz.func79, Tryz.ntmps79
  go_wp2_with fail
  (with_reducible refine Calls.mono (H1.out _ (by with_reducible (repeat first | exact bR _ _ | assumption | exact ho (by assumption) | refine bD ?_ | refine bN ?_ _ | refine bA ?_ ?_ _ | refine bS ?_ ?_ _) <;> (first | omega | (simp <;> omega)))) ?_)
  rintro e w2 ⟨⟨v, rfl, ao, c, rfl, hro, hrc, hrc2⟩, hb⟩
  have HRO := Lib.hid hro
  have hb2 : Blk w2 (w.heap.size + 1 + 1) 54 #[.int .i64 0, .bool false, .slice none 0 0] := Blk.below (by repeat (first | exact Blk.newAt (by (first | omega | (simp only [World.size_alloc, sz_set, sz_drew, sz_drewN]; done) | (simp only [World.size_alloc, sz_set, sz_drew, sz_drewN]; omega))) | (with_reducible refine Blk.alloc ?_ _) | (with_reducible refine Blk.drew ?_) | (with_reducible refine Blk.drewN ?_ _) | (with_reducible refine Blk.belowB ?_ (Hid.out (by assumption)) ?szk; case szk => (first | omega | (simp only [World.size_alloc, sz_set, sz_drew, sz_drewN]; done) | (simp only [World.size_alloc, sz_set, sz_drew, sz_drewN]; omega))))) hb
  clear hro
  obtain ⟨hc_w2, hf_w2⟩ := bcell hb
  have HB_w2 : Hid (Below w.heap.size w w2) := Lib.hid (below_step (by with_reducible (repeat first | exact bR _ _ | assumption | exact ho (by assumption) | refine bD ?_ | refine bN ?_ _ | refine bA ?_ ?_ _ | refine bS ?_ ?_ _) <;> (first | omega | (simp <;> omega))) hb)
  have hs_w2 := hb.size
  try simp only [World.size_alloc, sz_set, sz_drew, sz_drewN] at hs_w2
  have q0_w2 : w.heap.size < w2.heap.size := by omega
  have q1_w2 : w.heap.size + 1 < w2.heap.size := by omega
  have q2_w2 : w.heap.size + 1 + 1 < w2.heap.size := by omega
  have HK_w2 := Lib.hid hb
  clear hb
  obtain ⟨k0, k1, k2⟩ := el_cells hb2
  have f0 := hb2.free 0
  have f1 := hb2.free 1
  have f2 := hb2.free 2
  clear hb2
  go_wp2
  refine bodyPost_ret (v := .agg #[.int .i64 el, .bool es, .slice ao m c]) (by simp [results, Tryz.results79, go_sem, k0, k1, k2, q2_w2]) rfl ⟨⟨_, rfl, ao, c, rfl, ?_, hrc, hrc2⟩, (by with_reducible (repeat first | exact bR _ _ | assumption | exact ho (by assumption) | refine bD ?_ | refine bN ?_ _ | refine bA ?_ ?_ _ | refine bS ?_ ?_ _) <;> (first | omega | (simp <;> omega)))⟩
  exact (((HRO.out.turn (S := [w.heap.size + 1 + 1]) ((((Turn.refl _ _).setCell (p := ⟨w.heap.size + 1 + 1, 0, none⟩) (.inl (by simp)) _).setCell (p := ⟨w.heap.size + 1 + 1, 1, none⟩) (.inl (by simp)) _).setCell (p := ⟨w.heap.size + 1 + 1, 2, none⟩) (.inl (by simp)) _) (fun x hx => by (try simp only [List.mem_singleton, World.size_alloc] at hx ⊢); omega)).below ((Below.refl _ _).alloc (Nat.le_refl _) _))).mono (by (try simp only [World.size_alloc]); omega)

set_option maxHeartbeats 3200000 in
theorem r13Mul_walk (p : Par) (ca : Option Addr) (cc : Nat) (A B : El) (aa ab : Option Addr) (cA cB : Nat) (w : World) (hin : ParIn w p ca cc) (hg : Good p) (hM : Match p A B) (hra : RdR w aa A.rows) (hrb : RdR w ab B.rows) :
    Calls Tryz.prog 42 #[.agg (p.cells ca cc), A.val aa cA, B.val ab cB] w fun e w' => (∃ v, e = .returned v ∧ GiveEl w.heap.size (mulEl p A B) v w') ∧ Below w.heap.size w w' := by
  have H1 := Lib.hid (fun (w' : World) (hb : Below w.heap.size w w') => r09Mul_walk p ca cc A B aa ab cA cB w' (hin.below hb) hg hM (hra.below hb) (hrb.below hb))
  obtain ⟨E, hE⟩ : ∃ E, mulEl p A B = E := ⟨_, rfl⟩
  rw [hE] at H1 ⊢
  obtain ⟨el, hel⟩ : ∃ el, E.level = el := ⟨_, rfl⟩
  obtain ⟨es, hes⟩ : ∃ es, E.special = es := ⟨_, rfl⟩
  obtain ⟨m, hm⟩ : ∃ m, E.rows.length = m := ⟨_, rfl⟩
  unfold GiveEl El.val Par.cells at *
  rw [hel, hes, hm] at H1 ⊢
  clear hin hg hM hra hrb hE hel hes hm
  go_enter Tryz.func42, Tryz.ntmps42
  go_wp2_with fail
  (with_reducible refine Calls.mono (H1.out _ (by with_reducible (repeat first | exact bR _ _ | assumption | exact ho (by assumption) | refine bD ?_ | refine bN ?_ _ | refine bA ?_ ?_ _ | refine bS ?_ ?_ _) <;> (first | omega | (simp <;> omega)))) ?_)
  rintro e w2 ⟨⟨v, rfl, ao, c, rfl, hro, hrc, hrc2⟩, hb⟩
  have HRO := Lib.hid hro
  have hb2 : Blk w2 (w.heap.size + 1 + 1 + 1) 54 #[.int .i64 0, .bool false, .slice none 0 0] := Blk.below (by repeat (first | exact Blk.newAt (by (first | omega | (simp only [World.size_alloc, sz_set, sz_drew, sz_drewN]; done) | (simp only [World.size_alloc, sz_set, sz_drew, sz_drewN]; omega))) | (with_reducible refine Blk.alloc ?_ _) | (with_reducible refine Blk.drew ?_) | (with_reducible refine Blk.drewN ?_ _) | (with_reducible refine Blk.belowB ?_ (Hid.out (by assumption)) ?szk; case szk => (first | omega | (simp only [World.size_alloc, sz_set, sz_drew, sz_drewN]; done) | (simp only [World.size_alloc, sz_set, sz_drew, sz_drewN]; omega))))) hb
  clear hro
  obtain ⟨hc_w2, hf_w2⟩ := bcell hb
  have HB_w2 : Hid (Below w.heap.size w w2) := Lib.hid (below_step (by with_reducible (repeat first | exact bR _ _ | assumption | exact ho (by assumption) | refine bD ?_ | refine bN ?_ _ | refine bA ?_ ?_ _ | refine bS ?_ ?_ _) <;> (first | omega | (simp <;> omega))) hb)
  have hs_w2 := hb.size
  try simp only [World.size_alloc, sz_set, sz_drew, sz_drewN] at hs_w2
  have q0_w2 : w.heap.size < w2.heap.size := by omega
  have q1_w2 : w.heap.size + 1 < w2.heap.size := by omega
  have q2_w2 : w.heap.size + 1 + 1 < w2.heap.size := by omega
  have q3_w2 : w.heap.size + 1 + 1 + 1 < w2.heap.size := by omega
  have HK_w2 := Lib.hid hb
  clear hb
  obtain ⟨k0, k1, k2⟩ := el_cells hb2
  have f0 := hb2.free 0
  have f1 := hb2.free 1
  have f2 := hb2.free 2
  clear hb2
  go_wp2
  refine bodyPost_ret (v := .agg #[.int .i64 el, .bool es, .slice ao m c]) (by simp [results, Tryz.results42, go_sem, k0, k1, k2, q3_w2]) rfl ⟨⟨_, rfl, ao, c, rfl, ?_, hrc, hrc2⟩, (by with_reducible (repeat first | exact bR _ _ | assumption | exact ho (by assumption) | refine bD ?_ | refine bN ?_ _ | refine bA ?_ ?_ _ | refine bS ?_ ?_ _) <;> (first | omega | (simp <;> omega)))⟩
  exact (((HRO.out.turn (S := [w.heap.size + 1 + 1 + 1]) ((((Turn.refl _ _).setCell (p := ⟨w.heap.size + 1 + 1 + 1, 0, none⟩) (.inl (by simp)) _).setCell (p := ⟨w.heap.size + 1 + 1 + 1, 1, none⟩) (.inl (by simp)) _).setCell (p := ⟨w.heap.size + 1 + 1 + 1, 2, none⟩) (.inl (by simp)) _) (fun x hx => by (try simp only [List.mem_singleton, World.size_alloc] at hx ⊢); omega)).below ((Below.refl _ _).alloc (Nat.le_refl _) _))).mono (by (try simp only [World.size_alloc]); omega)
end Go.Proofs.YtcipjbckcnkfaaaGreat
