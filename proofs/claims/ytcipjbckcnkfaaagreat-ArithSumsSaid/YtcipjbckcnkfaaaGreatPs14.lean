/- The reference's residue; sums of elements.
The reference's sum of elements.
The reference's Add and Sub of valid elements. -/
import Derived.Test.YtcipjbckcnkfaaaGreatPs07
import Derived.Test.YtcipjbckcnkfaaaGreatPs08
import Derived.Test.YtcipjbckcnkfaaaGreatPs10
import Derived.Deep.RegionHeld3
import Derived.Deep.DrawnRows
set_option linter.unusedSimpArgs false
set_option linter.unusedVariables false
namespace Go.Proofs.YtcipjbckcnkfaaaGreat
open Go.RowKit
attribute [local go_sem ↓] Go.wp_at_zero Go.wp_at_succ

/-- An integer modulo q. -/
def resid (n : Int) (q : Nat) : Nat := (n % (q : Int)).toNat
theorem resid_int {n : Int} {q : Nat} (hq : 0 < q) : ((resid n q : Nat) : Int) = n % (q : Int) := Int.toNat_of_nonneg (Int.emod_nonneg _ (by omega))
theorem resid_lt {n : Int} {q : Nat} (hq : 0 < q) : resid n q < q := by
  have := Int.emod_lt_of_pos n (show (0 : Int) < (q : Int) by omega)
  have := resid_int (n := n) hq
  omega
set_option maxHeartbeats 1600000 in
theorem r09residue_walk (n : Int) (q : Nat) (w : World) (hq : 0 < q) (hq2 : q ≤ 2147483647) (h1 : -9223372036854775808 ≤ n) (h2 : n ≤ 9223372036854775807) :
    Calls Tryz.prog 129 #[.int .i64 n, .int .u32 q] w fun e w' => e = .returned (.int .u64 (resid n q : Nat)) ∧ w = w' := by
  have hr := resid_int (n := n) hq
  have hl := resid_lt (n := n) hq
  obtain ⟨r, hrr⟩ : ∃ r, resid n q = r := ⟨_, rfl⟩
  rw [hrr] at hr hl ⊢
  clear hrr
  by_cases h0 : 0 ≤ n
  · have hm : n % (q : Int) = (r : Int) := hr.symm
    have g : decide ((r : Int) < 0) = false := decide_eq_false (by omega)
    clear hr
    go_enter Tryz.func129, Tryz.ntmps129
    go_wp2
    go_ret
    exact ⟨rfl, rfl⟩
  · have ht : n.tmod (q : Int) = if (r : Int) = 0 then 0 else (r : Int) - q := by
      have e : n.tmod (q : Int) = -((-n) % (q : Int)) := by rw [← Int.tmod_eq_emod_of_nonneg (by omega), Int.neg_tmod, Int.neg_neg]
      have e2 : (r : Int) = n % (q : Int) := hr
      have e3 := Int.emod_add_mul_ediv n q
      have e4 := Int.emod_add_mul_ediv (-n) q
      have e5 := Int.emod_nonneg (-n) (show (q : Int) ≠ 0 by omega)
      have e6 := Int.emod_lt_of_pos (-n) (show (0 : Int) < (q : Int) by omega)
      rw [e]
      have hs : ((-n) % (q : Int) + n % (q : Int)) = (q : Int) * (-(n / (q : Int)) - (-n) / (q : Int)) := by
        rw [Int.mul_sub, Int.mul_neg]; omega
      have hk : (-n) % (q : Int) + n % (q : Int) = 0 ∨ (-n) % (q : Int) + n % (q : Int) = q := by
        obtain ⟨z, hz⟩ : ∃ z, -(n / (q : Int)) - (-n) / (q : Int) = z := ⟨_, rfl⟩
        rw [hz] at hs
        have a1 : 0 ≤ (q : Int) * z := by omega
        have a2 : (q : Int) * z < (q : Int) * 2 := by omega
        have b1 : z < 2 := Int.lt_of_mul_lt_mul_left a2 (by omega)
        have b2 : 0 ≤ z := by
          by_cases h : z < 0
          · have := Int.mul_le_mul_of_nonneg_left (show z ≤ -1 by omega) (show (0 : Int) ≤ (q : Int) by omega)
            omega
          · omega
        have : z = 0 ∨ z = 1 := by omega
        rcases this with h | h
        · left; rw [hs, h]; simp
        · right; rw [hs, h]; simp
      split <;> omega
    by_cases hr0 : r = 0
    · have hm : n.tmod (q : Int) = 0 := by rw [ht, if_pos (by omega)]
      subst hr0
      clear ht hr
      go_enter Tryz.func129, Tryz.ntmps129
      go_wp2
      go_ret
      exact ⟨rfl, rfl⟩
    · have hm : n.tmod (q : Int) = (r : Int) - q := by rw [ht, if_neg (by omega)]
      have g : decide ((r : Int) - (q : Int) < 0) = true := decide_eq_true (by omega)
      clear ht hr
      go_enter Tryz.func129, Tryz.ntmps129
      go_wp2
      go_ret
      exact ⟨by first | rfl | (congr 2; omega), rfl⟩
end Go.Proofs.YtcipjbckcnkfaaaGreat

namespace Go.Proofs.YtcipjbckcnkfaaaGreat
open Go.RowKit
attribute [local go_sem ↓] Go.wp_at_zero Go.wp_at_succ

/-- The sum of an element and a multiple. -/
def sumF (p : Par) (A B : El) (k : Int) (i j : Nat) : Nat := (A.get i j + B.get i j * resid k ((p.qs A.level A.special).getD i 0)) % (p.qs A.level A.special).getD i 0
def sumEl (p : Par) (A B : El) (k : Int) : El := ⟨A.level, A.special, mkRows (p.qs A.level A.special).length p.n.toNat (sumF p A B k)⟩

theorem elem_no_u32 {w : World} {b o : Nat} {t : TypeId} {a : Int} {s : Bool} {x : Option Addr} {y z : Nat} {n : Int} {b2 : Nat} (h : Blk w b t #[.int .i64 a, .bool s, .slice x y z]) (hc : w.cell? ⟨b2, o, none⟩ = some (.int .u32 n)) : b2 ≠ b := by
  rintro rfl
  rw [h.cell o] at hc
  match o, hc with
  | 0, hc => simp at hc
  | 1, hc => simp at hc
  | 2, hc => simp at hc
  | o + 3, hc => simp at hc
set_option maxHeartbeats 6400000 in
set_option maxRecDepth 100000 in
theorem r09sum_walk (p : Par) (ca : Option Addr) (cc : Nat) (A B : El) (aa ab : Option Addr) (cA cB : Nat) (k : Int) (w : World) (hin : ParIn w p ca cc) (hg : Good p) (hA : ElOk p A) (hB : ElOk p B) (hl : B.level = A.level) (hs : B.special = A.special)
    (hra : RdR w aa A.rows) (hrb : RdR w ab B.rows) (hk1 : -9223372036854775808 ≤ k) (hk2 : k ≤ 9223372036854775807) :
    Calls Tryz.prog 103 #[.agg (p.cells ca cc), A.val aa cA, B.val ab cB, .int .i64 k] w fun e w' => ∃ ao c, e = .returned ((sumEl p A B k).val ao c) ∧ RdRN w' w.heap.size ao (sumEl p A B k).rows ∧ (sumEl p A B k).rows.length ≤ c ∧ c ≤ 9223372036854775807 ∧ Below w.heap.size w w' := by
  obtain ⟨lv, hlv⟩ : ∃ lv, A.level = lv := ⟨_, rfl⟩
  obtain ⟨sp, hsp⟩ : ∃ sp, A.special = sp := ⟨_, rfl⟩
  obtain ⟨q, hq⟩ : ∃ q, p.qs lv sp = q := ⟨_, rfl⟩
  obtain ⟨m, hm⟩ : ∃ m, q.length = m := ⟨_, rfl⟩
  obtain ⟨N, hN⟩ : ∃ N : Nat, p.n = (N : Int) := ⟨p.n.toNat, by have := hg.n.1; omega⟩
  have hma : A.rows.length = m := by rw [hA.2.1, hlv, hsp, hq, hm]
  have hmb : B.rows.length = m := by rw [hB.2.1, hl, hs, hlv, hsp, hq, hm]
  have hrow : ∀ i, i < m → (A.row i).length = N ∧ (B.row i).length = N := fun i hi => ⟨by have := (hA.2.2 i (by omega)).1; omega, by have := (hB.2.2 i (by omega)).1; omega⟩
  have hval : ∀ i j, i < m → j < N → A.get i j < q.getD i 0 ∧ B.get i j < q.getD i 0 := fun i j hi hj => by
    have h1 := (hA.2.2 i (by omega)).2 j (by rw [(hrow i hi).1]; exact hj)
    have h2 := (hB.2.2 i (by omega)).2 j (by rw [(hrow i hi).2]; exact hj)
    rw [hlv, hsp, hq] at h1
    rw [hl, hs, hlv, hsp, hq] at h2
    exact ⟨h1, h2⟩
  have hqb : ∀ i, i < m → 0 < q.getD i 0 ∧ q.getD i 0 ≤ 2147483647 := fun i hi => by
    have := hg.qs (level := lv) (sp := sp) (i := i) (by rw [hq, hm]; exact hi)
    rw [hq] at this
    omega
  have hm25 : m ≤ 25 := by
    rw [← hm, ← hq]
    unfold Par.qs
    have := hg.len.2
    rw [List.length_append, List.length_take]
    split <;> simp <;> omega
  have hN32 : N ≤ 32 := by have := hg.n.2; omega
  have hN4 : 4 ≤ N := by have := hg.n.1; omega
  have hpl : PlaceOk p lv sp := by rw [← hlv, ← hsp]; exact hA.1
  have HE : Hid (sumEl p A B k = ⟨lv, sp, mkRows m N (sumF p A B k)⟩) := Lib.hid (by unfold sumEl; rw [hlv, hsp, hq, hm, hN]; rfl)
  have HF : Hid (∀ i j, sumF p A B k i j = (A.get i j + B.get i j * resid k (q.getD i 0)) % q.getD i 0) := Lib.hid (fun i j => by unfold sumF; rw [hlv, hsp, hq])
  obtain ⟨f, hf⟩ : ∃ f, sumF p A B k = f := ⟨_, rfl⟩
  rw [hf] at HE HF
  obtain ⟨W1, hW1⟩ : ∃ W1, ((((w.alloc (.cells (p.cells ca cc) 25)).alloc (.cells #[.int .i64 lv, .bool sp, .slice aa m cA] 54)).alloc (.cells #[.int .i64 lv, .bool sp, .slice ab m cB] 54)).alloc (.cells #[.int .i64 0, .bool false, .slice none 0 0] 54)).alloc (.cells #[.int .i64 lv, .bool sp, .slice none 0 0] 54) = W1 := ⟨_, rfl⟩
  have hAW : Below w.heap.size w W1 := by rw [← hW1]; exact (((((Below.refl _ w).alloc (Nat.le_refl _) _).alloc (by simp) _).alloc (by simp; omega) _).alloc (by simp; omega) _).alloc (by simp; omega) _
  have b0 : Blk W1 w.heap.size 25 (p.cells ca cc) := by rw [← hW1]; exact ((((Blk.new _ _ _).alloc _).alloc _).alloc _).alloc _
  have b1 : Blk W1 (w.heap.size + 1) 54 #[.int .i64 lv, .bool sp, .slice aa m cA] := by
    rw [← hW1]
    have := Blk.new (w.alloc (.cells (p.cells ca cc) 25)) 54 #[.int .i64 lv, .bool sp, .slice aa m cA]
    rw [World.size_alloc] at this
    exact ((this.alloc _).alloc _).alloc _
  have b2 : Blk W1 (w.heap.size + 1 + 1) 54 #[.int .i64 lv, .bool sp, .slice ab m cB] := by
    rw [← hW1]
    have := Blk.new ((w.alloc (.cells (p.cells ca cc) 25)).alloc (.cells #[.int .i64 lv, .bool sp, .slice aa m cA] 54)) 54 #[.int .i64 lv, .bool sp, .slice ab m cB]
    rw [World.size_alloc, World.size_alloc] at this
    exact (this.alloc _).alloc _
  have b3 : Blk W1 (w.heap.size + 1 + 1 + 1) 54 #[.int .i64 0, .bool false, .slice none 0 0] := by
    rw [← hW1]
    have := Blk.new (((w.alloc (.cells (p.cells ca cc) 25)).alloc (.cells #[.int .i64 lv, .bool sp, .slice aa m cA] 54)).alloc (.cells #[.int .i64 lv, .bool sp, .slice ab m cB] 54)) 54 #[.int .i64 0, .bool false, .slice none 0 0]
    rw [World.size_alloc, World.size_alloc, World.size_alloc] at this
    exact this.alloc _
  have b4 : Blk W1 (w.heap.size + 1 + 1 + 1 + 1) 54 #[.int .i64 lv, .bool sp, .slice none 0 0] := by
    rw [← hW1]
    have := Blk.new ((((w.alloc (.cells (p.cells ca cc) 25)).alloc (.cells #[.int .i64 lv, .bool sp, .slice aa m cA] 54)).alloc (.cells #[.int .i64 lv, .bool sp, .slice ab m cB] 54)).alloc (.cells #[.int .i64 0, .bool false, .slice none 0 0] 54)) 54 #[.int .i64 lv, .bool sp, .slice none 0 0]
    rw [World.size_alloc, World.size_alloc, World.size_alloc, World.size_alloc] at this
    exact this
  have HMO := Lib.hid (r09Moduli_walk p ca cc lv sp W1 (hin.below hAW) hg hpl)
  have HRA := Lib.hid hra
  have HRB := Lib.hid hrb
  have HAW := Lib.hid hAW
  obtain ⟨c0, c1, c2, c3, c4, c5, c6⟩ := par_cells b0
  have HB0 := Lib.hid b0
  have HB1 := Lib.hid b1
  have HB2 := Lib.hid b2
  have HB3 := Lib.hid b3
  have HB4 := Lib.hid b4
  have HMA := Lib.hid hma
  have HMB := Lib.hid hmb
  have HRO := Lib.hid hrow
  have HVA := Lib.hid hval
  have HQB := Lib.hid hqb
  have HQL := Lib.hid hm
  have HRES := Lib.hid (fun (i : Nat) (hi : i < m) (w : World) => r09residue_walk k (q.getD i 0) w (hqb i hi).1 (hqb i hi).2 hk1 hk2)
  rw [hq, hm] at HMO
  unfold El.val Par.cells at *
  rw [hlv, hsp, hma, hl, hs, hlv, hsp, hmb]
  rw [hN] at hW1 HMO HB0 c0 ⊢
  clear hin hg hA hB hl hs hra hrb hlv hsp hq hm hN hma hmb hrow hval hqb hpl hf hAW b0 b1 b2 b3 b4 hk1 hk2
  have HW1 := Lib.hid hW1
  clear hW1 c0 c1 c2 c3 c4 c5 c6
  go_enter Tryz.func103, Tryz.ntmps103
  go_wp2_with fail
  rw [HW1.out]
  (with_reducible refine Calls.mono HMO.out ?_)
  rintro e w2 ⟨qo, qc, rfl, hqr, hqc, hqc2, hb⟩
  have HBW := Lib.hid (below_step HAW.out hb)
  have hw12 := hb.size
  have HQR := Lib.hid hqr
  have HB02 := Lib.hid (HB0.out.below hb)
  have HB12 := Lib.hid (HB1.out.below hb)
  have HB22 := Lib.hid (HB2.out.below hb)
  have HB32 := Lib.hid (HB3.out.below hb)
  have HB42 := Lib.hid (HB4.out.below hb)
  have hbo : w.heap.size + 1 + 1 + 1 + 1 < w2.heap.size := HB42.out.lt
  clear hb hqr HB0 HB1 HB2 HB3 HB4 HMO HAW HW1
  go_wp2
  go_loopg [11] m (fun fu v11 wr => ∃ (i : Nat) (ao : Option Addr) (c : Nat), v11 = .int .i64 i ∧ i ≤ m ∧ m - i ≤ fu ∧ Hid (Blk wr (w.heap.size + 1 + 1 + 1 + 1) 54 #[.int .i64 lv, .bool sp, .slice ao i c]) ∧ Hid (OwR wr w2.heap.size (.slice ao i c) (mkRows i N f)) ∧ Hid (Turn w2 wr [w.heap.size + 1 + 1 + 1 + 1]))
  case atStart => exact ⟨0, none, 0, rfl, by omega, by omega, HB42, Lib.hid (OwR.nil _ _), Lib.hid (Turn.refl _ _)⟩
  case round =>
    obtain ⟨i, ao, c, rfl, hi, hfu, HBO, HOR, HT⟩ := hrel
    by_cases hlt : i < m
    case neg =>
      obtain rfl : i = m := by omega
      have hb3 := HB32.out.turn HT.out (by simp)
      obtain ⟨k0, k1, k2⟩ := el_cells hb3
      have f0 := hb3.free 0
      have f1 := hb3.free 1
      have f2 := hb3.free 2
      obtain ⟨e0, e1, e2⟩ := el_cells HBO.out
      have HFI : Hid (∀ W4, Turn wr W4 [w.heap.size + 1 + 1 + 1] → RdRN W4 w.heap.size ao (mkRows i N f) ∧ Below w.heap.size w W4) := Lib.hid (fun W4 hT4 => by
        exact ⟨(HOR.out.turn hT4 (fun x hx => by simp at hx; omega)).rdn.mono (by omega), HBW.out.trans ((HT.out.trans' hT4).belowN HBW.out.size (fun x hx => by simp at hx; omega))⟩)
      obtain ⟨ao', c', e', _, hcl, hcb⟩ := HOR.out.shape
      rw [mkRows_len] at e' hcl
      cases e'
      clear hb3
      go_wp2
      refine bodyPost_ret (v := .agg #[.int .i64 lv, .bool sp, .slice ao i c]) (by simp [results, Tryz.results103, go_sem, k0, k1, k2]) rfl ⟨ao, c, by rw [HE.out]; simp only [mkRows_len], ?_⟩
      have T0 := (((Turn.refl wr [w.heap.size + 1 + 1 + 1]).setCell (p := ⟨w.heap.size + 1 + 1 + 1, 0, none⟩) (.inl (by simp)) (.int .i64 lv)).setCell (p := ⟨w.heap.size + 1 + 1 + 1, 1, none⟩) (.inl (by simp)) (.bool sp)).setCell (p := ⟨w.heap.size + 1 + 1 + 1, 2, none⟩) (.inl (by simp)) (.slice ao i c)
      obtain ⟨r1, r2⟩ := HFI.out _ T0
      rw [HE.out]
      exact ⟨r1, by simp only; rw [mkRows_len]; exact hcl, hcb, r2⟩
    -- a row
    have hb1r := HB12.out.turn HT.out (by simp)
    have hb2r := HB22.out.turn HT.out (by simp)
    have hb0r := HB02.out.turn HT.out (by simp <;> omega)
    have hBwr : Below w.heap.size w wr := HBW.out.trans (HT.out.belowN HBW.out.size (fun x hx => by simp at hx; omega))
    obtain ⟨ba, oa, rfl, hca⟩ := (HRA.out.below hBwr) i (by rw [HMA.out]; exact hlt)
    obtain ⟨ro1, rc1, hr1, hrd1, _⟩ := hca i (by rw [HMA.out]; exact hlt)
    obtain ⟨bb, ob, rfl, hcb⟩ := (HRB.out.below hBwr) i (by rw [HMB.out]; exact hlt)
    obtain ⟨ro2, rc2, hr2, hrd2, _⟩ := hcb i (by rw [HMB.out]; exact hlt)
    obtain ⟨bq, oq, rfl, hcq⟩ := HQR.out i (by rw [HQL.out]; exact hlt)
    have hq1 := HT.out.cell (hcq i (by rw [HQL.out]; exact hlt)) (by
      have hne := elem_no_u32 HB42.out (hcq i (by rw [HQL.out]; exact hlt))
      simpa using hne)
    have hl1 : (A.rows.getD i []).length = N := (HRO.out i hlt).1
    have hl2 : (B.rows.getD i []).length = N := (HRO.out i hlt).2
    rw [hl1] at hr1
    rw [hl2] at hr2
    have hqb := HQB.out i hlt
    have HRI := Lib.hid (fun w => HRES.out i hlt w)
    have HFi : Hid (∀ j, f i j = (A.get i j + B.get i j * resid k (q.getD i 0)) % q.getD i 0) := Lib.hid (HF.out i)
    have HVi : Hid (∀ j, j < N → A.get i j < q.getD i 0 ∧ B.get i j < q.getD i 0) := Lib.hid (fun j hj => HVA.out i j hlt hj)
    obtain ⟨x, hx⟩ : ∃ x, q.getD i 0 = x := ⟨_, rfl⟩
    rw [hx] at hq1 hqb HRI HFi HVi
    have hrx := resid_lt (n := k) hqb.1
    obtain ⟨r, hr⟩ : ∃ r, resid k x = r := ⟨_, rfl⟩
    rw [hr] at hrx HRI HFi
    obtain ⟨e0, e1, e2⟩ := el_cells hb1r
    obtain ⟨g0, g1, g2⟩ := el_cells hb2r
    have c0 : wr.cell? ⟨w.heap.size, 0, none⟩ = some (.int .i64 (N : Int)) := hb0r.cell 0
    have HS : Hid (∀ w', Below wr.heap.size wr w' → w'.cell? ⟨w.heap.size, 0, none⟩ = some (.int .i64 (N : Int)) ∧ w'.cell? ⟨w.heap.size + 1, 2, none⟩ = some (.slice (some ⟨ba, oa, none⟩) m cA) ∧ w'.cell? ⟨w.heap.size + 1 + 1, 2, none⟩ = some (.slice (some ⟨bb, ob, none⟩) m cB) ∧
        w'.cell? ⟨ba, oa + i, none⟩ = some (.slice ro1 N rc1) ∧ w'.cell? ⟨bb, ob + i, none⟩ = some (.slice ro2 N rc2) ∧ w'.cell? ⟨bq, oq + i, none⟩ = some (.int .u32 (x : Int)) ∧ Rd w' ro1 (A.row i) ∧ Rd w' ro2 (B.row i)) := Lib.hid (fun w' hb => by
      have t : ∀ {a : Addr} {v : Value}, wr.cell? a = some v → w'.cell? a = some v := fun {a v} h => (hb.cell (World.block_lt_of_cell? wr _ h)).trans h
      exact ⟨t c0, t e2, t g2, t hr1, t hr2, t hq1, hrd1.below hb, hrd2.below hb⟩)
    have HBwr := Lib.hid hBwr
    have hbo2 : w.heap.size + 1 + 1 + 1 + 1 < wr.heap.size := HBO.out.lt
    clear hb1r hb2r hb0r hca hcb hcq hr1 hr2 hq1 hrd1 hrd2 hl1 hl2 hx hr e0 e1 e2 g0 g1 g2 c0 hBwr
    obtain ⟨wo, rfl⟩ : ∃ wo, wo = wr := ⟨_, rfl⟩
    go_wp2
    go_loopg [12, 13] N (fun fu v12 v13 wr => ∃ (j : Nat) (uo : Option Addr) (uc : Nat), v12 = .slice uo j uc ∧ v13 = .int .i64 j ∧ j ≤ N ∧ N - j ≤ fu ∧ Hid (OwU wr wo.heap.size (.slice uo j uc) ((List.range j).map (f i))) ∧ Hid (Below wo.heap.size wo wr))
    case atStart => exact ⟨0, none, 0, rfl, rfl, by omega, by omega, Lib.hid (OwU.nil _ _), Lib.hid (Below.refl _ _)⟩
    case round =>
      obtain ⟨j, uo, uc, rfl, rfl, hj, hfu2, HU, HB⟩ := hrel
      obtain ⟨s0, s1, s2, s3, s4, s5, hra, hrb⟩ := HS.out wr HB.out
      by_cases hjl : j < N
      case neg =>
        obtain rfl : j = N := by omega
        have hbo3 := HBO.out.below HB.out
        obtain ⟨e0, e1, e2⟩ := el_cells hbo3
        have f2 := hbo3.free 2
        obtain ⟨uo', uc', eu, hurd, huc, hucb, hub⟩ := HU.out.shape
        have hrl : ((List.range j).map (f i)).length = j := by simp
        rw [hrl] at eu huc
        cases eu
        have hal : Below wr.heap.size wr (wr.alloc (.cells #[.slice uo j uc] 23)) := (Below.refl _ wr).alloc (Nat.le_refl _) _
        obtain ⟨v', w4, hrun, hO4, hB4, hT4⟩ := ((HOR.out.below HB.out).below hal).append (by have := HT.out.size; have := HB.out.size; simp; omega) (by rw [mkRows_len]; omega) 52 ⟨wr.heap.size, 0, none⟩ 1 uo uc ((List.range j).map (f i)) (by rw [hrl]; exact (Blk.new wr _ _).cell 0) (hurd.below hal) (by rw [hrl]; exact huc) (fun a ha => by
          have h1 := hub a ha
          obtain ⟨vals, ho1, hg1, _⟩ := HOR.out
          obtain ⟨b', o', e', hc'⟩ := hurd 0 (by rw [hrl]; omega)
          have h2 := World.block_lt_of_cell? wr _ (hc' 0 (by rw [hrl]; omega))
          rw [ha] at e'
          cases e'
          simp only at h1 h2
          refine ⟨fun k => ?_, (HU.out.u32 (by rw [ha])).below hal, by have := HT.out.size; simp only; omega⟩
          have := hg1 _ k
          simp only at this
          omega)
        obtain ⟨ao4, c4', rfl, _, _, _⟩ := hO4.shape
        rw [← mkRows_succ, mkRows_len] at hO4
        have hl4 : (mkRows i j f ++ [(List.range j).map (f i)]).length = i + 1 := by rw [List.length_append, mkRows_len]; rfl
        rw [hl4] at hrun
        have hbk4 : Blk w4 (w.heap.size + 1 + 1 + 1 + 1) 54 #[.int .i64 lv, .bool sp, .slice ao i c] := (hB4.block _ hbo).trans ((hbo3.below hal))
        have HBK4 := Lib.hid hbk4
        have HO4 := Lib.hid hO4
        have HT4 : Hid (Turn w2 w4 [w.heap.size + 1 + 1 + 1 + 1]) := Lib.hid (HT.out.low (((HB.out.mono HT.out.size).trans (hal.mono (Nat.le_trans HT.out.size HB.out.size))).trans hB4) (Nat.le_refl _))
        have f2' := hbk4.free 2
        have e2' : w4.cell? ⟨w.heap.size + 1 + 1 + 1 + 1, 2, none⟩ = some (.slice ao i c) := hbk4.cell 2
        clear hbo3 hurd hub hal hO4 hB4 hT4 hbk4
        go_wp2_with (at_builtin; refine Lib.wpList_append_run _ rfl (.tmp 74) (.tmp 76) 52 52 rfl _ _ rfl rfl _ _ hrun ?_)
        go_roundg (m - (i + 1))
        case measure => omega
        case rel => exact ⟨i + 1, ao4, c4', by go_num, by omega, Nat.le_refl _, Lib.hid (HBK4.out.set 2 _), Lib.hid (HO4.out.turn (S := [w.heap.size + 1 + 1 + 1 + 1]) ((Turn.refl w4 _).setCell (p := ⟨w.heap.size + 1 + 1 + 1 + 1, 2, none⟩) (.inl (by simp)) _) (fun x hx => by simp at hx; omega)), Lib.hid (HT4.out.setCell (p := ⟨w.heap.size + 1 + 1 + 1 + 1, 2, none⟩) (.inl (by simp)) _)⟩
      obtain ⟨b1, o1, rfl, hc1⟩ := hra j (by rw [(HRO.out i hlt).1]; exact hjl)
      have d1 := hc1 j (by rw [(HRO.out i hlt).1]; exact hjl)
      obtain ⟨b2, o2, rfl, hc2⟩ := hrb j (by rw [(HRO.out i hlt).2]; exact hjl)
      have d2 := hc2 j (by rw [(HRO.out i hlt).2]; exact hjl)
      rw [El.get_row] at d1 d2
      have hv := HVi.out j hjl
      have hfj := HFi.out j
      obtain ⟨xa, hxa⟩ : ∃ xa, A.get i j = xa := ⟨_, rfl⟩
      obtain ⟨xb, hxb⟩ : ∃ xb, B.get i j = xb := ⟨_, rfl⟩
      rw [hxa] at d1 hv hfj
      rw [hxb] at d2 hv hfj
      have hzb : xb * r ≤ 2147483647 * 2147483647 := Nat.mul_le_mul (by omega) (by omega)
      obtain ⟨z, hz⟩ : ∃ z, xb * r = z := ⟨_, rfl⟩
      rw [hz] at hzb hfj
      obtain ⟨su, hsu⟩ : ∃ su, xa + z = su := ⟨_, rfl⟩
      rw [hsu] at hfj
      have hsub : su ≤ 2147483647 * 2147483648 := by omega
      obtain ⟨t, ht⟩ : ∃ t, su % x = t := ⟨_, rfl⟩
      have htb : t < x := by rw [← ht]; exact Nat.mod_lt _ (by omega)
      rw [ht] at hfj
      have hzi : (xb : Int) * (r : Int) = (z : Int) := by rw [← hz]; simp
      have hti : (su : Int) % (x : Int) = (t : Int) := by rw [← ht]; simp
      have htm : (su : Int).tmod (x : Int) = (t : Int) := by rw [Int.tmod_eq_emod_of_nonneg (by omega)]; exact hti
      have hsi : (xa : Int) + (z : Int) = (su : Int) := by omega
      have hw7 : IntKind.u64.wrap (x : Int) = (x : Int) := IntWalk.u64_in _ (by omega)
      have hw8 : IntKind.u64.wrap (xa : Int) = (xa : Int) := IntWalk.u64_in _ (by omega)
      have hw9 : IntKind.u64.wrap (xb : Int) = (xb : Int) := IntWalk.u64_in _ (by omega)
      have hw5 : IntKind.u64.wrap (z : Int) = (z : Int) := IntWalk.u64_in _ (by omega)
      have hw6 : IntKind.u64.wrap (su : Int) = (su : Int) := IntWalk.u64_in _ (by omega)
      have hw3 : IntKind.u64.wrap (t : Int) = (t : Int) := IntWalk.u64_in _ (by omega)
      have hw4 : IntKind.u32.wrap (t : Int) = (t : Int) := IntWalk.u32_in _ (by omega)
      have hx0 : ((x : Int) == 0) = false := by simp; omega
      have hxz : ¬ x = 0 := by omega
      have HSK : Hid (∀ w', Below wo.heap.size wo w' → w'.cell? ⟨w.heap.size + 1, 2, none⟩ = some (.slice (some ⟨ba, oa, none⟩) m cA) ∧ w'.cell? ⟨w.heap.size + 1 + 1, 2, none⟩ = some (.slice (some ⟨bb, ob, none⟩) m cB) ∧
          w'.cell? ⟨ba, oa + i, none⟩ = some (.slice (some ⟨b1, o1, none⟩) N rc1) ∧ w'.cell? ⟨bb, ob + i, none⟩ = some (.slice (some ⟨b2, o2, none⟩) N rc2) ∧ w'.cell? ⟨bq, oq + i, none⟩ = some (.int .u32 (x : Int)) ∧ w'.cell? ⟨b1, o1 + j, none⟩ = some (.int .u32 (xa : Int)) ∧ w'.cell? ⟨b2, o2 + j, none⟩ = some (.int .u32 (xb : Int))) := Lib.hid (fun w' hb => by
        obtain ⟨_, t1, t2, t3, t4, t5, t6, t7⟩ := HS.out w' hb
        obtain ⟨_, _, e1, k1⟩ := t6 j (by rw [(HRO.out i hlt).1]; exact hjl)
        cases e1
        obtain ⟨_, _, e2, k2⟩ := t7 j (by rw [(HRO.out i hlt).2]; exact hjl)
        cases e2
        have k1 := k1 j (by rw [(HRO.out i hlt).1]; exact hjl)
        have k2 := k2 j (by rw [(HRO.out i hlt).2]; exact hjl)
        rw [El.get_row] at k1 k2
        rw [hxa] at k1
        rw [hxb] at k2
        exact ⟨t1, t2, t3, t4, t5, k1, k2⟩)
      have hOw : OwU ((wr.alloc (.cells #[.int .u32 (t : Int)] 22)).drew) wo.heap.size (.slice uo j uc) ((List.range j).map (f i)) := World.ownsRow.alloc HU.out _
      obtain ⟨v', w3, hrun, hO3, hB3⟩ := hOw.append (by have := HB.out.size; show _ ≤ (wr.alloc _).heap.size; simp; omega) (by simp; omega) 23 ⟨wr.heap.size, 0, none⟩ 1 t ((Blk.new wr _ _).cell 0)
      obtain ⟨uo3, uc3, rfl, _⟩ := hO3.shape
      have hln : ((List.range j).map (f i) ++ [t]).length = j + 1 := by simp
      rw [hln, ← hfj, ← range_snoc] at hO3
      have HO3 := Lib.hid hO3
      have HB3 : Hid (Below wo.heap.size wo w3) := Lib.hid (((HB.out.alloc HB.out.size _).drew).trans hB3)
      have HB2' : Hid (∀ o, Below wo.heap.size wo (wr.alloc o).drew) := Lib.hid (fun o => (HB.out.alloc HB.out.size _).drew)
      rw [hln] at hrun
      clear hc1 hc2 hOw hO3 hB3 hra hrb
      have i0 : (0 : Int) ≤ (i : Int) := Int.natCast_nonneg _
      have i1 : (i : Int) < (m : Int) := by omega
      have j0 : (0 : Int) ≤ (j : Int) := Int.natCast_nonneg _
      have j1 : (j : Int) < (N : Int) := by omega
      go_wp2
      go_region_held3 (fun w' => w'.cell? ⟨w.heap.size + 1, 2, none⟩ = some (.slice (some ⟨ba, oa, none⟩) m cA) ∧ w'.cell? ⟨w.heap.size + 1 + 1, 2, none⟩ = some (.slice (some ⟨bb, ob, none⟩) m cB) ∧
          w'.cell? ⟨ba, oa + i, none⟩ = some (.slice (some ⟨b1, o1, none⟩) N rc1) ∧ w'.cell? ⟨bb, ob + i, none⟩ = some (.slice (some ⟨b2, o2, none⟩) N rc2) ∧ w'.cell? ⟨bq, oq + i, none⟩ = some (.int .u32 (x : Int)) ∧ w'.cell? ⟨b1, o1 + j, none⟩ = some (.int .u32 (xa : Int)) ∧ w'.cell? ⟨b2, o2 + j, none⟩ = some (.int .u32 (xb : Int)))
        (first | exact HSK.out _ HB.out.drew | exact HSK.out _ (HB2'.out _) | exact HSK.out _ HB3.out)
        (first | (go_at_call 129; refine (HRI.out _).mono ?_; rintro e w' ⟨rfl, rfl⟩) | (refine step_append_run (by rfl) (.tmp 37) (.tmp 71) 23 (by rfl) _ _ (by rfl) (by rfl) _ _ hrun ?_))
      all_goals (
        go_wp2
        go_roundg (N - (j + 1))
        case measure => omega
        case rel => exact ⟨j + 1, uo3, uc3, rfl, by go_num, by omega, Nat.le_refl _, HO3, HB3⟩)
end Go.Proofs.YtcipjbckcnkfaaaGreat

namespace Go.Proofs.YtcipjbckcnkfaaaGreat
open Go.RowKit

/-- Two elements that match. -/
structure Match (p : Par) (A B : El) : Prop where
  a : ElOk p A
  b : ElOk p B
  level : B.level = A.level
  special : B.special = A.special
theorem Good.elIn {p : Par} (hg : Good p) {w : World} {E : El} {ao : Option Addr} {c : Nat} (h : ElOk p E) (hr : RdR w ao E.rows) : ElIn w E ao c :=
  h.elIn hg.n.2 hg.len.2 (fun i => by have := hg.qs_le E.level E.special i; omega) hr

set_option maxHeartbeats 3200000 in
theorem r09two_walk (p : Par) (ca : Option Addr) (cc : Nat) (A B : El) (aa ab : Option Addr) (cA cB : Nat) (w : World) (hin : ParIn w p ca cc) (hg : Good p) (hM : Match p A B) (hra : RdR w aa A.rows) (hrb : RdR w ab B.rows) :
    Calls Tryz.prog 102 #[.agg (p.cells ca cc), A.val aa cA, B.val ab cB] w fun e w' => e = .returned (.bool true) ∧ Below w.heap.size w w' := by
  obtain ⟨W1, hW1⟩ : ∃ W1, ((w.alloc (.cells (p.cells ca cc) 25)).alloc (.cells #[.int .i64 A.level, .bool A.special, .slice aa A.rows.length cA] 54)).alloc (.cells #[.int .i64 B.level, .bool B.special, .slice ab B.rows.length cB] 54) = W1 := ⟨_, rfl⟩
  have hA : Below w.heap.size w W1 := by rw [← hW1]; exact (((Below.refl _ w).alloc (Nat.le_refl _) _).alloc (by simp) _).alloc (by simp; omega) _
  have b0 : Blk W1 w.heap.size 25 (p.cells ca cc) := by rw [← hW1]; exact ((Blk.new _ _ _).alloc _).alloc _
  have b1 : Blk W1 (w.heap.size + 1) 54 #[.int .i64 A.level, .bool A.special, .slice aa A.rows.length cA] := by
    rw [← hW1]
    have := Blk.new (w.alloc (.cells (p.cells ca cc) 25)) 54 #[.int .i64 A.level, .bool A.special, .slice aa A.rows.length cA]
    rw [World.size_alloc] at this
    exact this.alloc _
  have b2 : Blk W1 (w.heap.size + 1 + 1) 54 #[.int .i64 B.level, .bool B.special, .slice ab B.rows.length cB] := by
    rw [← hW1]
    have := Blk.new ((w.alloc (.cells (p.cells ca cc) 25)).alloc (.cells #[.int .i64 A.level, .bool A.special, .slice aa A.rows.length cA] 54)) 54 #[.int .i64 B.level, .bool B.special, .slice ab B.rows.length cB]
    rw [World.size_alloc, World.size_alloc] at this
    exact this
  have h1 := r09Check_walk p ca cc A aa cA W1 (hin.below hA) hg (hg.elIn hM.a (hra.below hA))
  rw [chk_pos hM.a] at h1
  have H1 := Lib.hid h1
  have H2 : Hid (∀ w', Below W1.heap.size W1 w' → Calls Tryz.prog 54 #[.agg (p.cells ca cc), B.val ab cB] w' fun e w2 => e = .returned (.int .i64 0) ∧ Below w'.heap.size w' w2) := Lib.hid (fun w' hb => by
    have h2 := r09Check_walk p ca cc B ab cB w' ((hin.below hA).below hb) hg (hg.elIn hM.b ((hrb.below hA).below hb))
    rw [chk_pos hM.b] at h2
    exact h2)
  have HA := Lib.hid hA
  have HB0 := Lib.hid b0
  have HB1 := Lib.hid b1
  have HB2 := Lib.hid b2
  have hl := hM.level
  have hs := hM.special
  obtain ⟨lv, hlv⟩ : ∃ lv, A.level = lv := ⟨_, rfl⟩
  obtain ⟨sp, hsp⟩ : ∃ sp, A.special = sp := ⟨_, rfl⟩
  unfold El.val Par.cells at *
  rw [hl, hs] at HB2 H2 hW1 ⊢
  rw [hlv] at HB1 HB2 H1 H2 hW1 ⊢
  rw [hsp] at HB1 HB2 H1 H2 hW1 ⊢
  have HW1 := Lib.hid hW1
  clear hin hg hM hra hrb hA b0 b1 b2 h1 hl hs hlv hsp hW1
  go_enter Tryz.func102, Tryz.ntmps102
  go_wp2_with fail
  rw [HW1.out]
  (with_reducible refine Calls.mono H1.out ?_)
  rintro e w2 ⟨rfl, hb⟩
  have HW2 := Lib.hid (below_step HA.out hb)
  have HC2 := Lib.hid (H2.out w2 hb)
  have HB1' := Lib.hid (HB1.out.below hb)
  have HB2' := Lib.hid (HB2.out.below hb)
  obtain ⟨c0, c1, c2, c3, c4, c5, c6⟩ := par_cells (HB0.out.below hb)
  obtain ⟨e0, e1, e2⟩ := el_cells HB2'.out
  clear hb H1 H2 HB0 HB1 HB2 HA
  go_wp2_with fail
  (with_reducible refine Calls.mono HC2.out ?_)
  rintro e w3 ⟨rfl, hb⟩
  have HW3 := Lib.hid (below_step HW2.out hb)
  obtain ⟨d0, d1, d2⟩ := el_cells (HB1'.out.below hb)
  obtain ⟨g0, g1, g2⟩ := el_cells (HB2'.out.below hb)
  clear hb c0 c1 c2 c3 c4 c5 c6 e0 e1 e2
  go_wp2
  go_ret
  exact ⟨rfl, HW3.out⟩

set_option maxHeartbeats 3200000 in
theorem r09Add_walk (p : Par) (ca : Option Addr) (cc : Nat) (A B : El) (aa ab : Option Addr) (cA cB : Nat) (w : World) (hin : ParIn w p ca cc) (hg : Good p) (hM : Match p A B) (hra : RdR w aa A.rows) (hrb : RdR w ab B.rows) :
    Calls Tryz.prog 74 #[.agg (p.cells ca cc), A.val aa cA, B.val ab cB] w fun e w' => ∃ ao c, e = .returned (.tuple #[(sumEl p A B (1)).val ao c, .int .i64 0]) ∧ RdRN w' w.heap.size ao (sumEl p A B (1)).rows ∧ (sumEl p A B (1)).rows.length ≤ c ∧ c ≤ 9223372036854775807 ∧ Below w.heap.size w w' := by
  obtain ⟨W1, hW1⟩ : ∃ W1, (((w.alloc (.cells (p.cells ca cc) 25)).alloc (.cells #[.int .i64 A.level, .bool A.special, .slice aa A.rows.length cA] 54)).alloc (.cells #[.int .i64 B.level, .bool B.special, .slice ab B.rows.length cB] 54)).alloc (.cells #[.int .i64 0, .bool false, .slice none 0 0] 54) = W1 := ⟨_, rfl⟩
  have hA : Below w.heap.size w W1 := by rw [← hW1]; exact ((((Below.refl _ w).alloc (Nat.le_refl _) _).alloc (by simp) _).alloc (by simp; omega) _).alloc (by simp; omega) _
  have b0 : Blk W1 w.heap.size 25 (p.cells ca cc) := by rw [← hW1]; exact (((Blk.new _ _ _).alloc _).alloc _).alloc _
  have b1 : Blk W1 (w.heap.size + 1) 54 #[.int .i64 A.level, .bool A.special, .slice aa A.rows.length cA] := by
    rw [← hW1]
    have := Blk.new (w.alloc (.cells (p.cells ca cc) 25)) 54 #[.int .i64 A.level, .bool A.special, .slice aa A.rows.length cA]
    rw [World.size_alloc] at this
    exact (this.alloc _).alloc _
  have b2 : Blk W1 (w.heap.size + 1 + 1) 54 #[.int .i64 B.level, .bool B.special, .slice ab B.rows.length cB] := by
    rw [← hW1]
    have := Blk.new ((w.alloc (.cells (p.cells ca cc) 25)).alloc (.cells #[.int .i64 A.level, .bool A.special, .slice aa A.rows.length cA] 54)) 54 #[.int .i64 B.level, .bool B.special, .slice ab B.rows.length cB]
    rw [World.size_alloc, World.size_alloc] at this
    exact this.alloc _
  have b3 : Blk W1 (w.heap.size + 1 + 1 + 1) 54 #[.int .i64 0, .bool false, .slice none 0 0] := by
    rw [← hW1]
    have := Blk.new (((w.alloc (.cells (p.cells ca cc) 25)).alloc (.cells #[.int .i64 A.level, .bool A.special, .slice aa A.rows.length cA] 54)).alloc (.cells #[.int .i64 B.level, .bool B.special, .slice ab B.rows.length cB] 54)) 54 #[.int .i64 0, .bool false, .slice none 0 0]
    rw [World.size_alloc, World.size_alloc, World.size_alloc] at this
    exact this
  have HT := Lib.hid (r09two_walk p ca cc A B aa ab cA cB W1 (hin.below hA) hg hM (hra.below hA) (hrb.below hA))
  have HS : Hid (∀ w', Below W1.heap.size W1 w' → _) := Lib.hid (fun w' hb => r09sum_walk p ca cc A B aa ab cA cB (1) w' ((hin.below hA).below hb) hg hM.a hM.b hM.level hM.special ((hra.below hA).below hb) ((hrb.below hA).below hb) (by omega) (by omega))
  have HA := Lib.hid hA
  have HB0 := Lib.hid b0
  have HB1 := Lib.hid b1
  have HB2 := Lib.hid b2
  have HB3 := Lib.hid b3
  have hSl : (sumEl p A B (1)).level = A.level := rfl
  have hSs : (sumEl p A B (1)).special = A.special := rfl
  obtain ⟨E, hE⟩ : ∃ E, sumEl p A B (1) = E := ⟨_, rfl⟩
  rw [hE] at HS hSl hSs ⊢
  obtain ⟨m, hm⟩ : ∃ m, E.rows.length = m := ⟨_, rfl⟩
  have hl := hM.level
  have hs := hM.special
  have hma : (W1.heap.size : Nat) > w.heap.size + 1 + 1 + 1 := b3.lt
  obtain ⟨lv, hlv⟩ : ∃ lv, A.level = lv := ⟨_, rfl⟩
  obtain ⟨sp, hsp⟩ : ∃ sp, A.special = sp := ⟨_, rfl⟩
  unfold El.val Par.cells at *
  rw [hSl, hSs, hm] at HS ⊢
  rw [hl, hs] at HB2 HT HS hW1 ⊢
  rw [hlv] at HB1 HB2 HT HS hW1 ⊢
  rw [hsp] at HB1 HB2 HT HS hW1 ⊢
  have HW1 := Lib.hid hW1
  clear hin hg hM hra hrb hA b0 b1 b2 b3 hl hs hlv hsp hW1 hSl hSs hE hm
  go_enter Tryz.func74, Tryz.ntmps74
  go_wp2_with fail
  rw [HW1.out]
  (with_reducible refine Calls.mono HT.out ?_)
  rintro e w2 ⟨rfl, hb⟩
  have hw2 := hb.size
  have HW2 := Lib.hid (below_step HA.out hb)
  have HC2 := Lib.hid (HS.out w2 hb)
  have HB3' := Lib.hid (HB3.out.below hb)
  obtain ⟨c0, c1, c2, c3, c4, c5, c6⟩ := par_cells (HB0.out.below hb)
  obtain ⟨d0, d1, d2⟩ := el_cells (HB1.out.below hb)
  obtain ⟨e0, e1, e2⟩ := el_cells (HB2.out.below hb)
  clear hb HT HS HB0 HB1 HB2 HB3 HA
  go_wp2_with fail
  (with_reducible refine Calls.mono HC2.out ?_)
  rintro e w3 ⟨ao, c, rfl, hrn, hlc, hcm, hb⟩
  have hb3 := HB3'.out.below hb
  obtain ⟨k0, k1, k2⟩ := el_cells hb3
  have f0 := hb3.free 0
  have f1 := hb3.free 1
  have f2 := hb3.free 2
  have HF : Hid (∀ W4, Turn w3 W4 [w.heap.size + 1 + 1 + 1] → RdRN W4 w.heap.size ao E.rows ∧ m ≤ c ∧ c ≤ 9223372036854775807 ∧ Below w.heap.size w W4) := Lib.hid (fun W4 hT => ⟨(hrn.turn hT (fun x hx => by simp at hx; omega)).mono (by omega), hlc, hcm, (below_step HW2.out hb).trans (hT.belowN (below_step HW2.out hb).size (fun x hx => by simp at hx; omega))⟩)
  clear hb hb3 hrn c0 c1 c2 c3 c4 c5 c6 d0 d1 d2 e0 e1 e2 HC2
  go_wp2
  refine bodyPost_ret (v := .tuple #[.agg #[.int .i64 lv, .bool sp, .slice ao m c], .int .i64 0]) (by simp [results, Tryz.results74, go_sem, k0, k1, k2]) rfl ⟨ao, c, rfl, ?_⟩
  exact HF.out _ ((((Turn.refl w3 [w.heap.size + 1 + 1 + 1]).setCell (p := ⟨w.heap.size + 1 + 1 + 1, 0, none⟩) (.inl (by simp)) (.int .i64 lv)).setCell (p := ⟨w.heap.size + 1 + 1 + 1, 1, none⟩) (.inl (by simp)) (.bool sp)).setCell (p := ⟨w.heap.size + 1 + 1 + 1, 2, none⟩) (.inl (by simp)) (.slice ao m c))

set_option maxHeartbeats 3200000 in
theorem r09Sub_walk (p : Par) (ca : Option Addr) (cc : Nat) (A B : El) (aa ab : Option Addr) (cA cB : Nat) (w : World) (hin : ParIn w p ca cc) (hg : Good p) (hM : Match p A B) (hra : RdR w aa A.rows) (hrb : RdR w ab B.rows) :
    Calls Tryz.prog 81 #[.agg (p.cells ca cc), A.val aa cA, B.val ab cB] w fun e w' => ∃ ao c, e = .returned (.tuple #[(sumEl p A B (-1)).val ao c, .int .i64 0]) ∧ RdRN w' w.heap.size ao (sumEl p A B (-1)).rows ∧ (sumEl p A B (-1)).rows.length ≤ c ∧ c ≤ 9223372036854775807 ∧ Below w.heap.size w w' := by
  obtain ⟨W1, hW1⟩ : ∃ W1, (((w.alloc (.cells (p.cells ca cc) 25)).alloc (.cells #[.int .i64 A.level, .bool A.special, .slice aa A.rows.length cA] 54)).alloc (.cells #[.int .i64 B.level, .bool B.special, .slice ab B.rows.length cB] 54)).alloc (.cells #[.int .i64 0, .bool false, .slice none 0 0] 54) = W1 := ⟨_, rfl⟩
  have hA : Below w.heap.size w W1 := by rw [← hW1]; exact ((((Below.refl _ w).alloc (Nat.le_refl _) _).alloc (by simp) _).alloc (by simp; omega) _).alloc (by simp; omega) _
  have b0 : Blk W1 w.heap.size 25 (p.cells ca cc) := by rw [← hW1]; exact (((Blk.new _ _ _).alloc _).alloc _).alloc _
  have b1 : Blk W1 (w.heap.size + 1) 54 #[.int .i64 A.level, .bool A.special, .slice aa A.rows.length cA] := by
    rw [← hW1]
    have := Blk.new (w.alloc (.cells (p.cells ca cc) 25)) 54 #[.int .i64 A.level, .bool A.special, .slice aa A.rows.length cA]
    rw [World.size_alloc] at this
    exact (this.alloc _).alloc _
  have b2 : Blk W1 (w.heap.size + 1 + 1) 54 #[.int .i64 B.level, .bool B.special, .slice ab B.rows.length cB] := by
    rw [← hW1]
    have := Blk.new ((w.alloc (.cells (p.cells ca cc) 25)).alloc (.cells #[.int .i64 A.level, .bool A.special, .slice aa A.rows.length cA] 54)) 54 #[.int .i64 B.level, .bool B.special, .slice ab B.rows.length cB]
    rw [World.size_alloc, World.size_alloc] at this
    exact this.alloc _
  have b3 : Blk W1 (w.heap.size + 1 + 1 + 1) 54 #[.int .i64 0, .bool false, .slice none 0 0] := by
    rw [← hW1]
    have := Blk.new (((w.alloc (.cells (p.cells ca cc) 25)).alloc (.cells #[.int .i64 A.level, .bool A.special, .slice aa A.rows.length cA] 54)).alloc (.cells #[.int .i64 B.level, .bool B.special, .slice ab B.rows.length cB] 54)) 54 #[.int .i64 0, .bool false, .slice none 0 0]
    rw [World.size_alloc, World.size_alloc, World.size_alloc] at this
    exact this
  have HT := Lib.hid (r09two_walk p ca cc A B aa ab cA cB W1 (hin.below hA) hg hM (hra.below hA) (hrb.below hA))
  have HS : Hid (∀ w', Below W1.heap.size W1 w' → _) := Lib.hid (fun w' hb => r09sum_walk p ca cc A B aa ab cA cB (-1) w' ((hin.below hA).below hb) hg hM.a hM.b hM.level hM.special ((hra.below hA).below hb) ((hrb.below hA).below hb) (by omega) (by omega))
  have HA := Lib.hid hA
  have HB0 := Lib.hid b0
  have HB1 := Lib.hid b1
  have HB2 := Lib.hid b2
  have HB3 := Lib.hid b3
  have hSl : (sumEl p A B (-1)).level = A.level := rfl
  have hSs : (sumEl p A B (-1)).special = A.special := rfl
  obtain ⟨E, hE⟩ : ∃ E, sumEl p A B (-1) = E := ⟨_, rfl⟩
  rw [hE] at HS hSl hSs ⊢
  obtain ⟨m, hm⟩ : ∃ m, E.rows.length = m := ⟨_, rfl⟩
  have hl := hM.level
  have hs := hM.special
  have hma : (W1.heap.size : Nat) > w.heap.size + 1 + 1 + 1 := b3.lt
  obtain ⟨lv, hlv⟩ : ∃ lv, A.level = lv := ⟨_, rfl⟩
  obtain ⟨sp, hsp⟩ : ∃ sp, A.special = sp := ⟨_, rfl⟩
  unfold El.val Par.cells at *
  rw [hSl, hSs, hm] at HS ⊢
  rw [hl, hs] at HB2 HT HS hW1 ⊢
  rw [hlv] at HB1 HB2 HT HS hW1 ⊢
  rw [hsp] at HB1 HB2 HT HS hW1 ⊢
  have HW1 := Lib.hid hW1
  clear hin hg hM hra hrb hA b0 b1 b2 b3 hl hs hlv hsp hW1 hSl hSs hE hm
  go_enter Tryz.func81, Tryz.ntmps81
  go_wp2_with fail
  rw [HW1.out]
  (with_reducible refine Calls.mono HT.out ?_)
  rintro e w2 ⟨rfl, hb⟩
  have hw2 := hb.size
  have HW2 := Lib.hid (below_step HA.out hb)
  have HC2 := Lib.hid (HS.out w2 hb)
  have HB3' := Lib.hid (HB3.out.below hb)
  obtain ⟨c0, c1, c2, c3, c4, c5, c6⟩ := par_cells (HB0.out.below hb)
  obtain ⟨d0, d1, d2⟩ := el_cells (HB1.out.below hb)
  obtain ⟨e0, e1, e2⟩ := el_cells (HB2.out.below hb)
  clear hb HT HS HB0 HB1 HB2 HB3 HA
  go_wp2_with fail
  (with_reducible refine Calls.mono HC2.out ?_)
  rintro e w3 ⟨ao, c, rfl, hrn, hlc, hcm, hb⟩
  have hb3 := HB3'.out.below hb
  obtain ⟨k0, k1, k2⟩ := el_cells hb3
  have f0 := hb3.free 0
  have f1 := hb3.free 1
  have f2 := hb3.free 2
  have HF : Hid (∀ W4, Turn w3 W4 [w.heap.size + 1 + 1 + 1] → RdRN W4 w.heap.size ao E.rows ∧ m ≤ c ∧ c ≤ 9223372036854775807 ∧ Below w.heap.size w W4) := Lib.hid (fun W4 hT => ⟨(hrn.turn hT (fun x hx => by simp at hx; omega)).mono (by omega), hlc, hcm, (below_step HW2.out hb).trans (hT.belowN (below_step HW2.out hb).size (fun x hx => by simp at hx; omega))⟩)
  clear hb hb3 hrn c0 c1 c2 c3 c4 c5 c6 d0 d1 d2 e0 e1 e2 HC2
  go_wp2
  refine bodyPost_ret (v := .tuple #[.agg #[.int .i64 lv, .bool sp, .slice ao m c], .int .i64 0]) (by simp [results, Tryz.results81, go_sem, k0, k1, k2]) rfl ⟨ao, c, rfl, ?_⟩
  exact HF.out _ ((((Turn.refl w3 [w.heap.size + 1 + 1 + 1]).setCell (p := ⟨w.heap.size + 1 + 1 + 1, 0, none⟩) (.inl (by simp)) (.int .i64 lv)).setCell (p := ⟨w.heap.size + 1 + 1 + 1, 1, none⟩) (.inl (by simp)) (.bool sp)).setCell (p := ⟨w.heap.size + 1 + 1 + 1, 2, none⟩) (.inl (by simp)) (.slice ao m c))
end Go.Proofs.YtcipjbckcnkfaaaGreat
