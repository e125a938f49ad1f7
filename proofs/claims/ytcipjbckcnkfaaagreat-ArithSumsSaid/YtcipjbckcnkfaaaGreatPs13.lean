/- The program's test of an element: the loop over its rows. -/
import Derived.Test.YtcipjbckcnkfaaaGreatPs12
set_option linter.unusedSimpArgs false
set_option linter.unusedVariables false
namespace Go.Proofs.YtcipjbckcnkfaaaGreat
open Go.RowKit Go.Shelf
attribute [local go_sem] Oper.semAt_some

/-- Row j of an element is right. -/
def RowOk (p : Par) (E : El) (j : Nat) : Prop := ((E.row j).length : Int) = p.n ∧ ∀ t, t < (E.row j).length → E.get j t < (p.qs E.level E.special).getD j 0
theorem turn_grown {W0 W W' : World} {S : List Nat} {row : Option Nat} (h3 : Turn W0 W S) (hg : W.grownBy W' row) (hr : ∀ r, row = some r → W0.heap.size ≤ r) : Turn W0 W' S :=
  ⟨hg.os.trans h3.os, hg.tape.trans h3.tape, hg.output.trans h3.output, Nat.le_trans h3.size hg.size, fun i hi hn => (hg.block i (Nat.lt_of_lt_of_le hi h3.size) (fun e => by have := hr i e.symm; omega)).trans (h3.block i hi hn)⟩
theorem rowOk_of {p : Par} {E : El} {y r q : Nat} (hr : (E.row y).length = r) (hrn : (r : Int) = p.n) (ho : ((E.row y).any fun x => decide (q ≤ x)) = false) (hq : q = (p.qs E.level E.special).getD y 0) : RowOk p E y :=
  ⟨by rw [hr]; exact hrn, fun t ht => by
    rw [← hq]
    have h := List.any_eq_false.1 ho ((E.row y).getD t 0) (by rw [List.getD_eq_getElem?_getD, List.getElem?_eq_getElem ht, Option.getD_some]; exact List.getElem_mem ht)
    have h2 : ¬ q ≤ (E.row y).getD t 0 := fun k => h (decide_eq_true k)
    show (E.row y).getD t 0 < q
    omega⟩
theorem rowOver_of {p : Par} {E : El} {y q : Nat} (ho : ((E.row y).any fun x => decide (q ≤ x)) = true) (hq : q = (p.qs E.level E.special).getD y 0) (h : RowOk p E y) : False := by
  obtain ⟨x, hx, hk⟩ := List.any_eq_true.1 ho
  obtain ⟨t, ht, rfl⟩ := List.getElem_of_mem hx
  have := h.2 t ht
  have e : E.get y t = (E.row y)[t] := by
    show (E.row y).getD t 0 = _
    rw [List.getD_eq_getElem?_getD, List.getElem?_eq_getElem ht, Option.getD_some]
  rw [e, ← hq] at this
  have := of_decide_eq_true hk
  omega
/-- What holds between two rounds: all rows that came are right. -/
def ChkI (W0 : World) (p : Par) (E : El) {M : Nat} (pre : List (Fin M)) (W : World) : Prop := Turn W0 W [] ∧ ∀ y, y ∈ pre → RowOk p E y.val
theorem ChkI.own (W0 : World) (p : Par) (E : El) {M : Nat} : OwnFrom W0.heap.size (ChkI W0 p E (M := M)) := by
  rintro pre W W' row ⟨h1, h2⟩ hg hr
  exact ⟨turn_grown h1 hg (fun r e => (hr r e).1), h2⟩
/-- What holds where a row was wrong. -/
def ChkX (W0 : World) (x : Nat) (p : Par) (E : El) {M : Nat} (c : Code) (_ : List (Fin M)) (W : World) : Prop := c = .ret ∧ Turn W0 W [x] ∧ Blk W x 32 #[.int .i64 2] ∧ ¬ ElOk p E
theorem ChkX.own (W0 : World) (x : Nat) (p : Par) (E : El) {M : Nat} (c : Code) : OwnFrom W0.heap.size (ChkX W0 x p E (M := M) c) := by
  rintro pre W W' row ⟨h0, h1, h2, h3⟩ hg hr
  exact ⟨h0, turn_grown h1 hg (fun r e => (hr r e).1), grown_cells hg (fun r e => (hr r e).2) x _ h2 rfl, h3⟩

set_option maxHeartbeats 6400000 in
set_option maxRecDepth 100000 in
theorem rgCheck_loop (p : Par) (ca : Option Addr) (cc : Nat) (E : El) (ao : Option Addr) (c : Nat) (w : World) (hin : ParIn w p ca cc) (hg : Good p) (he : ElIn w E ao c) (hpl : PlaceOk p E.level E.special) (hlen : E.rows.length = (p.qs E.level E.special).length) :
    Calls Tryz.prog 90 #[.agg (p.cells ca cc), E.val ao c] w fun e w' => e = .returned (.int .i64 (chk (ElOk p E))) ∧ Below w.heap.size w w' := by
  refine (callsIn_wide (n := 6)).1 ?_
  refine callsIn_of_wp_marks Tryz.func90 rfl trivial ?_ rfl
  simp only [Tryz.ntmps90, List.size_toArray, List.length_cons, List.length_nil, Nat.reduceAdd, Nat.reduceSub, Array.replicate_succ, Array.replicate_zero, List.push_toArray, List.append_toArray, List.nil_append, List.cons_append]
  obtain ⟨W1, hW1⟩ : ∃ W1, ((w.alloc (.cells (p.cells ca cc) 25)).alloc (.cells #[.int .i64 E.level, .bool E.special, .slice ao E.rows.length c] 54)).alloc (.cells #[.int .i64 0] 32) = W1 := ⟨_, rfl⟩
  have hA : Below w.heap.size w W1 := by rw [← hW1]; exact (((Below.refl _ w).alloc (Nat.le_refl _) _).alloc (by simp) _).alloc (by simp; omega) _
  have hs1 : W1.heap.size = w.heap.size + 3 := by rw [← hW1]; simp
  have hBp : Blk W1 w.heap.size 25 (p.cells ca cc) := by rw [← hW1]; exact ((Blk.new _ _ _).alloc _).alloc _
  have hBe : Blk W1 (w.heap.size + 1) 54 #[.int .i64 E.level, .bool E.special, .slice ao E.rows.length c] := by
    rw [← hW1]
    have := Blk.new (w.alloc (.cells (p.cells ca cc) 25)) 54 #[.int .i64 E.level, .bool E.special, .slice ao E.rows.length c]
    rw [World.size_alloc] at this
    exact this.alloc _
  have hBr : Blk W1 (w.heap.size + 1 + 1) 32 #[.int .i64 0] := by
    rw [← hW1]
    have := Blk.new ((w.alloc (.cells (p.cells ca cc) 25)).alloc (.cells #[.int .i64 E.level, .bool E.special, .slice ao E.rows.length c] 54)) 32 #[.int .i64 0]
    rw [World.size_alloc, World.size_alloc] at this
    exact this
  have HV := Lib.hid (rgvalid_walk w.heap.size p ca cc W1 hBp (hin.below hA) hg)
  have HPL := Lib.hid (fun wr (h : Blk wr w.heap.size 25 (p.cells ca cc)) => rgplace_walk w.heap.size p ca cc E.level E.special wr h hg)
  have hbw0 : ∀ b off, ca = some ⟨b, off, none⟩ → b < w.heap.size := fun b off e => by
    obtain ⟨b', o', e', hc'⟩ := hin.rd 0 (by have := (hg.len).1; omega)
    rw [e] at e'
    cases e'
    exact World.block_lt_of_cell? w _ (hc' 0 (by have := (hg.len).1; omega))
  have HB00 := Lib.hid hbw0
  have hl1 := he.l1
  have hl2 := he.l2
  have hm := he.len
  have HRW := Lib.hid he.rows
  have HE := Lib.hid (he.below hA)
  have HIN := Lib.hid (hin.below hA)
  have HA := Lib.hid hA
  have HBP := Lib.hid hBp
  have HBE := Lib.hid hBe
  have HBR := Lib.hid hBr
  have hn := Good.n hg
  have hGP := Lib.hid hg
  have HLEN := Lib.hid hlen
  clear hlen
  clear hin he hg hA hBp hBe hBr hbw0
  gi_wp2_with fail
  refine ⟨trivial, ?_⟩
  refine (callsIn_wide.2 HV.out).mono ?_
  rintro e w2 ⟨rfl, hT2⟩
  have HT2 := Lib.hid hT2
  have HA2 : Hid (Below w.heap.size w w2) := Lib.hid (HA.out.trans (hT2.below.mono (by omega)))
  have hs2 : w.heap.size + 3 ≤ w2.heap.size := by have := hT2.size; omega
  have HBP2 := Lib.hid (HBP.out.turn hT2 (by simp))
  have HBE2 := Lib.hid (HBE.out.turn hT2 (by simp))
  have HBR2 := Lib.hid (HBR.out.turn hT2 (by simp))
  obtain ⟨e0, e1, e2⟩ := el_cells HBE2.out
  have hpw := HPL.out w2 HBP2.out
  have HPW := Lib.hid hpw
  have r0 := HBR2.out.cell 0
  have r0f := HBR2.out.free 0
  clear hpw hT2 HV HPL HBP HBE HBR hW1
  rw [tr_pos hpl] at HPW
  gi_wp2_with fail
  refine ⟨trivial, ?_⟩
  refine (callsIn_wide.2 HPW.out).mono ?_
  rintro e w' ⟨rfl, rfl⟩
  obtain ⟨lv, hlv⟩ := Int.eq_ofNat_of_zero_le (show 0 ≤ E.level by have := hpl.1; omega)
  obtain ⟨sp, hsp⟩ : ∃ sp, E.special = sp := ⟨_, rfl⟩
  obtain ⟨m, hmm⟩ : ∃ m, E.rows.length = m := ⟨_, rfl⟩
  obtain ⟨M, hM⟩ : ∃ M, (p.qs E.level E.special).length = M := ⟨_, rfl⟩
  have HLV := Lib.hid hlv
  have HSP := Lib.hid hsp
  have HMM := Lib.hid hmm
  have HM := Lib.hid hM
  rw [hlv] at e0
  rw [hsp] at e1
  rw [hmm] at e2 hm
  have hlvb : lv ≤ 24 := by have := hpl.2.1; have := (hGP.out.len).2; omega
  have hM2 : M = if sp then lv + 1 else lv := by
    rw [← hM, hlv, hsp]
    unfold Par.qs
    rw [List.length_append, List.length_take, Int.toNat_natCast, Nat.min_eq_left (by have := hpl.2.1; omega)]
    cases sp <;> simp
  have hw1 : IntKind.i64.wrap ((lv : Int) + 1) = (lv : Int) + 1 := IntWalk.i64_in _ (by omega)
  clear hlv hsp hmm hM
  have hmk : m = M := by rw [← HMM.out, ← HM.out]; exact HLEN.out
  subst hmk
  have hch := (hGP.out.len).1
  have hroom := HIN.out.room
  have hroom2 := HIN.out.room2
  have hlv1 : 1 ≤ lv := by have := hpl.1; have := HLV.out; omega
  have hlv2 : lv ≤ p.chain.length := by have := hpl.2.1; have := HLV.out; omega
  obtain ⟨b, off, rfl, hbc⟩ := (HIN.out.rd.turn HT2.out) 0 (by omega)
  have hbw : b < w2.heap.size := World.block_lt_of_cell? w2 _ (hbc 0 (by omega))
  obtain ⟨qf, hqf⟩ : ∃ qf : Nat → Nat, (fun j => (p.qs E.level E.special).getD j 0) = qf := ⟨_, rfl⟩
  have HQF : Hid (∀ j, qf j = (p.qs E.level E.special).getD j 0) := Lib.hid (fun j => by rw [← hqf])
  have hq : ∀ j, j < lv → qf j = p.chain.getD j 0 := fun j hj => by
    rw [HQF.out, HLV.out]
    unfold Par.qs
    rw [Int.toNat_natCast, List.getD_eq_getElem?_getD, List.getElem?_append_left (by rw [List.length_take]; omega), ← List.getD_eq_getElem?_getD]
    simp [List.getD_eq_getElem?_getD, hj]
  have hq2 : sp = true → qf lv = p.special := fun h => by
    rw [HQF.out, HLV.out, HSP.out, h]
    unfold Par.qs
    rw [Int.toNat_natCast, List.getD_eq_getElem?_getD, List.getElem?_append_right (by rw [List.length_take]; omega), List.length_take, Nat.min_eq_left hlv2]
    simp
  have hM0 : sp = false → m = lv := fun h => by rw [hM2, h]; rfl
  have hM1 : sp = true → m = lv + 1 := fun h => by rw [hM2, h]; rfl
  have hNp : 0 < m := by rw [hM2]; split <;> omega
  obtain ⟨W0, hW0⟩ : ∃ W0, ((w2.alloc (.cells #[.pointer (some ⟨w.heap.size, 0, none⟩)] 84)).alloc (.cells #[.int .i64 lv] 3)).alloc (.cells #[.bool sp] 4) = W0 := ⟨_, rfl⟩
  have hB0 : Below w2.heap.size w2 W0 := by rw [← hW0]; exact (((Below.refl _ w2).alloc (Nat.le_refl _) _).alloc (by simp) _).alloc (by simp; omega) _
  have hs0 : W0.heap.size = w2.heap.size + 3 := by rw [← hW0]; simp
  have k4 : Blk W0 w2.heap.size 84 #[.pointer (some ⟨w.heap.size, 0, none⟩)] := by rw [← hW0]; exact ((Blk.new _ _ _).alloc _).alloc _
  have k5 : Blk W0 (w2.heap.size + 1) 3 #[.int .i64 lv] := by
    rw [← hW0]
    have := Blk.new (w2.alloc (.cells #[.pointer (some ⟨w.heap.size, 0, none⟩)] 84)) 3 #[.int .i64 lv]
    rw [World.size_alloc] at this
    exact this.alloc _
  have k6 : Blk W0 (w2.heap.size + 1 + 1) 4 #[.bool sp] := by
    rw [← hW0]
    have := Blk.new ((w2.alloc (.cells #[.pointer (some ⟨w.heap.size, 0, none⟩)] 84)).alloc (.cells #[.int .i64 lv] 3)) 4 #[.bool sp]
    rw [World.size_alloc, World.size_alloc] at this
    exact this
  have g1 : sp = false → ((m : Int) != (lv : Int)) = false := fun h => by rw [hM0 h]; simp
  have g2 : sp = true → ((m : Int) != (lv : Int) + 1) = false := fun h => by rw [hM1 h]; simp
  have hcq : ∀ j, j < lv → W0.cell? ⟨b, off + j, none⟩ = some (.int .u32 ((qf j : Nat) : Int)) := fun j hj => by
    rw [hq j hj, ← hbc j (by omega)]
    exact hB0.cell hbw
  have HBP0 := Lib.hid (HBP2.out.below hB0)
  have HBE0 := Lib.hid (HBE2.out.below hB0)
  have HBR0 := Lib.hid (HBR2.out.below hB0)
  have HM0 := Lib.hid hM0
  have HM1 := Lib.hid hM1
  have HQ2 := Lib.hid hq2
  clear hqf hM2 hM0 hM1 hq2
  cases sp
  all_goals (
    first | have g3 := g1 rfl | have g3 := g2 rfl
    gi_wp2_with (refine ⟨trivial, ?_⟩; refine (moduli_in Fence.wide 5 trivial rfl _ _ _ _).mono ?_; rintro e w' ⟨rfl, rfl⟩)
    try rw [hW0]
    refine ownH_fill (n := 6) (fun t (y : Fin m) qb => (((t.setIfInBounds 34 (.int .i64 (y.val : Int))).setIfInBounds 35 (.int .u32 (qf y.val : Int))).setIfInBounds 6 (.int .i64 (y.val : Int))).setIfInBounds 7 (.pointer (some ⟨qb, 0, none⟩))) 22 (fun y => .int .u32 (qf y.val : Int)) rfl (by omega) (gf := 128) (lb := #[.pointer (some ⟨w2.heap.size, 0, none⟩), .pointer (some ⟨w2.heap.size + 1, 0, none⟩), .pointer (some ⟨w2.heap.size + 1 + 1, 0, none⟩)]) rfl trivial (enters_of Tryz.func128 (by kernel_rfl) rfl)
      (moduli_stops Fence.wide (6 - 1) trivial rfl (by omega) W0.heap.size (w.heap.size + 1 + 1) w2.heap.size (w2.heap.size + 1) (w2.heap.size + 1 + 1) w.heap.size b off lv p.chain.length cc _ qf p.special hlv2 hroom hroom2 (fun h => by first | exact HQ2.out h | exact HQ2.out trivial | cases h) m (fun h => by first | exact HM0.out h | exact HM0.out trivial | cases h) (fun h => by first | exact HM1.out h | exact HM1.out trivial | cases h) hNp (by omega) (by omega) (by omega) (by omega) (by omega) (by omega) (by omega) (by omega) (by omega) (by have := HB00.out b off rfl; omega) W0 (k4.cell 0) (k5.cell 0) (k6.cell 0) (HBP0.out.cell 3) (HBP0.out.cell 4) hcq)
      KpX.t (KpX.b (Nat.le_refl _)) (Below.refl _ _) (fun _ => rfl)
      (ChkI W0 p E) (ChkX W0 (w.heap.size + 1 + 1) p E) (ChkI.own _ _ _) (fun c => ChkX.own _ _ _ _ _) ⟨Turn.refl _ _, fun y hy => absurd hy (List.not_mem_nil)⟩ ?_ ?_ ?_ ?_
    · rintro l pre x W K ⟨hT, hR⟩ hK
      gi_wp2
      exact hK _ _ ((KeepsOthers.alloc _ _).from _) ⟨by simp, fun k hk _ => ((Below.refl W0.heap.size W).alloc hT.size _).block k hk⟩ ⟨hT.low ((Below.refl W0.heap.size W).alloc hT.size _) (Nat.le_refl _), hR⟩ ⟨W.heap.size, hT.size, Blk.new _ _ _, rfl⟩
    · rintro l pre y qb W hl ⟨hT, hR⟩ hqb hQ hlen
      have hTW : Below W1.heap.size W1 W := below_step (below_step HT2.out.below hB0) hT.below
      obtain ⟨rb, roff, ro, rc, rfl, hcell, hrow, _⟩ := El.rdrow (HE.out.below hTW) (i := y.val) (by rw [HMM.out]; exact y.isLt)
      obtain ⟨f0, f1, f2⟩ := el_cells (HBE0.out.turn hT (by simp))
      obtain ⟨c0, c1, c2, c3, c4, c5, c6⟩ := par_cells (HBP0.out.turn hT (by simp))
      rw [HMM.out] at f2
      obtain ⟨r, hr⟩ : ∃ r, (E.row y.val).length = r := ⟨_, rfl⟩
      rw [hr] at hcell
      have HR0 := Lib.hid hr
      have HTl := Lib.hid hT
      have HRr := Lib.hid hR
      have hxlt : w.heap.size + 1 + 1 < W0.heap.size := by omega
      have HQC := Lib.hid hQ
      have hov := fun W' (h1 : Below W.heap.size W W') => rowOver_walk qb (qf y.val) ro rc (E.row y.val) W' (hrow.below h1)
      rw [hr] at hov
      have HOV := Lib.hid hov
      have hb2 := (HBR0.out.turn hT (by simp))
      have f2x : ∀ k, (W.drewN k).frozen? ⟨w.heap.size + 1 + 1, 0, none⟩ = false := fun k => (hb2.drewN k).free 0
      have e2x : ∀ k, (W.drewN k).cell? ⟨w.heap.size + 1 + 1, 0, none⟩ = some (.int .i64 0) := fun k => (hb2.drewN k).cell 0
      have HBR1 := Lib.hid hb2
      have hy0 : (0 : Int) ≤ (y.val : Int) := Int.natCast_nonneg _
      have hy1 : (y.val : Int) < (m : Int) := by have := y.isLt; omega
      have HQY := Lib.hid (HQF.out y.val)
      clear hov hb2 hr hT hR hrow hQ hTW c1 c2 c3 c4 c5 c6 f0 f1 k4 k5 k6 hcq hq hbc
      by_cases hrn : (r : Int) = p.n
      · have g : ((r : Int) != p.n) = false := by simp; exact hrn
        have g' : ((r : Int) == p.n) = true := by simp; exact hrn
        have hrr : r ≤ 32 := by omega
        obtain ⟨ov, hov⟩ : ∃ ov, ((E.row y.val).any fun x => decide (qf y.val ≤ x)) = ov := ⟨_, rfl⟩
        rw [hov] at HOV
        have HO := Lib.hid hov
        clear hov
        gi_wp2
        refine wpIn_region_quietR (by kernel_rfl) (by kernel_rfl) (by kernel_rfl) ?_
        repeat (gi_big_quiet_step (fail))
        refine BigFrame.wpQuietIn_want (fun _ _ _ _ => trivial) rfl ?_
        intro K hK
        gi_big_quiet_op
        gi_big_quiet_call (exact CallsIn.quiet_of_same (CallsIn.inRound l (callsIn_wide.2 ((HOV.out _ (((Turn.refl W []).drewN _).below) (by omega) ((HQC.out.below ((Turn.refl W []).drewN _).below).cell 0)).mono fun e w' ⟨h1, h2⟩ => ⟨h1, h2.symm⟩))))
        repeat (gi_big_quiet_step (fail))
        refine wpQuietIn_nil ?_
        intro _ hw'
        obtain ⟨nq, hw''⟩ := hw'
        subst hw''
        cases ov
        · gi_wp2
          refine ⟨keepsFrom_turn ((Turn.refl W []).drewN nq) (fun g hg => by simp at hg), ⟨Nat.le_refl _, fun _ _ _ => rfl⟩, HTl.out.drewN nq, fun z hz => ?_⟩
          rcases List.mem_append.1 hz with h | h
          · exact HRr.out z h
          · rw [List.mem_singleton.1 h]
            exact rowOk_of HR0.out hrn HO.out HQY.out
        · gi_wp2
          refine ⟨(keepsFrom_turn ((Turn.refl W []).drewN nq) (fun g hg => by simp at hg)).trans ((KeepsOthers.setCell _ _ _).from _), rfl, ((HTl.out.mono (fun x hx => by simp at hx)).drewN nq).setCell (p := ⟨w.heap.size + 1 + 1, 0, none⟩) (.inl (by simp)) _, (HBR1.out.drewN nq).set 0 _, fun h => rowOver_of HO.out HQY.out (h.2.2 y.val (by rw [HMM.out]; exact y.isLt))⟩
      · have g : ((r : Int) != p.n) = true := by simp; exact hrn
        have g' : ((r : Int) == p.n) = false := by simp; exact hrn
        gi_wp2
        refine wpIn_region_quietR (by kernel_rfl) (by kernel_rfl) (by kernel_rfl) ?_
        repeat (gi_big_quiet_step (fail))
        refine BigFrame.wpQuietIn_skip (fun _ _ _ _ => trivial) rfl ?_
        go_simp
        repeat (gi_big_quiet_step (fail))
        refine wpQuietIn_nil ?_
        intro nq
        gi_wp2
        refine ⟨(keepsFrom_turn ((Turn.refl W []).drewN nq) (fun g hg => by simp at hg)).trans ((KeepsOthers.setCell _ _ _).from _), rfl, ((HTl.out.mono (fun x hx => by simp at hx)).drewN nq).setCell (p := ⟨w.heap.size + 1 + 1, 0, none⟩) (.inl (by simp)) _, (HBR1.out.drewN nq).set 0 _, fun h => hrn (by have := (h.2.2 y.val (by rw [HMM.out]; exact y.isLt)).1; rw [HR0.out] at this; exact this)⟩
    · rintro D xs W hD rfl ⟨hT, hR⟩ hK
      have HC : Hid (chk (ElOk p E) = 0) := Lib.hid (chk_pos ⟨hpl, by rw [HMM.out]; exact HM.out.symm, fun i hi => by
        rw [HMM.out] at hi
        have := hR (fi hNp i) (by unfold upto; exact List.mem_map.2 ⟨i, List.mem_range.2 hi, rfl⟩)
        rw [fi_val hNp hi] at this
        exact this⟩)
      have hb2 := (HBR0.out.turn hT (by simp))
      have f2x := hb2.free 0
      have e2x : W.cell? ⟨w.heap.size + 1 + 1, 0, none⟩ = some (.int .i64 0) := hb2.cell 0
      have HB2 := Lib.hid hb2
      have HTl := Lib.hid hT
      have HK := Lib.hid hK
      clear hT hR hb2 hK k4 k5 k6 hcq hq hbc
      gi_wp2
      refine ⟨by simp, .inl ⟨_, _, rfl, run_takeDeferred ?_, ?_⟩⟩
      · exact (KeepsOthers.setCell _ _ _).same D _ HK.out rfl
      · obtain ⟨W5, hW5⟩ : ∃ W5, W.setCell ⟨w.heap.size + 1 + 1, 0, none⟩ (.int .i64 0) = W5 := ⟨_, rfl⟩
        have hK5 : W5.heap[D]? = some (.deferred (some [])) := by rw [← hW5]; exact (KeepsOthers.setCell _ _ _).same D _ HK.out rfl
        have hT5 : Turn W0 W5 [w.heap.size + 1 + 1] := by rw [← hW5]; exact (HTl.out.mono (fun x hx => by simp at hx)).setCell (p := ⟨w.heap.size + 1 + 1, 0, none⟩) (.inl (by simp)) _
        have hB5 : Blk W5 (w.heap.size + 1 + 1) 32 #[.int .i64 0] := by rw [← hW5]; exact HB2.out.set 0 _
        rw [hW5]
        have hB6 : Blk (W5.putObj D (.deferred none)) (w.heap.size + 1 + 1) 32 #[.int .i64 0] := (World.putObj_heap_other (by omega)).trans hB5
        have r0 := hB6.cell 0
        have hbe : Below w.heap.size w (W5.putObj D (.deferred none)) :=
          ((HA2.out.trans (hB0.mono (by omega))).trans (hT5.belowN (by omega) (fun x hx => by simp at hx; omega))).trans (belowK_b (w := w) (Nat.le_refl _) W5 D _ _ (by omega) hK5 rfl rfl)
        exact ⟨.int .i64 0, by simp [results, Tryz.results90, go_sem, r0], by rw [HC.out], hbe⟩
    · rintro D c pre W hD _ ⟨rfl, hT, hB, hbad⟩ hK
      have HC : Hid (chk (ElOk p E) = 2) := Lib.hid (chk_neg hbad)
      have HB2 := Lib.hid hB
      have HTl := Lib.hid hT
      have HK := Lib.hid hK
      clear hT hB hbad hK k4 k5 k6 hcq hq hbc
      gi_wp2
      refine ⟨by simp, .inl ⟨_, _, rfl, run_takeDeferred HK.out, ?_⟩⟩
      have hB6 : Blk (W.putObj D (.deferred none)) (w.heap.size + 1 + 1) 32 #[.int .i64 2] := (World.putObj_heap_other (by omega)).trans HB2.out
      have r0 := hB6.cell 0
      have hbe : Below w.heap.size w (W.putObj D (.deferred none)) :=
        ((HA2.out.trans (hB0.mono (by omega))).trans (HTl.out.belowN (by omega) (fun x hx => by simp at hx; omega))).trans (belowK_b (w := w) (Nat.le_refl _) W D _ _ (by omega) HK.out rfl rfl)
      exact ⟨.int .i64 2, by simp [results, Tryz.results90, go_sem, r0], by rw [HC.out], hbe⟩)
theorem rgCheck_walk (p : Par) (ca : Option Addr) (cc : Nat) (E : El) (ao : Option Addr) (c : Nat) (w : World) (hin : ParIn w p ca cc) (hg : Good p) (he : ElIn w E ao c) :
    Calls Tryz.prog 90 #[.agg (p.cells ca cc), E.val ao c] w fun e w' => e = .returned (.int .i64 (chk (ElOk p E))) ∧ Below w.heap.size w w' := by
  by_cases h : PlaceOk p E.level E.special ∧ E.rows.length = (p.qs E.level E.special).length
  · exact rgCheck_loop p ca cc E ao c w hin hg he h.1 h.2
  · have := rgCheck_bad p ca cc E ao c w hin hg he h
    rw [chk_neg (fun k => h ⟨k.1, k.2.1⟩)]
    exact this
end Go.Proofs.YtcipjbckcnkfaaaGreat
