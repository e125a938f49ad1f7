/- Equal ciphertexts, the program's: by data.
Laws of ciphertexts' parts: plain. No walk.
Valid ciphertexts among any: by data. No walk.
Switching's digits of an element, by data. -/
import Derived.Test.YtmjildbdkecolaaGreatPsa49
import Derived.Tactics
import Derived.Tactics2
import Derived.StillTactics
import Derived.Laws.Small
import Derived.Laws.StructEq
import Derived.KernelRfl
set_option linter.unusedSimpArgs false
set_option linter.unusedVariables false
set_option linter.unnecessarySimpa false
namespace Go.Proofs.YtmjildbdkecolaaGreat
open Go.RowKit
set_option maxRecDepth 20000
set_option maxHeartbeats 4000000
open Go.RowKit
section
variable {p : PD} {n lv : Nat}
/-- The polynomial that is a constant. -/
def constX (c : Int) (j : Nat) : Int := if j = 0 then c else 0
end
open Go.RowKit
/-- Data that came in: nothing lies beyond their ends. -/
structure Dflt (c : CG) : Prop where
 k : c.k ≤ 9223372036854775807
 m : ∀ i, (c.P i).m ≤ 9223372036854775807
 l : ∀ i k, (c.P i).ln k ≤ 9223372036854775807
 o1 : ∀ i, c.k ≤ i → (c.P i).m = 0
 o2 : ∀ i k, (c.P i).m ≤ k → (c.P i).ln k = 0
 o3 : ∀ i k j, (c.P i).ln k ≤ j → (c.P i).g k j = 0
theorem Dflt.small {c : CG} (h : Dflt c) (hs : smallC c = true) : c.k ≤ 1000000 ∧ (∀ i, (c.P i).m ≤ 1000000) ∧ ∀ i k, (c.P i).ln k ≤ 1000000 := by
 unfold smallC at hs
 rw [Bool.and_eq_true, decide_eq_true_eq, evry_iff] at hs
 have hm : ∀ i, (c.P i).m ≤ 40 ∧ ∀ k, (c.P i).ln k ≤ 80 := fun i => by
  by_cases q : i < c.k
  ·have := hs.2 i q
   unfold smallE at this
   rw [Bool.and_eq_true, decide_eq_true_eq, evry_iff] at this
   refine ⟨this.1, fun k => ?_⟩
   by_cases q2 : k < (c.P i).m
   ·exact of_decide_eq_true (this.2 k q2)
   ·rw [h.o2 i k (by omega)]; omega
  ·have h0 := h.o1 i (by omega)
   exact ⟨by omega, fun k => by rw [h.o2 i k (by omega)]; omega⟩
 exact ⟨by omega, fun i => by have := (hm i).1; omega, fun i k => by have := (hm i).2 k; omega⟩
/-- A valid element's rows. -/
theorem eOk_rows {p : PD} {e : EG} {n lv : Nat} (hn : p.n = (n : Int)) (hl : e.lv = (lv : Int)) (hs : e.sp = false) (h : eOk p e = true) : e.m = lv ∧ ∀ k, k < lv → e.ln k = n ∧ ∀ j, j < n → e.g k j < modQ p lv k := by
 unfold eOk elOk at h
 rw [hl, hs, Int.toNat_natCast] at h
 rw [Bool.and_eq_true, Bool.and_eq_true, evry_iff, decide_eq_true_eq] at h
 obtain ⟨⟨_, h2⟩, h3⟩ := h
 have hm : e.m = lv := h2
 refine ⟨hm, fun k hk => ?_⟩
 have h4 := h3 k (by omega)
 rw [rowOk_eq hn] at h4
 simp only [Bool.not_eq_true', Bool.or_eq_false_iff, decide_eq_false_iff_not, ne_eq, Decidable.not_not] at h4
 refine ⟨h4.1, fun j hj => ?_⟩
 by_cases q : e.g k j < modQ p lv k
 ·exact q
 ·have := hasI_spec (p := fun j => decide (modQ p lv k ≤ e.g k j)) (n := e.ln k) |>.2 ⟨j, by omega, decide_eq_true (by omega)⟩
  rw [h4.2] at this; cases this
section
variable {p : PD} {n lv : Nat}
end
noncomputable abbrev oneD (n : Nat) (c : Int) : D := .fz true n Tryz.t2.size (setE (fun _ => valL (Value.int .i64 0).cells.toList) (Int.toNat 0) 0 (D.val (.int .i64 c)).cellL)
noncomputable abbrev twoD (n : Nat) (c d : Int) : D := .fz true n Tryz.t2.size (setE (setE (fun _ => valL (Value.int .i64 0).cells.toList) (Int.toNat 0) 0 (D.val (.int .i64 c)).cellL) (Int.toNat 0) 0 (D.val (.int .i64 d)).cellL)
theorem one_f (c : Int) : setE (fun _ => valL (Value.int .i64 0).cells.toList) (Int.toNat 0) 0 (D.val (.int .i64 c)).cellL = fun j => [.val (.int .i64 (constX c j))] := by
 funext e
 unfold setE constX
 by_cases q : e = 0
 ·subst q; rfl
 ·rw [if_neg (show ¬ e = Int.toNat 0 from q), if_neg q]; rfl
theorem two_f (c d : Int) : setE (setE (fun _ => valL (Value.int .i64 0).cells.toList) (Int.toNat 0) 0 (D.val (.int .i64 c)).cellL) (Int.toNat 0) 0 (D.val (.int .i64 d)).cellL = fun j => [.val (.int .i64 (constX d j))] := by
 rw [one_f]
 funext e
 unfold setE constX
 by_cases q : e = 0
 ·subst q; rfl
 ·rw [if_neg (show ¬ e = Int.toNat 0 from q)]
  show [D.val (.int .i64 (if e = 0 then c else 0))] = [D.val (.int .i64 (if e = 0 then d else 0))]
  rw [if_neg q, if_neg q]
theorem one_eq (n : Nat) (c : Int) : oneD n c = intsD true n (constX c) := by unfold oneD; rw [one_f]; rfl
theorem two_eq (n : Nat) (c d : Int) : twoD n c d = intsD true n (constX d) := by unfold twoD; rw [two_f]; rfl
instance (n : Nat) (c : Int) : OldD (oneD n c) := by rw [one_eq]; infer_instance
instance (n : Nat) (c d : Int) : OldD (twoD n c d) := by rw [two_eq]; infer_instance
open Go.RowKit
set_option maxRecDepth 20000
set_option maxHeartbeats 4000000
theorem swdigits_den (p : PD) (n lv : Nat) (g : Nat → Nat → Nat) : Den Tryz.prog 103 [.agg (parL true p), .agg (elL true lv false lv n g)] (.clo 173 [.fptr false (parL true p), .fptr false (elL true lv false lv n g)]) := by
 refine den_intro (fn := Tryz.f103) rfl rfl rfl rfl rfl ?_
 refine go ?_
 refine fin_frz 1002 ?_
 refine fin_frz 1003 ?_
 refine fin ?_
 exact cv
/-- The digits, as elements. -/
abbrev dgV (p : PD) (lv : Nat) (g : Nat → Nat → Nat) (i k j : Nat) : Nat := resI (balR p lv g i j) (modQ p lv k)
theorem balR_in {p : PD} {n lv : Nat} (h : Lv p n lv) {g : Nat → Nat → Nat} (hv : Vg p lv g) (i j : Nat) : -9223372036854775808 ≤ balR p lv g i j ∧ balR p lv g i j ≤ 9223372036854775807 := by
 have := hv i j
 have := modQ_in h.vp h.sp h.l2 i
 unfold balR balI
 split <;> omega
theorem guard_good {a b : Bool} (h : ((decide (errI a ≠ 0) || b) == false) = true) : a = true := by
 cases a
 ·simp at h
 ·rfl
theorem swDigits_bad (p : PD) (hp : PFit p) (e : EG) (hln : ∀ k, e.ln k ≤ 1000000) (hm : e.m ≤ 1000000) (h : (goodB p && (!e.sp && eOk p e)) = false) : Den Tryz.prog 42 [.agg (parL true p), .agg (elD true e)] (.tup [.val (.slice none 0 0), .val (.int .i64 2)]) := by
 refine den_intro (fn := Tryz.f42) rfl rfl rfl rfl rfl ?_
 refine go ?_
 refine r_call (pcheck_den p hp) ?_
 refine go ?_
 refine g_callM (hl := fun hb => r_call (rgCheck_den p (good_VP (goodB_iff.1 (guard_good hb))) e.lv e.sp e.m e.ln e.g hln hm) (run_fin rfl)) (h := ?_)
 refine go ?_
 refine c_ifB (fun h1 => ?_) (fun h1 => ?_)
 ·refine go ?_
  refine fin ?_
  exact cv
 ·exfalso
  have : goodB p = true ∧ e.sp = false ∧ eOk p e = true := by
   unfold eOk
   cases q1 : goodB p <;> cases q2 : e.sp <;> cases q3 : elOk p e.lv e.sp e.m e.ln e.g <;> simp_all
  rw [this.1, this.2.1, this.2.2] at h
  cases h
theorem swDigits_ok (p : PD) (n lv : Nat) (hp : PFit p) (hg : Good p.par) (h : Lv p n lv) (g : Nat → Nat → Nat) (hv : Vg p lv g) : Den Tryz.prog 42 [.agg (parL true p), .agg (elL true lv false lv n g)] (.tup [.fz false lv 3 (fun i => elL false lv true (lv + 1) n (dgV p lv g i)), .val (.int .i64 0)]) := by
 refine den_intro (fn := Tryz.f42) rfl rfl rfl rfl rfl ?_
 have l1 := h.l1
 have l2 := h.l2
 have l24 := h.vp.len2
 have h32 := h.n32
 have hgd := goodB_iff.2 hg
 have hpc := pcheck_den p hp
 rw [hgd] at hpc
 refine go ?_
 refine r_call hpc ?_
 refine go ?_
 refine r_eqS 17 (.val (.bool false)) rfl ?_
 refine r_eqS 18 (.agg (parL true p)) rfl ?_
 refine r_eqS 19 (.agg (elL true lv false lv n g)) rfl ?_
 refine go ?_
 refine r_call (rgCheckV_den p n lv false h g hv) ?_
 refine go ?_
 refine c_no ?_
 refine go ?_
 refine r_callO (swdigits_den p n lv g) ?_
 refine go ?_
 refine c_nilcell 1006 0 1941 35 3 (fun i => elL false lv true (lv + 1) n (dgV p lv g i)) ?_
 refine c_range (α := Empty) [1002, 1003, 1004, 1005, 1006] (swdigits1_itr p n lv hp hg h g hv) lv (by simp) (fun k => [digR p n lv g k]) (fun k hk => by simp [hk])
  (fun k => [(106, some (.lit 26 [.sl 1941 3 k])), (1941, some (.arr 35 k 3 (fun i => elL false lv true (lv + 1) n (dgV p lv g i)))), (104, some (.lit 26 [.val (.slice none 0 0)])), (105, some (.lit 36 [.val (.int .i64 0)])), (102, some (.lit 25 (parL true p))), (103, some (.lit 35 (elL true lv false lv n g)))])
  (fun _ => []) (fun _ => False) (fun _ => .ret) (fun _ => True) trivial (fun k l hk _ => ?_) (fun _ => ?_) (fun y => y.elim)
 ·refine go ?_
  refine r_call (rgFromInts_den p n lv true h (fun j => balR p lv g k j) (fun j => balR_in h hv k j)) ?_
  refine go ?_
  refine ⟨trivial, ?_⟩
  refine sub_arr (1000 + 41) (fun i => elL false lv true (lv + 1) n (dgV p lv g i)) (appF_snoc rfl) (fun _ => rfl) ?_
  refine sub_toE (1000 + 41) 1941 ?_
  exact sub
 ·refine go ?_
  refine fin_freeze 1941 ?_
  refine fin ?_
  exact cv
end Go.Proofs.YtmjildbdkecolaaGreat
