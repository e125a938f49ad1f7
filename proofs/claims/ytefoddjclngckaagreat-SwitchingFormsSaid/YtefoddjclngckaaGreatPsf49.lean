/- Equal ciphertexts, the program's: by data.
Laws of ciphertexts' parts: plain. No walk.
Valid ciphertexts among any: by data. No walk.
Switching's digits of an element, by data.
The reference's digits of an element; lists of elements that are equal, or large: by data.
Which switching keys are valid, by data.
Which switching keys are valid: both sides.
Which switching keys are valid: the reference.
Which switching keys are valid: the reference's check.
The law on switching's forms, by data: for any digits that are alike on both sides. -/
import Derived.Test.YtefoddjclngckaaGreatPsf48
import Derived.Test.YtefoddjclngckaaGreatPsf27
import Derived.Tactics
import Derived.Tactics2
import Derived.StillTactics
import Derived.Laws.Small
import Derived.Laws.StructEq
import Derived.KernelRfl
set_option linter.unusedSimpArgs false
set_option linter.unusedVariables false
set_option linter.unnecessarySimpa false
namespace Go.Proofs.YtefoddjclngckaaGreat
open Go.RowKit
set_option maxRecDepth 20000
set_option maxHeartbeats 4000000
end Go.Proofs.YtefoddjclngckaaGreat

namespace Go.Proofs.YtefoddjclngckaaGreat
open Go.RowKit
section
variable {p : PD} {n lv : Nat}
/-- The polynomial that is a constant. -/
def constX (c : Int) (j : Nat) : Int := if j = 0 then c else 0
end
end Go.Proofs.YtefoddjclngckaaGreat

namespace Go.Proofs.YtefoddjclngckaaGreat
open Go.RowKit
/-- Data that came in: nothing lies beyond their ends. -/
structure Dflt (c : CG) : Prop where
  k : c.k ≤ 9223372036854775807
  m : ∀ i, (c.P i).m ≤ 9223372036854775807
  l : ∀ i k, (c.P i).ln k ≤ 9223372036854775807
  o1 : ∀ i, c.k ≤ i → (c.P i).m = 0
  o2 : ∀ i k, (c.P i).m ≤ k → (c.P i).ln k = 0
  o3 : ∀ i k j, (c.P i).ln k ≤ j → (c.P i).g k j = 0
theorem Dflt.small {c : CG} (h : Dflt c) (hs : smallC c = true) : c.k ≤ 1000000 ∧ (∀ i, (c.P i).m ≤ 1000000) ∧ ∀ i k, (c.P i).ln k ≤ 1000000 := by
  unfold smallC at hs
  rw [Bool.and_eq_true, decide_eq_true_eq, evry_iff] at hs
  have hm : ∀ i, (c.P i).m ≤ 40 ∧ ∀ k, (c.P i).ln k ≤ 80 := fun i => by
    by_cases q : i < c.k
    · have := hs.2 i q
      unfold smallE at this
      rw [Bool.and_eq_true, decide_eq_true_eq, evry_iff] at this
      refine ⟨this.1, fun k => ?_⟩
      by_cases q2 : k < (c.P i).m
      · exact of_decide_eq_true (this.2 k q2)
      · rw [h.o2 i k (by omega)]; omega
    · have h0 := h.o1 i (by omega)
      exact ⟨by omega, fun k => by rw [h.o2 i k (by omega)]; omega⟩
  exact ⟨by omega, fun i => by have := (hm i).1; omega, fun i k => by have := (hm i).2 k; omega⟩
/-- A valid element's rows. -/
theorem eOk_rows {p : PD} {e : EG} {n lv : Nat} (hn : p.n = (n : Int)) (hl : e.lv = (lv : Int)) (hs : e.sp = false) (h : eOk p e = true) : e.m = lv ∧ ∀ k, k < lv → e.ln k = n ∧ ∀ j, j < n → e.g k j < modQ p lv k := by
  unfold eOk elOk at h
  rw [hl, hs, Int.toNat_natCast] at h
  rw [Bool.and_eq_true, Bool.and_eq_true, evry_iff, decide_eq_true_eq] at h
  obtain ⟨⟨_, h2⟩, h3⟩ := h
  have hm : e.m = lv := h2
  refine ⟨hm, fun k hk => ?_⟩
  have h4 := h3 k (by omega)
  rw [rowOk_eq hn] at h4
  simp only [Bool.not_eq_true', Bool.or_eq_false_iff, decide_eq_false_iff_not, ne_eq, Decidable.not_not] at h4
  refine ⟨h4.1, fun j hj => ?_⟩
  by_cases q : e.g k j < modQ p lv k
  · exact q
  · have := hasI_spec (p := fun j => decide (modQ p lv k ≤ e.g k j)) (n := e.ln k) |>.2 ⟨j, by omega, decide_eq_true (by omega)⟩
    rw [h4.2] at this; cases this
section
variable {p : PD} {n lv : Nat}
end
noncomputable abbrev oneD (n : Nat) (c : Int) : D := .fz true n Tryz.t2.size (setE (fun _ => valL (Value.int .i64 0).cells.toList) (Int.toNat 0) 0 (D.val (.int .i64 c)).cellL)
noncomputable abbrev twoD (n : Nat) (c d : Int) : D := .fz true n Tryz.t2.size (setE (setE (fun _ => valL (Value.int .i64 0).cells.toList) (Int.toNat 0) 0 (D.val (.int .i64 c)).cellL) (Int.toNat 0) 0 (D.val (.int .i64 d)).cellL)
theorem one_f (c : Int) : setE (fun _ => valL (Value.int .i64 0).cells.toList) (Int.toNat 0) 0 (D.val (.int .i64 c)).cellL = fun j => [.val (.int .i64 (constX c j))] := by
  funext e
  unfold setE constX
  by_cases q : e = 0
  · subst q; rfl
  · rw [if_neg (show ¬ e = Int.toNat 0 from q), if_neg q]; rfl
theorem two_f (c d : Int) : setE (setE (fun _ => valL (Value.int .i64 0).cells.toList) (Int.toNat 0) 0 (D.val (.int .i64 c)).cellL) (Int.toNat 0) 0 (D.val (.int .i64 d)).cellL = fun j => [.val (.int .i64 (constX d j))] := by
  rw [one_f]
  funext e
  unfold setE constX
  by_cases q : e = 0
  · subst q; rfl
  · rw [if_neg (show ¬ e = Int.toNat 0 from q)]
    show [D.val (.int .i64 (if e = 0 then c else 0))] = [D.val (.int .i64 (if e = 0 then d else 0))]
    rw [if_neg q, if_neg q]
theorem one_eq (n : Nat) (c : Int) : oneD n c = intsD true n (constX c) := by unfold oneD; rw [one_f]; rfl
theorem two_eq (n : Nat) (c d : Int) : twoD n c d = intsD true n (constX d) := by unfold twoD; rw [two_f]; rfl
instance (n : Nat) (c : Int) : OldD (oneD n c) := by rw [one_eq]; infer_instance
instance (n : Nat) (c d : Int) : OldD (twoD n c d) := by rw [two_eq]; infer_instance
end Go.Proofs.YtefoddjclngckaaGreat

namespace Go.Proofs.YtefoddjclngckaaGreat
open Go.RowKit
set_option maxRecDepth 20000
set_option maxHeartbeats 4000000
theorem swdigits_den (p : PD) (n lv : Nat) (g : Nat → Nat → Nat) : Den Tryz.prog 50 [.agg (parL true p), .agg (elL true lv false lv n g)] (.clo 142 [.fptr false (parL true p), .fptr false (elL true lv false lv n g)]) := by
  refine den_intro (fn := Tryz.f50) rfl rfl rfl rfl rfl ?_
  refine go ?_
  refine fin_frz 1002 ?_
  refine fin_frz 1003 ?_
  refine fin ?_
  exact cv
/-- The digits, as elements. -/
abbrev dgV (p : PD) (lv : Nat) (g : Nat → Nat → Nat) (i k j : Nat) : Nat := resI (balR p lv g i j) (modQ p lv k)
theorem balR_in {p : PD} {n lv : Nat} (h : Lv p n lv) {g : Nat → Nat → Nat} (hv : Vg p lv g) (i j : Nat) : -9223372036854775808 ≤ balR p lv g i j ∧ balR p lv g i j ≤ 9223372036854775807 := by
  have := hv i j
  have := modQ_in h.vp h.sp h.l2 i
  unfold balR balI
  split <;> omega
theorem guard_good {a b : Bool} (h : ((decide (errI a ≠ 0) || b) == false) = true) : a = true := by
  cases a
  · simp at h
  · rfl
theorem swDigits_bad (p : PD) (hp : PFit p) (e : EG) (hln : ∀ k, e.ln k ≤ 1000000) (hm : e.m ≤ 1000000) (h : (goodB p && (!e.sp && eOk p e)) = false) : Den Tryz.prog 11 [.agg (parL true p), .agg (elD true e)] (.tup [.val (.slice none 0 0), .val (.int .i64 2)]) := by
  refine den_intro (fn := Tryz.f11) rfl rfl rfl rfl rfl ?_
  refine go ?_
  refine r_call (pcheck_den p hp) ?_
  refine go ?_
  refine g_callM (hl := fun hb => r_call (rgCheck_den p (good_VP (goodB_iff.1 (guard_good hb))) e.lv e.sp e.m e.ln e.g hln hm) (run_fin rfl)) (h := ?_)
  refine go ?_
  refine c_ifB (fun h1 => ?_) (fun h1 => ?_)
  · refine go ?_
    refine fin ?_
    exact cv
  · exfalso
    have : goodB p = true ∧ e.sp = false ∧ eOk p e = true := by
      unfold eOk
      cases q1 : goodB p <;> cases q2 : e.sp <;> cases q3 : elOk p e.lv e.sp e.m e.ln e.g <;> simp_all
    rw [this.1, this.2.1, this.2.2] at h
    cases h
theorem swDigits_ok (p : PD) (n lv : Nat) (hp : PFit p) (hg : Good p.par) (h : Lv p n lv) (g : Nat → Nat → Nat) (hv : Vg p lv g) : Den Tryz.prog 11 [.agg (parL true p), .agg (elL true lv false lv n g)] (.tup [.fz false lv 3 (fun i => elL false lv true (lv + 1) n (dgV p lv g i)), .val (.int .i64 0)]) := by
  refine den_intro (fn := Tryz.f11) rfl rfl rfl rfl rfl ?_
  have l1 := h.l1
  have l2 := h.l2
  have l24 := h.vp.len2
  have h32 := h.n32
  have hgd := goodB_iff.2 hg
  have hpc := pcheck_den p hp
  rw [hgd] at hpc
  refine go ?_
  refine r_call hpc ?_
  refine go ?_
  refine r_eqS 17 (.val (.bool false)) rfl ?_
  refine r_eqS 18 (.agg (parL true p)) rfl ?_
  refine r_eqS 19 (.agg (elL true lv false lv n g)) rfl ?_
  refine go ?_
  refine r_call (rgCheckV_den p n lv false h g hv) ?_
  refine go ?_
  refine c_no ?_
  refine go ?_
  refine r_callO (swdigits_den p n lv g) ?_
  refine go ?_
  refine c_nilcell 1006 0 1941 31 3 (fun i => elL false lv true (lv + 1) n (dgV p lv g i)) ?_
  refine c_range (α := Empty) [1002, 1003, 1004, 1005, 1006] (swdigits1_itr p n lv hp hg h g hv) lv (by simp) (fun k => [digR p n lv g k]) (fun k hk => by simp [hk])
    (fun k => [(106, some (.lit 26 [.sl 1941 3 k])), (1941, some (.arr 31 k 3 (fun i => elL false lv true (lv + 1) n (dgV p lv g i)))), (104, some (.lit 26 [.val (.slice none 0 0)])), (105, some (.lit 35 [.val (.int .i64 0)])), (102, some (.lit 25 (parL true p))), (103, some (.lit 31 (elL true lv false lv n g)))])
    (fun _ => []) (fun _ => False) (fun _ => .ret) (fun _ => True) trivial (fun k l hk _ => ?_) (fun _ => ?_) (fun y => y.elim)
  · refine go ?_
    refine r_call (rgFromInts_den p n lv true h (fun j => balR p lv g k j) (fun j => balR_in h hv k j)) ?_
    refine go ?_
    refine ⟨trivial, ?_⟩
    refine sub_arr (1000 + 41) (fun i => elL false lv true (lv + 1) n (dgV p lv g i)) (appF_snoc rfl) (fun _ => rfl) ?_
    refine sub_toE (1000 + 41) 1941 ?_
    exact sub
  · refine go ?_
    refine fin_freeze 1941 ?_
    refine fin ?_
    exact cv
end Go.Proofs.YtefoddjclngckaaGreat

namespace Go.Proofs.YtefoddjclngckaaGreat
open Go.RowKit
set_option maxRecDepth 20000
set_option maxHeartbeats 4000000
instance fi12 : FI Tryz.prog 12 Tryz.f12 := ⟨Tryz.func12, Tryz.call12⟩
instance fi15 : FI Tryz.prog 15 Tryz.f15 := ⟨Tryz.func15, Tryz.call15⟩
instance fi60 : FI Tryz.prog 60 Tryz.f60 := ⟨Tryz.func60, Tryz.call60⟩
instance fi13 : FI Tryz.prog 13 Tryz.f13 := ⟨Tryz.func13, Tryz.call13⟩
instance fi8 : FI Tryz.prog 8 Tryz.f8 := ⟨Tryz.func8, Tryz.call8⟩
instance fi61 : FI Tryz.prog 61 Tryz.f61 := ⟨Tryz.func61, Tryz.call61⟩
instance fi3 : FI Tryz.prog 3 Tryz.f3 := ⟨Tryz.func3, Tryz.call3⟩
instance fi10 : FI Tryz.prog 10 Tryz.f10 := ⟨Tryz.func10, Tryz.call10⟩
theorem r09CheckV_den (p : PD) (n lv : Nat) (sp : Bool) (h : Lv p n lv) (g : Nat → Nat → Nat) (hg : Vg p lv g) : Den Tryz.prog 53 [.agg (parL true p), .agg (elL true lv sp (modN p lv sp) n g)] (.val (.int .i64 0)) := by
  have h32 := h.n32
  have l2 := h.l2
  have l24 := h.vp.len2
  have hM : modN p lv sp ≤ 1000000 := by unfold modN; split <;> omega
  have := r09Check_den0 p h.vp h.sp (lv : Int) sp (modN p lv sp) (fun _ => n) g (fun _ => by show n ≤ _; omega) hM
  rw [elOk_valid h hg] at this
  exact this
theorem guard_good1 {a : Bool} (h : (decide (errI a ≠ 0) == false) = true) : a = true := by
  cases a
  · simp at h
  · rfl
theorem r18Digits_bad (p : PD) (hp : PFit p) (e : EG) (hln : ∀ k, e.ln k ≤ 1000000) (hm : e.m ≤ 1000000) (h : (goodB p && (!e.sp && eOk p e)) = false) : Den Tryz.prog 12 [.agg (parL true p), .agg (elD true e)] (.tup [.val (.slice none 0 0), .val (.int .i64 2)]) := by
  refine den_intro (fn := Tryz.f12) rfl rfl rfl rfl rfl ?_
  refine go ?_
  refine r_call (r12check_den p hp) ?_
  refine go ?_
  refine g_callM (hl := fun hb => r_call (r09Check_den p (good_VP (goodB_iff.1 (guard_good1 hb))) (good_special (goodB_iff.1 (guard_good1 hb))) e hln hm) (run_fin rfl)) (h := ?_)
  refine go ?_
  refine c_ifB (fun h1 => ?_) (fun h1 => ?_)
  · refine go ?_
    refine fin ?_
    exact cv
  · exfalso
    have : goodB p = true ∧ e.sp = false ∧ eOk p e = true := by
      cases q1 : goodB p <;> cases q2 : e.sp <;> cases q3 : eOk p e <;> simp_all
    rw [this.1, this.2.1, this.2.2] at h
    cases h
theorem r18Digits_ok (p : PD) (n lv : Nat) (hp : PFit p) (hg : Good p.par) (h : Lv p n lv) (g : Nat → Nat → Nat) (hv : Vg p lv g) : Den Tryz.prog 12 [.agg (parL true p), .agg (elL true lv false lv n g)] (.tup [.fz false lv 3 (fun i => elL false lv true (lv + 1) n (dgV p lv g i)), .val (.int .i64 0)]) := by
  refine den_intro (fn := Tryz.f12) rfl rfl rfl rfl rfl ?_
  have l1 := h.l1
  have l2 := h.l2
  have l24 := h.vp.len2
  have h32 := h.n32
  have hpc := r12check_den p hp
  rw [goodB_iff.2 hg] at hpc
  refine go ?_
  refine r_call hpc ?_
  refine go ?_
  refine r_eqS 11 (.val (.bool false)) rfl ?_
  refine r_eqS 12 (.agg (parL true p)) rfl ?_
  refine r_eqS 13 (.agg (elL true lv false lv n g)) rfl ?_
  refine go ?_
  refine r_call (r09CheckV_den p n lv false h g hv) ?_
  refine go ?_
  refine c_no ?_
  refine go ?_
  refine c_nil 6 1900 31 3 (fun i => elL false lv true (lv + 1) n (dgV p lv g i)) ?_
  refine c_up lv (fun j => [(6, .sl 1900 3 j), (7, .val (.int .i64 (j : Nat)))]) (fun j => [(1900, some (.arr 31 j 3 (fun i => elL false lv true (lv + 1) n (dgV p lv g i))))]) (fun j hj => ?_)
  refine go ?_
  refine c_if (fun h3 => ?_) (fun h3 => ?_)
  · have hm := modQ_in h.vp h.sp h.l2 j
    have hqe : modQ p lv j = p.chain.getD j 0 := if_pos h3
    have hb := r18Balanced_den n (p.chain.getD j 0) (g j) (by omega) (by omega) (by omega) (fun i => by rw [← hqe]; exact hv j i)
    rw [← hqe] at hb
    have hx : ∀ i, -9223372036854775808 ≤ balI (g j i) (modQ p lv j) ∧ balI (g j i) (modQ p lv j) ≤ 9223372036854775807 := fun i => balR_in h hv j i
    refine go ?_
    refine r_eqS 41 (.val (.int .u32 ((modQ p lv j : Nat) : Int))) (d := .val (.int .u32 ((p.chain.getD j 0 : Nat) : Int))) (by rw [hqe]) ?_
    refine r_callO hb ?_
    refine go ?_
    refine r_call (r13Of_den p n lv true h (.val (.slice none 0 0)) rfl (fun i => balI (g j i) (modQ p lv j)) hx) ?_
    refine go ?_
    refine ⟨h3, ?_⟩
    refine sub_arr (1000 + 45) (fun i => elL false lv true (lv + 1) n (dgV p lv g i)) (appF_snoc rfl) (fun _ => rfl) ?_
    refine sub_toL [27] (1000 + 45) 1900 ?_
    exact sub
  · obtain rfl : j = lv := by omega
    refine go ?_
    refine fin_freeze 1900 ?_
    refine fin ?_
    exact cv
/-- A list of elements. -/
structure LG where
  m : Nat
  E : Nat → EG
abbrev lgD (o : Bool) (A : LG) : D := .fz o A.m 3 (fun i => elD o (A.E i))
def smallL (A : LG) : Bool := decide (A.m ≤ 30) && evry (fun i => smallE (A.E i)) A.m
theorem law18large_den (A : LG) (hA : A.m ≤ 9223372036854775807) (hm : ∀ i, (A.E i).m ≤ 9223372036854775807) (hl : ∀ i k, (A.E i).ln k ≤ 9223372036854775807) : Den Tryz.prog 8 [lgD true A] (.val (.bool (!smallL A))) := by
  refine den_intro (fn := Tryz.f8) rfl rfl rfl rfl rfl ?_
  refine go ?_
  refine c_if (fun h1 => ?_) (fun h1 => ?_)
  · refine go ?_
    refine fin ?_
    rw [show smallL A = false by unfold smallL; rw [decide_eq_false (by omega)]; rfl]
    exact cv
  · refine go ?_
    refine c_down (fun j => A.m - j) (fun j => j ≤ A.m ∧ ∀ k, k < j → smallE (A.E k) = true) (fun j : Nat => [(3, .val (.int .i64 (j : Int)))]) (fun _ => []) 0 (fun j ⟨hj, hp⟩ => ?_) ⟨by omega, fun e he => by omega⟩
    refine go ?_
    refine c_if (fun h3 => ?_) (fun h3 => ?_)
    · refine go ?_
      refine r_callO (large13_den (A.E j) (hm j) (hl j)) ?_
      refine go ?_
      refine c_ifB (fun h4 => ?_) (fun h4 => ?_)
      · refine go ?_
        refine fin ?_
        rw [show smallL A = false by unfold smallL; rw [evry_no h3 (by simpa using h4)]; simp]
        exact cv
      · refine go ?_
        refine ⟨j + 1, ⟨by omega, fun i hi => ?_⟩, by omega, ?_⟩
        · by_cases q : i < j
          · exact hp i q
          · obtain rfl : i = j := by omega
            simpa using h4
        · exact sub
    · refine go ?_
      refine fin ?_
      rw [show smallL A = true by unfold smallL; rw [decide_eq_true (by omega), evry_iff.2 (fun k hk => hp k (by omega))]; rfl]
      exact cv
theorem sameE_refl (e : EG) : sameE e e = true := by
  have h1 : sameR e.m e.m e.ln e.ln e.g e.g = true := by
    unfold sameR sameW
    simp [evry_iff]
  unfold sameE
  rw [h1]
  simp
theorem law18Same_den (A : LG) (hA : A.m ≤ 1000000) (hm : ∀ i, (A.E i).m ≤ 1000000) (hl : ∀ i k, (A.E i).ln k ≤ 1000000) : Den Tryz.prog 13 [lgD true A, lgD true A] (.val (.bool true)) := by
  refine den_intro (fn := Tryz.f13) rfl rfl rfl rfl rfl ?_
  refine go ?_
  refine c_up A.m (fun j => [(5, .val (.int .i64 (j : Nat)))]) (fun j => []) (fun j hj => ?_)
  refine go ?_
  refine c_if (fun h3 => ?_) (fun h3 => ?_)
  · have hs := r09Same_den (A.E j) (A.E j) (hm j) (hm j) (hl j) (hl j)
    rw [sameE_refl] at hs
    refine go ?_
    refine r_callO hs ?_
    refine go ?_
    refine c_no ?_
    refine go ?_
    refine ⟨h3, ?_⟩
    exact sub
  · refine go ?_
    refine fin ?_
    exact cv
end Go.Proofs.YtefoddjclngckaaGreat

namespace Go.Proofs.YtefoddjclngckaaGreat
open Go.RowKit
set_option maxRecDepth 20000
set_option maxHeartbeats 4000000
instance ti28 : TI Tryz.prog 28 Tryz.t28 Tryz.t27.desc := ⟨by kernel_rfl, by kernel_rfl⟩
instance ti33 : TI Tryz.prog 33 Tryz.t33 Tryz.t33.desc := ⟨by kernel_rfl, by kernel_rfl⟩
instance sz28 : SZ Tryz.prog 28 3 := SZ.of ti28 rfl
instance zr28 : ZR Tryz.prog 28 [.int .i64 0, .slice none 0 0, .slice none 0 0] := ZR.of ti28 rfl rfl rfl
instance bt28 : BT Tryz.prog 28 [(0, 1), (1, 1), (2, 1)] [.int .i64 0, .slice none 0 0, .slice none 0 0] := BT.of (ns := [1, 1, 1]) ti28 rfl zr28.zr ⟨sz3.sz, ⟨sz26.sz, ⟨sz26.sz, trivial⟩⟩⟩ (by intro j; repeat (first | rfl | cases j with | zero => rfl | succ j => ?_))
instance ft28_0 : FT Tryz.prog 28 0 0 := FT.of ti28 rfl ti3 rfl rfl
instance fv28_0 : FV Tryz.prog 28 0 0 1 false := FV.one ti28 rfl ti3 rfl rfl
instance ft28_1 : FT Tryz.prog 28 1 1 := FT.of ti28 rfl ti26 rfl rfl
instance fv28_1 : FV Tryz.prog 28 1 1 1 false := FV.one ti28 rfl ti26 rfl rfl
instance ft28_2 : FT Tryz.prog 28 2 2 := FT.of ti28 rfl ti26 rfl rfl
instance fv28_2 : FV Tryz.prog 28 2 2 1 false := FV.one ti28 rfl ti26 rfl rfl
instance sz33 : SZ Tryz.prog 33 1 := SZ.of ti33 rfl
instance zr33 : ZR Tryz.prog 33 [.nilFunc] := ZR.of ti33 rfl rfl rfl
/-- A number of a source. -/
def fromB (p : PD) (f : Int) : Bool := decide (f = 2) || (decide (f ≤ -3) && decide (-2 * p.n < f) && decide (f % 2 = 1))
theorem and1_neg (f : Int) (h1 : -64 ≤ f) (h2 : f ≤ -1) : bits .and .i64 f 1 = f % 2 := by
  obtain ⟨m, rfl⟩ : ∃ m : Nat, f = -(m : Int) := ⟨f.natAbs, by omega⟩
  have : ∀ m : Nat, m < 65 → 0 < m → bits .and .i64 (-(m : Int)) 1 = (-(m : Int)) % 2 := by decide +kernel
  exact this m (by omega) (by omega)
theorem bw_and {P : Program} {t : TypeId} {ox oy : Operand} {k : IntKind} {x y : Int} : BinR P .and t ox oy (.int k x) (.int k y) (.int k (bits .and k x y)) := fun w => by
  simp [eqGuard, binOp, Op.intBits, Result.andThen]
  rfl
section
variable {P : Program} {N : Nat} {ops : Array Oper} {rest : List Oper} {env : List (Nat × D)} {box : List (Nat × Option Box)} {done : List Rec} {K : List Rec → List (Nat × D) → List (Nat × Option Box) → Prop} {d : Nat} {ty : TypeId} {pos : String} {aft : Array Edge}
theorem r_bitand {x y : Operand} {t t2 : TypeId} {k : IntKind} {u v : Int} (h : RunK P N ops rest ((d, .val (.int k (bits .and k u v))) :: env) box (done ++ [⟨[], some d, .val (.int k (bits .and k u v)), [], []⟩]) K) (hx : Op1 env x (.val (.int k u)) := by first | exact Op1.const _ | exact Op1.fn _ | exact Op1.gl _ | (apply Op1.tmp; (repeat (first | exact Lk.here | apply Lk.there rfl)); done) | (apply Op1.whn; (focus (apply Op1.tmp; (repeat (first | exact Lk.here | apply Lk.there rfl)); done)); assumption) | (apply Op1.whn; (focus (apply Op1.whn; (focus (apply Op1.tmp; (repeat (first | exact Lk.here | apply Lk.there rfl)); done)); assumption)); assumption)) (hy : Op1 env y (.val (.int k v)) := by first | exact Op1.const _ | exact Op1.fn _ | exact Op1.gl _ | (apply Op1.tmp; (repeat (first | exact Lk.here | apply Lk.there rfl)); done) | (apply Op1.whn; (focus (apply Op1.tmp; (repeat (first | exact Lk.here | apply Lk.there rfl)); done)); assumption) | (apply Op1.whn; (focus (apply Op1.whn; (focus (apply Op1.tmp; (repeat (first | exact Lk.here | apply Lk.there rfl)); done)); assumption)); assumption)) (hd : Nat.blt d N = true := by rfl) : RunK P N ops (⟨some d, .binOp .and t x y t2, ty, pos, aft, none⟩ :: rest) env box done K := r_bin hx hy bw_and hd h
end
theorem turns_eq {p : PD} {n : Nat} (hn : p.n = (n : Int)) (n32 : n ≤ 32) (f : Int) : (decide (f ≤ -3) && decide (-2 * p.n < f) && decide (f % 2 = 1)) = (decide (f ≤ -3) && decide (-2 * p.n < f) && decide (bits .and .i64 f 1 = 1)) := by
  by_cases h1 : f ≤ -3
  · by_cases h2 : -2 * p.n < f
    · rw [and1_neg f (by omega) (by omega)]
    · rw [decide_eq_false h2]; simp
  · rw [decide_eq_false h1]; simp
theorem swturns_den (p : PD) (f : Int) (hg : Good p.par) : Den Tryz.prog 58 [.agg (parL true p), .val (.int .i64 f)] (.val (.bool (decide (f ≤ -3) && decide (-2 * p.n < f) && decide (f % 2 = 1)))) := by
  obtain ⟨n, hn, n4, n32⟩ := good_n hg
  rw [turns_eq hn n32]
  refine den_intro (fn := Tryz.f58) rfl rfl rfl rfl rfl ?_
  refine go ?_
  refine g_callM (hl := fun hb => r_bitand (run_fin rfl)) (h := ?_)
  refine go ?_
  refine fin ?_
  exact cv
/-- An element of a key. -/
def fitE (p : PD) (e : EG) : Bool := e.sp && decide (e.lv = (p.chain.length : Int)) && eOk p e
theorem swCheckKey1_den (p : PD) (hvp : VP p) (e : EG) (hln : ∀ k, e.ln k ≤ 1000000) (hm : e.m ≤ 1000000) : Den Tryz.prog 57 [.agg (elD true e), .fptr true (parL true p)] (.val (.bool (fitE p e))) := by
  refine den_intro (fn := Tryz.f57) rfl rfl rfl rfl rfl ?_
  have l24 := hvp.len2
  refine go ?_
  refine g_callM (hl := fun hb => r_call (rgCheck_den p hvp e.lv e.sp e.m e.ln e.g hln hm) (run_fin rfl)) (h := ?_)
  refine go ?_
  unfold fitE
  rw [show eOk p e = decide (errI (elOk p e.lv e.sp e.m e.ln e.g) = 0) from (errI_0 _).symm]
  refine fin ?_
  exact cv
theorem swall_den (A : LG) (T : EG → Bool) {fl : FuncId} {fn : Func} [FI Tryz.prog fl fn] (l1 : List D) [OldDL l1] (hA : A.m ≤ 1000000) (hT : ∀ i, i < A.m → Den Tryz.prog fl [.agg (elD true (A.E i)), .fptr true l1] (.val (.bool (T (A.E i))))) : Den Tryz.prog 59 [lgD true A, .clo fl [.fptr true l1]] (.val (.bool (evry (fun i => T (A.E i)) A.m))) := by
  refine den_intro (fn := Tryz.f59) rfl rfl rfl rfl rfl ?_
  refine go ?_
  refine c_down (fun j => A.m - j) (fun j => j ≤ A.m ∧ ∀ k, k < j → T (A.E k) = true) (fun j : Nat => [(9, .val (.int .i64 (j : Int)))]) (fun _ => []) 0 (fun j ⟨hj, hp⟩ => ?_) ⟨by omega, fun e he => by omega⟩
  refine go ?_
  refine c_if (fun h3 => ?_) (fun h3 => ?_)
  · refine go ?_
    refine r_callO (hT j h3) ?_
    refine go ?_
    refine c_ifB (fun h4 => ?_) (fun h4 => ?_)
    · refine go ?_
      refine fin ?_
      rw [evry_no (f := fun i => T (A.E i)) h3 (by simpa using h4)]
      exact cv
    · refine go ?_
      refine ⟨j + 1, ⟨by omega, fun i hi => ?_⟩, by omega, ?_⟩
      · by_cases q : i < j
        · exact hp i q
        · obtain rfl : i = j := by omega
          simpa using h4
      · exact sub
  · refine go ?_
    refine fin ?_
    rw [evry_iff.2 (fun k hk => hp k (by omega))]
    exact cv
end Go.Proofs.YtefoddjclngckaaGreat

namespace Go.Proofs.YtefoddjclngckaaGreat
open Go.RowKit
set_option maxRecDepth 20000
set_option maxHeartbeats 4000000
abbrev keyD (o : Bool) (f : Int) (A B : LG) : List D := [.val (.int .i64 f), lgD o A, lgD o B]
noncomputable def keyB (p : PD) (f : Int) (A B : LG) : Bool := goodB p && fromB p f && decide (A.m = p.chain.length) && decide (B.m = p.chain.length) && evry (fun i => fitE p (A.E i)) A.m && evry (fun i => fitE p (B.E i)) B.m
/-- Lists that are looked at. -/
structure LFit (A : LG) : Prop where
  m : A.m ≤ 1000000
  e : ∀ i, (A.E i).m ≤ 1000000
  l : ∀ i k, (A.E i).ln k ≤ 1000000
theorem swCheckKey_den (p : PD) (hp : PFit p) (f : Int) (A B : LG) (hA : LFit A) (hB : LFit B) : Den Tryz.prog 14 [.agg (parL true p), .agg (keyD true f A B)] (.val (.int .i64 (errI (keyB p f A B)))) := by
  refine den_intro (fn := Tryz.f14) rfl rfl rfl rfl rfl ?_
  refine c_sreg ?_
  refine gor ?_
  refine c_frz 1002 ?_
  refine c_slot 2 (.fptr false (parL true p)) ?_
  refine go ?_
  refine r_call (pcheck_den p hp) ?_
  refine go ?_
  refine c_ifB (fun h1 => ?_) (fun h1 => ?_)
  · refine go ?_
    refine fin ?_
    rw [show keyB p f A B = false by
      unfold keyB
      cases q : goodB p with
      | true => rw [q] at h1; exact absurd h1 (by decide)
      | false => rfl]
    exact cv
  · have hgb : goodB p = true := guard_good1 (by rw [h1]; rfl)
    have hg := goodB_iff.1 hgb
    have hvp := good_VP hg
    have l24 := hvp.len2
    have hAm := hA.m
    have hBm := hB.m
    refine go ?_
    refine g_callM (hl := fun hb => r_call (swturns_den p f hg) (run_fin rfl)) (h := ?_)
    refine go ?_
    refine c_ifB (fun h2 => ?_) (fun h2 => ?_)
    · refine go ?_
      refine fin ?_
      rw [show keyB p f A B = false by
        have : fromB p f = false := by
          unfold fromB
          by_cases q : f = 2
          · rw [decide_eq_false (show ¬ f ≠ 2 by simp [q])] at h2; cases h2
          · rw [decide_eq_true (show f ≠ 2 from q), Bool.true_and] at h2
            rw [decide_eq_false q, Bool.false_or]
            exact (Bool.not_eq_true' _).mp h2
        unfold keyB
        rw [this]; simp]
      exact cv
    · have hf : fromB p f = true := by
        unfold fromB
        by_cases q : f = 2
        · rw [decide_eq_true q]; rfl
        · rw [decide_eq_true (show f ≠ 2 from q), Bool.true_and] at h2
          rw [decide_eq_false q, Bool.false_or]
          exact (Bool.not_eq_false' _).mp h2
      refine go ?_
      refine c_if (fun h3 => ?_) (fun h3 => ?_)
      · refine go ?_
        refine fin ?_
        rw [show keyB p f A B = false by unfold keyB; rw [decide_eq_false (show ¬ A.m = p.chain.length from h3)]; simp]
        exact cv
      · replace h3 : A.m = p.chain.length := by omega
        refine go ?_
        refine c_if (fun h4 => ?_) (fun h4 => ?_)
        · refine go ?_
          refine fin ?_
          rw [show keyB p f A B = false by unfold keyB; rw [decide_eq_false (show ¬ B.m = p.chain.length from h4)]; simp]
          exact cv
        · replace h4 : B.m = p.chain.length := by omega
          refine go ?_
          refine r_callO (swall_den A (fitE p) (parL true p) hA.m (fun i hi => swCheckKey1_den p hvp (A.E i) (hA.l i) (hA.e i))) ?_
          refine go ?_
          refine c_ifB (fun h5 => ?_) (fun h5 => ?_)
          · refine go ?_
            refine fin ?_
            rw [show keyB p f A B = false by unfold keyB; rw [show evry (fun i => fitE p (A.E i)) A.m = false by simpa using h5]; simp]
            exact cv
          · refine go ?_
            refine r_callO (swall_den B (fitE p) (parL true p) hB.m (fun i hi => swCheckKey1_den p hvp (B.E i) (hB.l i) (hB.e i))) ?_
            refine go ?_
            refine c_ifB (fun h6 => ?_) (fun h6 => ?_)
            · refine go ?_
              refine fin ?_
              rw [show keyB p f A B = false by unfold keyB; rw [show evry (fun i => fitE p (B.E i)) B.m = false by simpa using h6]; simp]
              exact cv
            · refine go ?_
              refine fin ?_
              rw [show keyB p f A B = true by unfold keyB; rw [hgb, hf, decide_eq_true h3, decide_eq_true h4, show evry (fun i => fitE p (A.E i)) A.m = true by simpa using h5, show evry (fun i => fitE p (B.E i)) B.m = true by simpa using h6]; rfl]
              exact cv
end Go.Proofs.YtefoddjclngckaaGreat

namespace Go.Proofs.YtefoddjclngckaaGreat
open Go.RowKit
set_option maxRecDepth 20000
set_option maxHeartbeats 4000000
instance fi155 : FI Tryz.prog 155 Tryz.f155 := ⟨Tryz.func155, Tryz.call155⟩
section
variable {P : Program} {N : Nat} {ops : Array Oper} {rest : List Oper} {env : List (Nat × D)} {box : List (Nat × Option Box)} {done : List Rec} {K : List Rec → List (Nat × D) → List (Nat × Option Box) → Prop} {d : Nat} {ty : TypeId} {pos : String} {aft : Array Edge}
theorem r_negi {x : Operand} {t : TypeId} {k : IntKind} {u : Int} (hn : InK k (-u)) (h : RunK P N ops rest ((d, .val (.int k (-u))) :: env) box (done ++ [⟨[], some d, .val (.int k (-u)), [], []⟩]) K) (hx : Op1 env x (.val (.int k u)) := by first | exact Op1.const _ | exact Op1.fn _ | exact Op1.gl _ | (apply Op1.tmp; (repeat (first | exact Lk.here | apply Lk.there rfl)); done) | (apply Op1.whn; (focus (apply Op1.tmp; (repeat (first | exact Lk.here | apply Lk.there rfl)); done)); assumption) | (apply Op1.whn; (focus (apply Op1.whn; (focus (apply Op1.tmp; (repeat (first | exact Lk.here | apply Lk.there rfl)); done)); assumption)); assumption)) (hd : Nat.blt d N = true := by rfl) : RunK P N ops (⟨some d, .unOp .neg t x, ty, pos, aft, none⟩ :: rest) env box done K := r_un hx (un_neg hn) hd h
end
theorem r13Auto_den (p : PD) (k : Int) (hg : Good p.par) : Den Tryz.prog 155 [.agg (parL true p), .val (.int .i64 k)] (.val (.bool (decide (1 ≤ k) && decide (k < 2 * p.n) && decide (k.tmod 2 = 1)))) := by
  obtain ⟨n, hn, n4, n32⟩ := good_n hg
  rw [show (2 : Int) * p.n = ((2 * n : Nat) : Int) by omega]
  refine den_intro (fn := Tryz.f155) rfl rfl rfl rfl rfl ?_
  refine go ?_
  refine fin ?_
  exact cv
theorem from_eq {p : PD} {n : Nat} (hn : p.n = (n : Int)) (n32 : n ≤ 32) (f : Int) : fromB p f = (decide (f = 2) || (decide (f ≤ -3) && decide (-2 * p.n < f) && (decide (1 ≤ -f) && decide (-f < 2 * p.n) && decide ((-f).tmod 2 = 1)))) := by
  unfold fromB
  by_cases h1 : f ≤ -3
  · by_cases h2 : -2 * p.n < f
    · rw [decide_eq_true (show 1 ≤ -f by omega), decide_eq_true (show -f < 2 * p.n by omega)]
      have : (f % 2 = 1) = ((-f).tmod 2 = 1) := by
        rw [Int.tmod_eq_emod_of_nonneg (by omega)]
        exact propext (by omega)
      simp only [this, Bool.true_and]
    · rw [decide_eq_false h2]; simp
  · rw [decide_eq_false h1]; simp
theorem from_guard {a f m : Int} (h : (decide (f = a) == false && (decide (f ≤ -3) && decide (m < f)) == true) = true) : f ≤ -3 ∧ m < f := by
  simp at h
  exact h.2
theorem r18from_den (p : PD) (f : Int) (hg : Good p.par) : Den Tryz.prog 60 [.agg (parL true p), .val (.int .i64 f)] (.val (.bool (fromB p f))) := by
  obtain ⟨n, hn, n4, n32⟩ := good_n hg
  rw [from_eq hn n32]
  refine den_intro (fn := Tryz.f60) rfl rfl rfl rfl rfl ?_
  refine go ?_
  refine g_call (hl := fun hb => r_negi (k := .i64) (u := f) (by have := from_guard hb; show _ ∧ _; omega) (run_fin rfl)) (h := ?_)
  refine go ?_
  refine g_call (hl := fun hb => r_call (r13Auto_den p (-f) hg) (run_fin rfl)) (h := ?_)
  refine go ?_
  refine fin ?_
  exact cv
theorem r13Top_den (p : PD) (hvp : VP p) (hs : p.special ≠ 0) (e : EG) (hln : ∀ k, e.ln k ≤ 1000000) (hm : e.m ≤ 1000000) : Den Tryz.prog 61 [.agg (parL true p), .agg (elD true e), .val (.bool true)] (.val (.bool (fitE p e))) := by
  refine den_intro (fn := Tryz.f61) rfl rfl rfl rfl rfl ?_
  refine go ?_
  refine r_call (r09Check_den p hvp hs e hln hm) ?_
  refine go ?_
  rw [show fitE p e = (decide (errI (eOk p e) = 0) && decide (e.lv = (p.chain.length : Int)) && (e.sp == true)) by
    unfold fitE
    rw [errI_0]
    cases e.sp <;> cases eOk p e <;> simp]
  refine fin ?_
  exact cv
end Go.Proofs.YtefoddjclngckaaGreat

namespace Go.Proofs.YtefoddjclngckaaGreat
open Go.RowKit
set_option maxRecDepth 20000
set_option maxHeartbeats 4000000
theorem keyB_no {p : PD} {f : Int} {A B : LG} {j : Nat} (hA : j < A.m) (hB : j < B.m) (h : (!fitE p (A.E j) || !fitE p (B.E j)) = true) : keyB p f A B = false := by
  unfold keyB
  cases q : fitE p (A.E j) with
  | false => rw [evry_no (f := fun i => fitE p (A.E i)) hA q]; simp
  | true =>
    rw [q] at h
    rw [evry_no (f := fun i => fitE p (B.E i)) hB (by simpa using h)]; simp
theorem key_head {g f : Bool} {a b c : Nat} (h : (decide (errI g ≠ 0) || !f || decide (a ≠ c) || decide (b ≠ c)) = false) : g = true ∧ f = true ∧ a = c ∧ b = c := by
  cases g
  · simp at h
  · cases f
    · simp at h
    · simp at h; exact ⟨rfl, rfl, h.1, h.2⟩
theorem keyB_head {p : PD} {f : Int} {A B : LG} (h : (decide (errI (goodB p) ≠ 0) || !fromB p f || decide (A.m ≠ p.chain.length) || decide (B.m ≠ p.chain.length)) = true) : keyB p f A B = false := by
  unfold keyB
  cases q : goodB p
  · rfl
  · cases q2 : fromB p f
    · rfl
    · by_cases q3 : A.m = p.chain.length
      · by_cases q4 : B.m = p.chain.length
        · rw [q, q2, decide_eq_false (show ¬ A.m ≠ p.chain.length by simp [q3]), decide_eq_false (show ¬ B.m ≠ p.chain.length by simp [q4])] at h
          exact absurd h (by decide)
        · rw [decide_eq_false q4]; simp
      · rw [decide_eq_false q3]; simp
theorem r18CheckKey_den (p : PD) (hp : PFit p) (f : Int) (A B : LG) (hA : LFit A) (hB : LFit B) : Den Tryz.prog 15 [.agg (parL true p), .agg (keyD true f A B)] (.val (.int .i64 (errI (keyB p f A B)))) := by
  refine den_intro (fn := Tryz.f15) rfl rfl rfl rfl rfl ?_
  have hAm := hA.m
  have hBm := hB.m
  refine go ?_
  refine r_call (r12check_den p hp) ?_
  refine go ?_
  refine g_callM (hl := fun hb => r_call (r18from_den p f (goodB_iff.1 (guard_good1 hb))) (run_fin rfl)) (h := ?_)
  refine go ?_
  refine c_ifB (fun h1 => ?_) (fun h1 => ?_)
  · refine go ?_
    refine fin ?_
    rw [keyB_head h1]
    exact cv
  · obtain ⟨hgb, hf, hA1, hB1⟩ := key_head h1
    have hg := goodB_iff.1 hgb
    have hvp := good_VP hg
    have hsp := good_special hg
    have l24 := hvp.len2
    refine go ?_
    refine c_down (fun j => A.m - j) (fun j => j ≤ A.m ∧ ∀ k, k < j → fitE p (A.E k) = true ∧ fitE p (B.E k) = true) (fun j : Nat => [(5, .val (.int .i64 (j : Int)))]) (fun _ => []) 0 (fun j ⟨hj, hF⟩ => ?_) ⟨by omega, fun e he => by omega⟩
    refine go ?_
    refine c_if (fun h3 => ?_) (fun h3 => ?_)
    · refine go ?_
      refine r_call (r13Top_den p hvp hsp (A.E j) (hA.l j) (hA.e j)) ?_
      refine go ?_
      refine g_callM (hl := fun hb => r_call (r13Top_den p hvp hsp (B.E j) (hB.l j) (hB.e j)) (run_fin rfl)) (h := ?_)
      refine go ?_
      refine c_ifB (fun h4 => ?_) (fun h4 => ?_)
      · refine go ?_
        refine fin ?_
        rw [keyB_no h3 (by omega) h4]
        exact cv
      · refine go ?_
        refine ⟨j + 1, ⟨by omega, fun i hi => ?_⟩, by omega, ?_⟩
        · by_cases q : i < j
          · exact hF i q
          · obtain rfl : i = j := by omega
            simpa using h4
        · exact sub
    · refine go ?_
      refine fin ?_
      rw [show keyB p f A B = true by unfold keyB; rw [hgb, hf, decide_eq_true hA1, decide_eq_true hB1, evry_iff.2 (fun k hk => (hF k (by omega)).1), evry_iff.2 (fun k hk => (hF k (by omega)).2)]; rfl]
      exact cv
end Go.Proofs.YtefoddjclngckaaGreat

namespace Go.Proofs.YtefoddjclngckaaGreat
open Go.RowKit
set_option maxRecDepth 20000
set_option maxHeartbeats 4000000
theorem DenH.resS {P : Program} {f : FuncId} {ds : List D} {hs hs' rs : Hs} {r r' : D} (h : DenH P f ds hs r hs' rs) (hc : Cvt r r') : DenH P f ds hs r' hs' rs := fun Zc w i args hZ hi hH ha =>
  (h Zc w i args hZ hi hH ha).mono fun e w' ⟨v, i', Zn', p0, p1, p2, p3, p4, p5, pfl, p6, p7⟩ => ⟨v, i', Zn', p0, p1, p2, p3, p4, p5, pfl, p6, hc.cv (fun b hb => .inr hb) p7⟩
/-- Elements that came in: nothing lies beyond their ends. -/
structure EIn (e : EG) : Prop where
  m : e.m ≤ 9223372036854775807
  l : ∀ k, e.ln k ≤ 9223372036854775807
  o2 : ∀ k, e.m ≤ k → e.ln k = 0
  o3 : ∀ k j, e.ln k ≤ j → e.g k j = 0
structure LIn (A : LG) : Prop where
  m : A.m ≤ 9223372036854775807
  e : ∀ i, EIn (A.E i)
  o : ∀ i, A.m ≤ i → (A.E i).m = 0
theorem EIn.small {e : EG} (h : EIn e) (hs : smallE e = true) : e.m ≤ 1000000 ∧ ∀ k, e.ln k ≤ 1000000 := by
  unfold smallE at hs
  rw [Bool.and_eq_true, decide_eq_true_eq, evry_iff] at hs
  refine ⟨by omega, fun k => ?_⟩
  by_cases q : k < e.m
  · have := of_decide_eq_true (hs.2 k q); omega
  · rw [h.o2 k (by omega)]; omega
theorem LIn.small {A : LG} (h : LIn A) (hs : smallL A = true) : LFit A := by
  unfold smallL at hs
  rw [Bool.and_eq_true, decide_eq_true_eq, evry_iff] at hs
  have key : ∀ i, (A.E i).m ≤ 1000000 ∧ ∀ k, (A.E i).ln k ≤ 1000000 := fun i => by
    by_cases q : i < A.m
    · exact (h.e i).small (hs.2 i q)
    · have h0 := h.o i (by omega)
      exact ⟨by omega, fun k => by rw [(h.e i).o2 k (by omega)]; omega⟩
  exact ⟨by omega, fun i => (key i).1, fun i => (key i).2⟩
theorem three_f {a b c : Bool} (h : (!a || !b || !c) = false) : a = true ∧ b = true ∧ c = true := by
  cases a <;> cases b <;> cases c <;> simp_all
theorem swForms_gen (p : PD) (hp : PFit p) (f : Int) (A B : LG) (hA : LIn A) (hB : LIn B) (e : EG) (he : EIn e) (haw : Den Tryz.prog 10 [] (.val (.bool true))) (m lv M n : Nat) (x : Int) (G : Nat → Nat → Nat → Nat)
    (d1 : smallE e = true → Den Tryz.prog 11 [.agg (parL true p), .agg (elD true e)] (.tup [.fz false m 3 (fun i => elL false lv true M n (G i)), .val (.int .i64 x)]))
    (r1 : smallE e = true → Den Tryz.prog 12 [.agg (parL true p), .agg (elD true e)] (.tup [.fz false m 3 (fun i => elL false lv true M n (G i)), .val (.int .i64 x)]))
    (s1 : Den Tryz.prog 13 [.fz true m 3 (fun i => elL true lv true M n (G i)), .fz true m 3 (fun i => elL true lv true M n (G i))] (.val (.bool true))) :
    Den Tryz.prog 3 [.agg (parL true p), .agg (keyD true f A B), .agg (elD true e)] (.val (.bool true)) := by
  refine den_intro (fn := Tryz.f3) rfl rfl rfl rfl rfl ?_
  refine go ?_
  refine r_callO (law18large_den A hA.m (fun i => (hA.e i).m) (fun i => (hA.e i).l)) ?_
  refine go ?_
  refine g_callM (hl := fun hb => r_callO (law18large_den B hB.m (fun i => (hB.e i).m) (fun i => (hB.e i).l)) (run_fin rfl)) (h := ?_)
  refine go ?_
  refine g_callM (hl := fun hb => r_call (large13_den e he.m he.l) (run_fin rfl)) (h := ?_)
  refine go ?_
  refine c_ifB (fun h1 => ?_) (fun h1 => ?_)
  · refine go ?_
    refine r_call haw ?_
    refine go ?_
    refine fin ?_
    exact cv
  obtain ⟨qA, qB, qe⟩ := three_f h1
  replace d1 := d1 qe
  replace r1 := r1 qe
  have fA := hA.small qA
  have fB := hB.small qB
  refine go ?_
  refine r_call d1 ?_
  refine go ?_
  refine r_call r1 ?_
  refine go ?_
  refine r_call s1 ?_
  refine go ?_
  refine g_callM (hl := fun hb => r_call (swCheckKey_den p hp f A B fA fB) (run_fin rfl)) (h := ?_)
  refine go ?_
  refine g_callM (hl := fun hb => r_call (r18CheckKey_den p hp f A B fA fB) (run_fin rfl)) (h := ?_)
  refine go ?_
  refine g_callM (hl := fun hb => r_call haw (run_fin rfl)) (h := ?_)
  refine go ?_
  refine fin_slot 6 (.val (.bool true)) ?_ ?_
  · exact .eq (by simp)
  · refine fin ?_
    exact cv
/-- A valid element among any. -/
theorem el_of {p : PD} (hg : Good p.par) {e : EG} (he : EIn e) (hs : e.sp = false) (h : eOk p e = true) : ∃ n lv : Nat, Lv p n lv ∧ Vg p lv e.g ∧ Cvt (.agg (elD true e)) (.agg (elL true lv false lv n e.g)) := by
  obtain ⟨n, hn, n4, n32⟩ := good_n hg
  have hpl : placeB p e.lv e.sp = true := by
    unfold eOk elOk at h
    rw [Bool.and_eq_true, Bool.and_eq_true] at h
    exact h.1.1
  unfold placeB at hpl
  rw [Bool.and_eq_true, Bool.and_eq_true, decide_eq_true_eq, decide_eq_true_eq] at hpl
  obtain ⟨lv, hlv⟩ := Int.eq_ofNat_of_zero_le (show 0 ≤ e.lv by omega)
  have hL : Lv p n lv := ⟨good_VP hg, good_special hg, hn, by omega, by omega⟩
  obtain ⟨hm, hr⟩ := eOk_rows hn hlv hs h
  refine ⟨n, lv, hL, fun r j => ?_, ?_⟩
  · have h0 := hL.q0 r
    by_cases q2 : r < lv
    · obtain ⟨h6, h7⟩ := hr r q2
      by_cases q3 : j < n
      · exact h7 j q3
      · rw [he.o3 r j (by omega)]; exact h0
    · rw [he.o3 r j (by rw [he.o2 r (by omega)]; omega)]; exact h0
  · refine Cvt.agg (.cons (.of_eq (by show D.val (.int .i64 e.lv) = _; rw [hlv])) (.cons (.of_eq (by show D.val (.bool e.sp) = _; rw [hs])) (.cons ?_ .nil)))
    show Cvt (.fz true e.m 1 _) (.fz true lv 1 _)
    rw [hm]
    refine Cvt.fz (.inl rfl) (fun r hr' => ⟨rfl, fun j hj => ?_⟩)
    obtain rfl : j = 0 := by omega
    show Cvt (.fz true (e.ln r) 1 _) (.fz true n 1 _)
    rw [(hr r hr').1]
    exact .of_eq rfl
theorem same_lists (m lv M n : Nat) (G : Nat → Nat → Nat → Nat) (hm : m ≤ 1000000) (hM : M ≤ 1000000) (hn : n ≤ 1000000) : Den Tryz.prog 13 [.fz true m 3 (fun i => elL true lv true M n (G i)), .fz true m 3 (fun i => elL true lv true M n (G i))] (.val (.bool true)) :=
  law18Same_den ⟨m, fun i => ⟨lv, true, M, fun _ => n, G i⟩⟩ hm (fun _ => hM) (fun _ _ => hn)
theorem swForms_den (p : PD) (hp : PFit p) (f : Int) (A B : LG) (hA : LIn A) (hB : LIn B) (e : EG) (he : EIn e) (haw : Den Tryz.prog 10 [] (.val (.bool true))) : Den Tryz.prog 3 [.agg (parL true p), .agg (keyD true f A B), .agg (elD true e)] (.val (.bool true)) := by
  cases q : (goodB p && (!e.sp && eOk p e)) with
  | false =>
    have hc : Cvt (.tup [.val (.slice none 0 0), .val (.int .i64 2)]) (.tup [.fz false 0 3 (fun _ => elL false 0 true 0 0 (fun _ _ => 0)), .val (.int .i64 2)]) := Cvt.tup (.cons (Cvt.nil _ _ _) (.cons (.of_eq rfl) .nil))
    exact swForms_gen p hp f A B hA hB e he haw 0 0 0 0 2 (fun _ _ _ => 0) (fun hs => (swDigits_bad p hp e (he.small hs).2 (he.small hs).1 q).resS hc) (fun hs => (r18Digits_bad p hp e (he.small hs).2 (he.small hs).1 q).resS hc) (same_lists 0 0 0 0 _ (by omega) (by omega) (by omega))
  | true =>
    simp only [Bool.and_eq_true, Bool.not_eq_true'] at q
    obtain ⟨q1, q2, q3⟩ := q
    have hg := goodB_iff.1 q1
    obtain ⟨n, lv, hL, hv, hcv⟩ := el_of hg he q2 q3
    have l2 := hL.l2
    have l24 := hL.vp.len2
    have h32 := hL.n32
    have hcl : CvtL [.agg (parL true p), .agg (elD true e)] [.agg (parL true p), .agg (elL true lv false lv n e.g)] := .cons (.of_eq rfl) (.cons hcv .nil)
    exact swForms_gen p hp f A B hA hB e he haw lv lv (lv + 1) n 0 (dgV p lv e.g) (fun _ => (swDigits_ok p n lv hp hg hL e.g hv).arg hcl) (fun _ => (r18Digits_ok p n lv hp hg hL e.g hv).arg hcl) (same_lists lv lv (lv + 1) n _ (by omega) (by omega) (by omega))
end Go.Proofs.YtefoddjclngckaaGreat
