/- Laws of ciphertexts' parts: plain. No walk.
Valid ciphertexts among any: by data. No walk.
Switching's digits of an element, by data.
The reference's digits of an element; lists of elements that are equal, or large: by data.
Which switching keys are valid, by data.
Which switching keys are valid: both sides.
Which switching keys are valid: the reference.
Which switching keys are valid: the reference's check.
The law on switching's forms, by data: for any digits that are alike on both sides.
Whether some digits are as the document says: by data.
The reference's rescaling, by data: the exponent, fewer primes.
The reference's rescaling, by data: division by the plain prime. -/
import Derived.Test.YtmjildbdkecolaaGreatPsr51
import Derived.Test.YtmjildbdkecolaaGreatPsr50
import Derived.Test.YtmjildbdkecolaaGreatPsr49
import Derived.Test.YtmjildbdkecolaaGreatPsr27
set_option linter.unusedSimpArgs false
set_option linter.unusedVariables false
set_option linter.unnecessarySimpa false
namespace Go.Proofs.YtmjildbdkecolaaGreat
open Go.RowKit
section
variable {p : PD} {n lv : Nat}
/-- The polynomial that is a constant. -/
def constX (c : Int) (j : Nat) : Int := if j = 0 then c else 0
end
/-- Equal ciphertexts, by their parts. -/
abbrev cgV (lv ex k n : Nat) (G : Nat → Nat → Nat → Nat) : CG := ⟨lv, ex, k, fun i => ⟨lv, false, lv, fun _ => n, G i⟩⟩
theorem sameC_V {lv ex k n : Nat} {A B : Nat → Nat → Nat → Nat} (h : ∀ i, i < k → ∀ r, r < lv → ∀ j, j < n → A i r j = B i r j) : sameC (cgV lv ex k n A) (cgV lv ex k n B) = true := by
 unfold sameC
 rw [(evry_iff (f := fun i => sameE ((cgV lv ex k n A).P i) ((cgV lv ex k n B).P i))).2 (fun i hi => ?_)]
 ·simp
 ·unfold sameE
  simp only [decide_true, beq_self_eq_true, Bool.true_and]
  exact sameR_3 (fun r hr => sameW_3 (fun j hj => h i hi r hr j hj))
open Go.RowKit
/-- Data that came in: nothing lies beyond their ends. -/
structure Dflt (c : CG) : Prop where
 k : c.k ≤ 9223372036854775807
 m : ∀ i, (c.P i).m ≤ 9223372036854775807
 l : ∀ i k, (c.P i).ln k ≤ 9223372036854775807
 o1 : ∀ i, c.k ≤ i → (c.P i).m = 0
 o2 : ∀ i k, (c.P i).m ≤ k → (c.P i).ln k = 0
 o3 : ∀ i k j, (c.P i).ln k ≤ j → (c.P i).g k j = 0
theorem Dflt.small {c : CG} (h : Dflt c) (hs : smallC c = true) : c.k ≤ 1000000 ∧ (∀ i, (c.P i).m ≤ 1000000) ∧ ∀ i k, (c.P i).ln k ≤ 1000000 := by
 unfold smallC at hs
 rw [Bool.and_eq_true, decide_eq_true_eq, evry_iff] at hs
 have hm : ∀ i, (c.P i).m ≤ 40 ∧ ∀ k, (c.P i).ln k ≤ 80 := fun i => by
  by_cases q : i < c.k
  ·have := hs.2 i q
   unfold smallE at this
   rw [Bool.and_eq_true, decide_eq_true_eq, evry_iff] at this
   refine ⟨this.1, fun k => ?_⟩
   by_cases q2 : k < (c.P i).m
   ·exact of_decide_eq_true (this.2 k q2)
   ·rw [h.o2 i k (by omega)]; omega
  ·have h0 := h.o1 i (by omega)
   exact ⟨by omega, fun k => by rw [h.o2 i k (by omega)]; omega⟩
 exact ⟨by omega, fun i => by have := (hm i).1; omega, fun i k => by have := (hm i).2 k; omega⟩
theorem ciOk_st {p : PD} {c : CG} (h : ciOk p c = true) : St p c.lv c.ex := by
 unfold ciOk at h
 rw [Bool.and_eq_true, Bool.and_eq_true] at h
 exact stB_iff.1 h.1.1
theorem ciOk_part {p : PD} {c : CG} (h : ciOk p c = true) {i : Nat} (hi : i < c.k) : (c.P i).lv = c.lv ∧ (c.P i).sp = false ∧ eOk p (c.P i) = true := by
 unfold ciOk at h
 rw [Bool.and_eq_true, evry_iff] at h
 have := h.2 i hi
 unfold partOk at this
 simp only [Bool.not_eq_true', Bool.or_eq_false_iff, decide_eq_false_iff_not, ne_eq, Decidable.not_not] at this
 refine ⟨this.1.1, this.1.2, ?_⟩
 cases q : eOk p (c.P i) with
 | true => rfl
 | false => rw [q] at this; exact absurd this.2 (by decide)
/-- A valid element's rows. -/
theorem eOk_rows {p : PD} {e : EG} {n lv : Nat} (hn : p.n = (n : Int)) (hl : e.lv = (lv : Int)) (hs : e.sp = false) (h : eOk p e = true) : e.m = lv ∧ ∀ k, k < lv → e.ln k = n ∧ ∀ j, j < n → e.g k j < modQ p lv k := by
 unfold eOk elOk at h
 rw [hl, hs, Int.toNat_natCast] at h
 rw [Bool.and_eq_true, Bool.and_eq_true, evry_iff, decide_eq_true_eq] at h
 obtain ⟨⟨_, h2⟩, h3⟩ := h
 have hm : e.m = lv := h2
 refine ⟨hm, fun k hk => ?_⟩
 have h4 := h3 k (by omega)
 rw [rowOk_eq hn] at h4
 simp only [Bool.not_eq_true', Bool.or_eq_false_iff, decide_eq_false_iff_not, ne_eq, Decidable.not_not] at h4
 refine ⟨h4.1, fun j hj => ?_⟩
 by_cases q : e.g k j < modQ p lv k
 ·exact q
 ·have := hasI_spec (p := fun j => decide (modQ p lv k ≤ e.g k j)) (n := e.ln k) |>.2 ⟨j, by omega, decide_eq_true (by omega)⟩
  rw [h4.2] at this; cases this
def partG (c : CG) (i r j : Nat) : Nat := (c.P i).g r j
theorem ci_vc {p : PD} {c : CG} {n lv : Nat} (hd : Dflt c) (hn : p.n = (n : Int)) (hl : c.lv = (lv : Int)) (hL : Lv p n lv) (h : ciOk p c = true) : Vc p lv (partG c) := fun i r j => by
 unfold partG
 have h0 := hL.q0 r
 by_cases q : i < c.k
 ·obtain ⟨h1, h2, h3⟩ := ciOk_part h q
  obtain ⟨h4, h5⟩ := eOk_rows hn (h1.trans hl) h2 h3
  by_cases q2 : r < lv
  ·obtain ⟨h6, h7⟩ := h5 r q2
   by_cases q3 : j < n
   ·exact h7 j q3
   ·rw [hd.o3 i r j (by omega)]; exact h0
  ·rw [hd.o3 i r j (by rw [hd.o2 i r (by omega)]; omega)]; exact h0
 ·rw [hd.o3 i r j (by rw [hd.o2 i r (by rw [hd.o1 i (by omega)]; omega)]; omega)]; exact h0
theorem ci_cvt {p : PD} {c : CG} {n lv k : Nat} (hn : p.n = (n : Int)) (hl : c.lv = (lv : Int)) (hk : c.k = k) (h : ciOk p c = true) : Cvt (.fz true c.k 3 (fun i => elD true (c.P i))) (.fz true k 3 (fun i => elL true lv false lv n (partG c i))) := by
 subst hk
 refine Cvt.fz (.inl rfl) (fun i hi => ⟨rfl, fun j hj => ?_⟩)
 obtain ⟨h1, h2, h3⟩ := ciOk_part h hi
 obtain ⟨h4, h5⟩ := eOk_rows hn (h1.trans hl) h2 h3
 match j, hj with
 | 0, _ => exact .of_eq (by show D.val (.int .i64 (c.P i).lv) = _; rw [h1, hl]; rfl)
 | 1, _ => exact .of_eq (by show D.val (.bool (c.P i).sp) = _; rw [h2]; rfl)
 | 2, _ =>
  show Cvt (.fz true (c.P i).m 1 _) (.fz true lv 1 _)
  rw [h4]
  refine Cvt.fz (.inl rfl) (fun r hr => ⟨rfl, fun j hj => ?_⟩)
  obtain rfl : j = 0 := by omega
  show Cvt (.fz true ((c.P i).ln r) 1 _) (.fz true n 1 _)
  rw [(h5 r hr).1]
  exact .of_eq rfl
section
variable {p : PD} {n lv : Nat}
end
noncomputable abbrev oneD (n : Nat) (c : Int) : D := .fz true n Tryz.t2.size (setE (fun _ => valL (Value.int .i64 0).cells.toList) (Int.toNat 0) 0 (D.val (.int .i64 c)).cellL)
noncomputable abbrev twoD (n : Nat) (c d : Int) : D := .fz true n Tryz.t2.size (setE (setE (fun _ => valL (Value.int .i64 0).cells.toList) (Int.toNat 0) 0 (D.val (.int .i64 c)).cellL) (Int.toNat 0) 0 (D.val (.int .i64 d)).cellL)
theorem one_f (c : Int) : setE (fun _ => valL (Value.int .i64 0).cells.toList) (Int.toNat 0) 0 (D.val (.int .i64 c)).cellL = fun j => [.val (.int .i64 (constX c j))] := by
 funext e
 unfold setE constX
 by_cases q : e = 0
 ·subst q; rfl
 ·rw [if_neg (show ¬ e = Int.toNat 0 from q), if_neg q]; rfl
theorem two_f (c d : Int) : setE (setE (fun _ => valL (Value.int .i64 0).cells.toList) (Int.toNat 0) 0 (D.val (.int .i64 c)).cellL) (Int.toNat 0) 0 (D.val (.int .i64 d)).cellL = fun j => [.val (.int .i64 (constX d j))] := by
 rw [one_f]
 funext e
 unfold setE constX
 by_cases q : e = 0
 ·subst q; rfl
 ·rw [if_neg (show ¬ e = Int.toNat 0 from q)]
  show [D.val (.int .i64 (if e = 0 then c else 0))] = [D.val (.int .i64 (if e = 0 then d else 0))]
  rw [if_neg q, if_neg q]
theorem one_eq (n : Nat) (c : Int) : oneD n c = intsD true n (constX c) := by unfold oneD; rw [one_f]; rfl
theorem two_eq (n : Nat) (c d : Int) : twoD n c d = intsD true n (constX d) := by unfold twoD; rw [two_f]; rfl
instance (n : Nat) (c : Int) : OldD (oneD n c) := by rw [one_eq]; infer_instance
instance (n : Nat) (c d : Int) : OldD (twoD n c d) := by rw [two_eq]; infer_instance
open Go.RowKit
set_option maxRecDepth 20000
set_option maxHeartbeats 4000000
theorem swdigits_den (p : PD) (n lv : Nat) (g : Nat → Nat → Nat) : Den Tryz.prog 103 [.agg (parL true p), .agg (elL true lv false lv n g)] (.clo 173 [.fptr false (parL true p), .fptr false (elL true lv false lv n g)]) := by
 refine den_intro (fn := Tryz.f103) rfl rfl rfl rfl rfl ?_
 refine go ?_
 refine fin_frz 1002 ?_
 refine fin_frz 1003 ?_
 refine fin ?_
 exact cv
/-- The digits, as elements. -/
abbrev dgV (p : PD) (lv : Nat) (g : Nat → Nat → Nat) (i k j : Nat) : Nat := resI (balR p lv g i j) (modQ p lv k)
theorem balR_in {p : PD} {n lv : Nat} (h : Lv p n lv) {g : Nat → Nat → Nat} (hv : Vg p lv g) (i j : Nat) : -9223372036854775808 ≤ balR p lv g i j ∧ balR p lv g i j ≤ 9223372036854775807 := by
 have := hv i j
 have := modQ_in h.vp h.sp h.l2 i
 unfold balR balI
 split <;> omega
theorem swDigits_ok (p : PD) (n lv : Nat) (hp : PFit p) (hg : Good p.par) (h : Lv p n lv) (g : Nat → Nat → Nat) (hv : Vg p lv g) : Den Tryz.prog 42 [.agg (parL true p), .agg (elL true lv false lv n g)] (.tup [.fz false lv 3 (fun i => elL false lv true (lv + 1) n (dgV p lv g i)), .val (.int .i64 0)]) := by
 refine den_intro (fn := Tryz.f42) rfl rfl rfl rfl rfl ?_
 have l1 := h.l1
 have l2 := h.l2
 have l24 := h.vp.len2
 have h32 := h.n32
 have hgd := goodB_iff.2 hg
 have hpc := pcheck_den p hp
 rw [hgd] at hpc
 refine go ?_
 refine r_call hpc ?_
 refine go ?_
 refine r_eqS 17 (.val (.bool false)) rfl ?_
 refine r_eqS 18 (.agg (parL true p)) rfl ?_
 refine r_eqS 19 (.agg (elL true lv false lv n g)) rfl ?_
 refine go ?_
 refine r_call (rgCheckV_den p n lv false h g hv) ?_
 refine go ?_
 refine c_no ?_
 refine go ?_
 refine r_callO (swdigits_den p n lv g) ?_
 refine go ?_
 refine c_nilcell 1006 0 1941 35 3 (fun i => elL false lv true (lv + 1) n (dgV p lv g i)) ?_
 refine c_range (α := Empty) [1002, 1003, 1004, 1005, 1006] (swdigits1_itr p n lv hp hg h g hv) lv (by simp) (fun k => [digR p n lv g k]) (fun k hk => by simp [hk])
  (fun k => [(106, some (.lit 26 [.sl 1941 3 k])), (1941, some (.arr 35 k 3 (fun i => elL false lv true (lv + 1) n (dgV p lv g i)))), (104, some (.lit 26 [.val (.slice none 0 0)])), (105, some (.lit 36 [.val (.int .i64 0)])), (102, some (.lit 25 (parL true p))), (103, some (.lit 35 (elL true lv false lv n g)))])
  (fun _ => []) (fun _ => False) (fun _ => .ret) (fun _ => True) trivial (fun k l hk _ => ?_) (fun _ => ?_) (fun y => y.elim)
 ·refine go ?_
  refine r_call (rgFromInts_den p n lv true h (fun j => balR p lv g k j) (fun j => balR_in h hv k j)) ?_
  refine go ?_
  refine ⟨trivial, ?_⟩
  refine sub_arr (1000 + 41) (fun i => elL false lv true (lv + 1) n (dgV p lv g i)) (appF_snoc rfl) (fun _ => rfl) ?_
  refine sub_toE (1000 + 41) 1941 ?_
  exact sub
 ·refine go ?_
  refine fin_freeze 1941 ?_
  refine fin ?_
  exact cv
open Go.RowKit
set_option maxRecDepth 20000
set_option maxHeartbeats 4000000
instance fi58 : FI Tryz.prog 58 Tryz.f58 := ⟨Tryz.func58, Tryz.call58⟩
instance fi35 : FI Tryz.prog 35 Tryz.f35 := ⟨Tryz.func35, Tryz.call35⟩
instance fi83 : FI Tryz.prog 83 Tryz.f83 := ⟨Tryz.func83, Tryz.call83⟩
instance fi90 : FI Tryz.prog 90 Tryz.f90 := ⟨Tryz.func90, Tryz.call90⟩
instance fi9 : FI Tryz.prog 9 Tryz.f9 := ⟨Tryz.func9, Tryz.call9⟩
instance fi96 : FI Tryz.prog 96 Tryz.f96 := ⟨Tryz.func96, Tryz.call96⟩
instance fi10 : FI Tryz.prog 10 Tryz.f10 := ⟨Tryz.func10, Tryz.call10⟩
theorem r09CheckV_den (p : PD) (n lv : Nat) (sp : Bool) (h : Lv p n lv) (g : Nat → Nat → Nat) (hg : Vg p lv g) : Den Tryz.prog 37 [.agg (parL true p), .agg (elL true lv sp (modN p lv sp) n g)] (.val (.int .i64 0)) := by
 have h32 := h.n32
 have l2 := h.l2
 have l24 := h.vp.len2
 have hM : modN p lv sp ≤ 1000000 := by unfold modN; split <;> omega
 have := r09Check_den0 p h.vp h.sp (lv : Int) sp (modN p lv sp) (fun _ => n) g (fun _ => by show n ≤ _; omega) hM
 rw [elOk_valid h hg] at this
 exact this
theorem guard_good1 {a : Bool} (h : (decide (errI a ≠ 0) == false) = true) : a = true := by
 cases a
 ·simp at h
 ·rfl
theorem r18Digits_ok (p : PD) (n lv : Nat) (hp : PFit p) (hg : Good p.par) (h : Lv p n lv) (g : Nat → Nat → Nat) (hv : Vg p lv g) : Den Tryz.prog 58 [.agg (parL true p), .agg (elL true lv false lv n g)] (.tup [.fz false lv 3 (fun i => elL false lv true (lv + 1) n (dgV p lv g i)), .val (.int .i64 0)]) := by
 refine den_intro (fn := Tryz.f58) rfl rfl rfl rfl rfl ?_
 have l1 := h.l1
 have l2 := h.l2
 have l24 := h.vp.len2
 have h32 := h.n32
 have hpc := r12check_den p hp
 rw [goodB_iff.2 hg] at hpc
 refine go ?_
 refine r_call hpc ?_
 refine go ?_
 refine r_eqS 11 (.val (.bool false)) rfl ?_
 refine r_eqS 12 (.agg (parL true p)) rfl ?_
 refine r_eqS 13 (.agg (elL true lv false lv n g)) rfl ?_
 refine go ?_
 refine r_call (r09CheckV_den p n lv false h g hv) ?_
 refine go ?_
 refine c_no ?_
 refine go ?_
 refine c_nil 6 1900 35 3 (fun i => elL false lv true (lv + 1) n (dgV p lv g i)) ?_
 refine c_up lv (fun j => [(6, .sl 1900 3 j), (7, .val (.int .i64 (j : Nat)))]) (fun j => [(1900, some (.arr 35 j 3 (fun i => elL false lv true (lv + 1) n (dgV p lv g i))))]) (fun j hj => ?_)
 refine go ?_
 refine c_if (fun h3 => ?_) (fun h3 => ?_)
 ·have hm := modQ_in h.vp h.sp h.l2 j
  have hqe : modQ p lv j = p.chain.getD j 0 := if_pos h3
  have hb := r18Balanced_den n (p.chain.getD j 0) (g j) (by omega) (by omega) (by omega) (fun i => by rw [← hqe]; exact hv j i)
  rw [← hqe] at hb
  have hx : ∀ i, -9223372036854775808 ≤ balI (g j i) (modQ p lv j) ∧ balI (g j i) (modQ p lv j) ≤ 9223372036854775807 := fun i => balR_in h hv j i
  refine go ?_
  refine r_eqS 41 (.val (.int .u32 ((modQ p lv j : Nat) : Int))) (d := .val (.int .u32 ((p.chain.getD j 0 : Nat) : Int))) (by rw [hqe]) ?_
  refine r_callO hb ?_
  refine go ?_
  refine r_call (r13Of_den p n lv true h (.val (.slice none 0 0)) rfl (fun i => balI (g j i) (modQ p lv j)) hx) ?_
  refine go ?_
  refine ⟨h3, ?_⟩
  refine sub_arr (1000 + 45) (fun i => elL false lv true (lv + 1) n (dgV p lv g i)) (appF_snoc rfl) (fun _ => rfl) ?_
  refine sub_toL [27] (1000 + 45) 1900 ?_
  exact sub
 ·obtain rfl : j = lv := by omega
  refine go ?_
  refine fin_freeze 1900 ?_
  refine fin ?_
  exact cv
/-- A list of elements. -/
structure LG where
 m : Nat
 E : Nat → EG
abbrev lgD (o : Bool) (A : LG) : D := .fz o A.m 3 (fun i => elD o (A.E i))
def smallL (A : LG) : Bool := decide (A.m ≤ 30) && evry (fun i => smallE (A.E i)) A.m
theorem law18large_den (A : LG) (hA : A.m ≤ 9223372036854775807) (hm : ∀ i, (A.E i).m ≤ 9223372036854775807) (hl : ∀ i k, (A.E i).ln k ≤ 9223372036854775807) : Den Tryz.prog 9 [lgD true A] (.val (.bool (!smallL A))) := by
 refine den_intro (fn := Tryz.f9) rfl rfl rfl rfl rfl ?_
 refine go ?_
 refine c_if (fun h1 => ?_) (fun h1 => ?_)
 ·refine go ?_
  refine fin ?_
  rw [show smallL A = false by unfold smallL; rw [decide_eq_false (by omega)]; rfl]
  exact cv
 ·refine go ?_
  refine c_down (fun j => A.m - j) (fun j => j ≤ A.m ∧ ∀ k, k < j → smallE (A.E k) = true) (fun j : Nat => [(3, .val (.int .i64 (j : Int)))]) (fun _ => []) 0 (fun j ⟨hj, hp⟩ => ?_) ⟨by omega, fun e he => by omega⟩
  refine go ?_
  refine c_if (fun h3 => ?_) (fun h3 => ?_)
  ·refine go ?_
   refine r_callO (large13_den (A.E j) (hm j) (hl j)) ?_
   refine go ?_
   refine c_ifB (fun h4 => ?_) (fun h4 => ?_)
   ·refine go ?_
    refine fin ?_
    rw [show smallL A = false by unfold smallL; rw [evry_no h3 (by simpa using h4)]; simp]
    exact cv
   ·refine go ?_
    refine ⟨j + 1, ⟨by omega, fun i hi => ?_⟩, by omega, ?_⟩
    ·by_cases q : i < j
     ·exact hp i q
     ·obtain rfl : i = j := by omega
      simpa using h4
    ·exact sub
  ·refine go ?_
   refine fin ?_
   rw [show smallL A = true by unfold smallL; rw [decide_eq_true (by omega), evry_iff.2 (fun k hk => hp k (by omega))]; rfl]
   exact cv
open Go.RowKit
set_option maxRecDepth 20000
set_option maxHeartbeats 4000000
instance ti28 : TI Tryz.prog 28 Tryz.t28 Tryz.t27.desc := ⟨by kernel_rfl, by kernel_rfl⟩
instance ti79 : TI Tryz.prog 79 Tryz.t79 Tryz.t79.desc := ⟨by kernel_rfl, by kernel_rfl⟩
instance sz28 : SZ Tryz.prog 28 3 := SZ.of ti28 rfl
instance zr28 : ZR Tryz.prog 28 [.int .i64 0, .slice none 0 0, .slice none 0 0] := ZR.of ti28 rfl rfl rfl
instance bt28 : BT Tryz.prog 28 [(0, 1), (1, 1), (2, 1)] [.int .i64 0, .slice none 0 0, .slice none 0 0] := BT.of (ns := [1, 1, 1]) ti28 rfl zr28.zr ⟨sz3.sz, ⟨sz26.sz, ⟨sz26.sz, trivial⟩⟩⟩ (by intro j; repeat (first | rfl | cases j with | zero => rfl | succ j => ?_))
instance ft28_0 : FT Tryz.prog 28 0 0 := FT.of ti28 rfl ti3 rfl rfl
instance fv28_0 : FV Tryz.prog 28 0 0 1 false := FV.one ti28 rfl ti3 rfl rfl
instance ft28_1 : FT Tryz.prog 28 1 1 := FT.of ti28 rfl ti26 rfl rfl
instance fv28_1 : FV Tryz.prog 28 1 1 1 false := FV.one ti28 rfl ti26 rfl rfl
instance ft28_2 : FT Tryz.prog 28 2 2 := FT.of ti28 rfl ti26 rfl rfl
instance fv28_2 : FV Tryz.prog 28 2 2 1 false := FV.one ti28 rfl ti26 rfl rfl
instance sz79 : SZ Tryz.prog 79 1 := SZ.of ti79 rfl
instance zr79 : ZR Tryz.prog 79 [.nilFunc] := ZR.of ti79 rfl rfl rfl
/-- A number of a source. -/
def fromB (p : PD) (f : Int) : Bool := decide (f = 2) || (decide (f ≤ -3) && decide (-2 * p.n < f) && decide (f % 2 = 1))
theorem and1_neg (f : Int) (h1 : -64 ≤ f) (h2 : f ≤ -1) : bits .and .i64 f 1 = f % 2 := by
 obtain ⟨m, rfl⟩ : ∃ m : Nat, f = -(m : Int) := ⟨f.natAbs, by omega⟩
 have : ∀ m : Nat, m < 65 → 0 < m → bits .and .i64 (-(m : Int)) 1 = (-(m : Int)) % 2 := by decide +kernel
 exact this m (by omega) (by omega)
theorem bw_and {P : Program} {t : TypeId} {ox oy : Operand} {k : IntKind} {x y : Int} : BinR P .and t ox oy (.int k x) (.int k y) (.int k (bits .and k x y)) := fun w => by
 simp [eqGuard, binOp, Op.intBits, Result.andThen]
 rfl
section
variable {P : Program} {N : Nat} {ops : Array Oper} {rest : List Oper} {env : List (Nat × D)} {box : List (Nat × Option Box)} {done : List Rec} {K : List Rec → List (Nat × D) → List (Nat × Option Box) → Prop} {d : Nat} {ty : TypeId} {pos : String} {aft : Array Edge}
theorem r_bitand {x y : Operand} {t t2 : TypeId} {k : IntKind} {u v : Int} (h : RunK P N ops rest ((d, .val (.int k (bits .and k u v))) :: env) box (done ++ [⟨[], some d, .val (.int k (bits .and k u v)), [], []⟩]) K) (hx : Op1 env x (.val (.int k u)) := by first | (constructor; (repeat constructor); done) | (apply o2; (focus ((repeat constructor); done)); assumption) | (apply o3; (focus ((repeat constructor); done)); assumption; assumption)) (hy : Op1 env y (.val (.int k v)) := by first | (constructor; (repeat constructor); done) | (apply o2; (focus ((repeat constructor); done)); assumption) | (apply o3; (focus ((repeat constructor); done)); assumption; assumption)) (hd : Nat.blt d N = true := by rfl) : RunK P N ops (⟨some d, .binOp .and t x y t2, ty, pos, aft, none⟩ :: rest) env box done K := r_bin hx hy bw_and hd h
end
theorem turns_eq {p : PD} {n : Nat} (hn : p.n = (n : Int)) (n32 : n ≤ 32) (f : Int) : (decide (f ≤ -3) && decide (-2 * p.n < f) && decide (f % 2 = 1)) = (decide (f ≤ -3) && decide (-2 * p.n < f) && decide (bits .and .i64 f 1 = 1)) := by
 by_cases h1 : f ≤ -3
 ·by_cases h2 : -2 * p.n < f
  ·rw [and1_neg f (by omega) (by omega)]
  ·rw [decide_eq_false h2]; simp
 ·rw [decide_eq_false h1]; simp
theorem swturns_den (p : PD) (f : Int) (hg : Good p.par) : Den Tryz.prog 94 [.agg (parL true p), .val (.int .i64 f)] (.val (.bool (decide (f ≤ -3) && decide (-2 * p.n < f) && decide (f % 2 = 1)))) := by
 obtain ⟨n, hn, n4, n32⟩ := good_n hg
 rw [turns_eq hn n32]
 refine den_intro (fn := Tryz.f94) rfl rfl rfl rfl rfl ?_
 refine go ?_
 refine g_callM (hl := fun hb => r_bitand (run_fin rfl)) (h := ?_)
 refine go ?_
 refine fin ?_
 exact cv
/-- An element of a key. -/
def fitE (p : PD) (e : EG) : Bool := e.sp && decide (e.lv = (p.chain.length : Int)) && eOk p e
theorem swCheckKey1_den (p : PD) (hvp : VP p) (e : EG) (hln : ∀ k, e.ln k ≤ 1000000) (hm : e.m ≤ 1000000) : Den Tryz.prog 92 [.agg (elD true e), .fptr true (parL true p)] (.val (.bool (fitE p e))) := by
 refine den_intro (fn := Tryz.f92) rfl rfl rfl rfl rfl ?_
 have l24 := hvp.len2
 refine go ?_
 refine g_callM (hl := fun hb => r_call (rgCheck_den p hvp e.lv e.sp e.m e.ln e.g hln hm) (run_fin rfl)) (h := ?_)
 refine go ?_
 unfold fitE
 rw [show eOk p e = decide (errI (elOk p e.lv e.sp e.m e.ln e.g) = 0) from (errI_0 _).symm]
 refine fin ?_
 exact cv
theorem swall_den (A : LG) (T : EG → Bool) {fl : FuncId} {fn : Func} [FI Tryz.prog fl fn] (l1 : List D) [OldDL l1] (hA : A.m ≤ 1000000) (hT : ∀ i, i < A.m → Den Tryz.prog fl [.agg (elD true (A.E i)), .fptr true l1] (.val (.bool (T (A.E i))))) : Den Tryz.prog 45 [lgD true A, .clo fl [.fptr true l1]] (.val (.bool (evry (fun i => T (A.E i)) A.m))) := by
 refine den_intro (fn := Tryz.f45) rfl rfl rfl rfl rfl ?_
 refine go ?_
 refine c_down (fun j => A.m - j) (fun j => j ≤ A.m ∧ ∀ k, k < j → T (A.E k) = true) (fun j : Nat => [(9, .val (.int .i64 (j : Int)))]) (fun _ => []) 0 (fun j ⟨hj, hp⟩ => ?_) ⟨by omega, fun e he => by omega⟩
 refine go ?_
 refine c_if (fun h3 => ?_) (fun h3 => ?_)
 ·refine go ?_
  refine r_callO (hT j h3) ?_
  refine go ?_
  refine c_ifB (fun h4 => ?_) (fun h4 => ?_)
  ·refine go ?_
   refine fin ?_
   rw [evry_no (f := fun i => T (A.E i)) h3 (by simpa using h4)]
   exact cv
  ·refine go ?_
   refine ⟨j + 1, ⟨by omega, fun i hi => ?_⟩, by omega, ?_⟩
   ·by_cases q : i < j
    ·exact hp i q
    ·obtain rfl : i = j := by omega
     simpa using h4
   ·exact sub
 ·refine go ?_
  refine fin ?_
  rw [evry_iff.2 (fun k hk => hp k (by omega))]
  exact cv
open Go.RowKit
set_option maxRecDepth 20000
set_option maxHeartbeats 4000000
abbrev keyD (o : Bool) (f : Int) (A B : LG) : List D := [.val (.int .i64 f), lgD o A, lgD o B]
noncomputable def keyB (p : PD) (f : Int) (A B : LG) : Bool := goodB p && fromB p f && decide (A.m = p.chain.length) && decide (B.m = p.chain.length) && evry (fun i => fitE p (A.E i)) A.m && evry (fun i => fitE p (B.E i)) B.m
/-- Lists that are looked at. -/
structure LFit (A : LG) : Prop where
 m : A.m ≤ 1000000
 e : ∀ i, (A.E i).m ≤ 1000000
 l : ∀ i k, (A.E i).ln k ≤ 1000000
theorem swCheckKey_den (p : PD) (hp : PFit p) (f : Int) (A B : LG) (hA : LFit A) (hB : LFit B) : Den Tryz.prog 34 [.agg (parL true p), .agg (keyD true f A B)] (.val (.int .i64 (errI (keyB p f A B)))) := by
 refine den_intro (fn := Tryz.f34) rfl rfl rfl rfl rfl ?_
 refine c_sreg ?_
 refine gor ?_
 refine c_frz 1002 ?_
 refine c_slot 2 (.fptr false (parL true p)) ?_
 refine go ?_
 refine r_call (pcheck_den p hp) ?_
 refine go ?_
 refine c_ifB (fun h1 => ?_) (fun h1 => ?_)
 ·refine go ?_
  refine fin ?_
  rw [show keyB p f A B = false by
   unfold keyB
   cases q : goodB p with
   | true => rw [q] at h1; exact absurd h1 (by decide)
   | false => rfl]
  exact cv
 ·have hgb : goodB p = true := guard_good1 (by rw [h1]; rfl)
  have hg := goodB_iff.1 hgb
  have hvp := good_VP hg
  have l24 := hvp.len2
  have hAm := hA.m
  have hBm := hB.m
  refine go ?_
  refine g_callM (hl := fun hb => r_call (swturns_den p f hg) (run_fin rfl)) (h := ?_)
  refine go ?_
  refine c_ifB (fun h2 => ?_) (fun h2 => ?_)
  ·refine go ?_
   refine fin ?_
   rw [show keyB p f A B = false by
    have : fromB p f = false := by
     unfold fromB
     by_cases q : f = 2
     ·rw [decide_eq_false (show ¬ f ≠ 2 by simp [q])] at h2; cases h2
     ·rw [decide_eq_true (show f ≠ 2 from q), Bool.true_and] at h2
      rw [decide_eq_false q, Bool.false_or]
      exact (Bool.not_eq_true' _).mp h2
    unfold keyB
    rw [this]; simp]
   exact cv
  ·have hf : fromB p f = true := by
    unfold fromB
    by_cases q : f = 2
    ·rw [decide_eq_true q]; rfl
    ·rw [decide_eq_true (show f ≠ 2 from q), Bool.true_and] at h2
     rw [decide_eq_false q, Bool.false_or]
     exact (Bool.not_eq_false' _).mp h2
   refine go ?_
   refine c_if (fun h3 => ?_) (fun h3 => ?_)
   ·refine go ?_
    refine fin ?_
    rw [show keyB p f A B = false by unfold keyB; rw [decide_eq_false (show ¬ A.m = p.chain.length from h3)]; simp]
    exact cv
   ·replace h3 : A.m = p.chain.length := by omega
    refine go ?_
    refine c_if (fun h4 => ?_) (fun h4 => ?_)
    ·refine go ?_
     refine fin ?_
     rw [show keyB p f A B = false by unfold keyB; rw [decide_eq_false (show ¬ B.m = p.chain.length from h4)]; simp]
     exact cv
    ·replace h4 : B.m = p.chain.length := by omega
     refine go ?_
     refine r_callO (swall_den A (fitE p) (parL true p) hA.m (fun i hi => swCheckKey1_den p hvp (A.E i) (hA.l i) (hA.e i))) ?_
     refine go ?_
     refine c_ifB (fun h5 => ?_) (fun h5 => ?_)
     ·refine go ?_
      refine fin ?_
      rw [show keyB p f A B = false by unfold keyB; rw [show evry (fun i => fitE p (A.E i)) A.m = false by simpa using h5]; simp]
      exact cv
     ·refine go ?_
      refine r_callO (swall_den B (fitE p) (parL true p) hB.m (fun i hi => swCheckKey1_den p hvp (B.E i) (hB.l i) (hB.e i))) ?_
      refine go ?_
      refine c_ifB (fun h6 => ?_) (fun h6 => ?_)
      ·refine go ?_
       refine fin ?_
       rw [show keyB p f A B = false by unfold keyB; rw [show evry (fun i => fitE p (B.E i)) B.m = false by simpa using h6]; simp]
       exact cv
      ·refine go ?_
       refine fin ?_
       rw [show keyB p f A B = true by unfold keyB; rw [hgb, hf, decide_eq_true h3, decide_eq_true h4, show evry (fun i => fitE p (A.E i)) A.m = true by simpa using h5, show evry (fun i => fitE p (B.E i)) B.m = true by simpa using h6]; rfl]
       exact cv
open Go.RowKit
set_option maxRecDepth 20000
set_option maxHeartbeats 4000000
instance fi148 : FI Tryz.prog 148 Tryz.f148 := ⟨Tryz.func148, Tryz.call148⟩
section
variable {P : Program} {N : Nat} {ops : Array Oper} {rest : List Oper} {env : List (Nat × D)} {box : List (Nat × Option Box)} {done : List Rec} {K : List Rec → List (Nat × D) → List (Nat × Option Box) → Prop} {d : Nat} {ty : TypeId} {pos : String} {aft : Array Edge}
theorem r_negi {x : Operand} {t : TypeId} {k : IntKind} {u : Int} (hn : InK k (-u)) (h : RunK P N ops rest ((d, .val (.int k (-u))) :: env) box (done ++ [⟨[], some d, .val (.int k (-u)), [], []⟩]) K) (hx : Op1 env x (.val (.int k u)) := by first | (constructor; (repeat constructor); done) | (apply o2; (focus ((repeat constructor); done)); assumption) | (apply o3; (focus ((repeat constructor); done)); assumption; assumption)) (hd : Nat.blt d N = true := by rfl) : RunK P N ops (⟨some d, .unOp .neg t x, ty, pos, aft, none⟩ :: rest) env box done K := r_un hx (un_neg hn) hd h
end
theorem r13Auto_den (p : PD) (k : Int) (hg : Good p.par) : Den Tryz.prog 148 [.agg (parL true p), .val (.int .i64 k)] (.val (.bool (decide (1 ≤ k) && decide (k < 2 * p.n) && decide (k.tmod 2 = 1)))) := by
 obtain ⟨n, hn, n4, n32⟩ := good_n hg
 rw [show (2 : Int) * p.n = ((2 * n : Nat) : Int) by omega]
 refine den_intro (fn := Tryz.f148) rfl rfl rfl rfl rfl ?_
 refine go ?_
 refine fin ?_
 exact cv
theorem from_eq {p : PD} {n : Nat} (hn : p.n = (n : Int)) (n32 : n ≤ 32) (f : Int) : fromB p f = (decide (f = 2) || (decide (f ≤ -3) && decide (-2 * p.n < f) && (decide (1 ≤ -f) && decide (-f < 2 * p.n) && decide ((-f).tmod 2 = 1)))) := by
 unfold fromB
 by_cases h1 : f ≤ -3
 ·by_cases h2 : -2 * p.n < f
  ·rw [decide_eq_true (show 1 ≤ -f by omega), decide_eq_true (show -f < 2 * p.n by omega)]
   have : (f % 2 = 1) = ((-f).tmod 2 = 1) := by
    rw [Int.tmod_eq_emod_of_nonneg (by omega)]
    exact propext (by omega)
   simp only [this, Bool.true_and]
  ·rw [decide_eq_false h2]; simp
 ·rw [decide_eq_false h1]; simp
theorem from_guard {a f m : Int} (h : (decide (f = a) == false && (decide (f ≤ -3) && decide (m < f)) == true) = true) : f ≤ -3 ∧ m < f := by
 simp at h
 exact h.2
theorem r18from_den (p : PD) (f : Int) (hg : Good p.par) : Den Tryz.prog 83 [.agg (parL true p), .val (.int .i64 f)] (.val (.bool (fromB p f))) := by
 obtain ⟨n, hn, n4, n32⟩ := good_n hg
 rw [from_eq hn n32]
 refine den_intro (fn := Tryz.f83) rfl rfl rfl rfl rfl ?_
 refine go ?_
 refine g_call (hl := fun hb => r_negi (k := .i64) (u := f) (by have := from_guard hb; show _ ∧ _; omega) (run_fin rfl)) (h := ?_)
 refine go ?_
 refine g_call (hl := fun hb => r_call (r13Auto_den p (-f) hg) (run_fin rfl)) (h := ?_)
 refine go ?_
 refine fin ?_
 exact cv
theorem r13Top_den (p : PD) (hvp : VP p) (hs : p.special ≠ 0) (e : EG) (hln : ∀ k, e.ln k ≤ 1000000) (hm : e.m ≤ 1000000) : Den Tryz.prog 96 [.agg (parL true p), .agg (elD true e), .val (.bool true)] (.val (.bool (fitE p e))) := by
 refine den_intro (fn := Tryz.f96) rfl rfl rfl rfl rfl ?_
 refine go ?_
 refine r_call (r09Check_den p hvp hs e hln hm) ?_
 refine go ?_
 rw [show fitE p e = (decide (errI (eOk p e) = 0) && decide (e.lv = (p.chain.length : Int)) && (e.sp == true)) by
  unfold fitE
  rw [errI_0]
  cases e.sp <;> cases eOk p e <;> simp]
 refine fin ?_
 exact cv
open Go.RowKit
set_option maxRecDepth 20000
set_option maxHeartbeats 4000000
theorem keyB_no {p : PD} {f : Int} {A B : LG} {j : Nat} (hA : j < A.m) (hB : j < B.m) (h : (!fitE p (A.E j) || !fitE p (B.E j)) = true) : keyB p f A B = false := by
 unfold keyB
 cases q : fitE p (A.E j) with
 | false => rw [evry_no (f := fun i => fitE p (A.E i)) hA q]; simp
 | true =>
  rw [q] at h
  rw [evry_no (f := fun i => fitE p (B.E i)) hB (by simpa using h)]; simp
theorem key_head {g f : Bool} {a b c : Nat} (h : (decide (errI g ≠ 0) || !f || decide (a ≠ c) || decide (b ≠ c)) = false) : g = true ∧ f = true ∧ a = c ∧ b = c := by
 cases g
 ·simp at h
 ·cases f
  ·simp at h
  ·simp at h; exact ⟨rfl, rfl, h.1, h.2⟩
theorem keyB_head {p : PD} {f : Int} {A B : LG} (h : (decide (errI (goodB p) ≠ 0) || !fromB p f || decide (A.m ≠ p.chain.length) || decide (B.m ≠ p.chain.length)) = true) : keyB p f A B = false := by
 unfold keyB
 cases q : goodB p
 ·rfl
 ·cases q2 : fromB p f
  ·rfl
  ·by_cases q3 : A.m = p.chain.length
   ·by_cases q4 : B.m = p.chain.length
    ·rw [q, q2, decide_eq_false (show ¬ A.m ≠ p.chain.length by simp [q3]), decide_eq_false (show ¬ B.m ≠ p.chain.length by simp [q4])] at h
     exact absurd h (by decide)
    ·rw [decide_eq_false q4]; simp
   ·rw [decide_eq_false q3]; simp
theorem r18CheckKey_den (p : PD) (hp : PFit p) (f : Int) (A B : LG) (hA : LFit A) (hB : LFit B) : Den Tryz.prog 35 [.agg (parL true p), .agg (keyD true f A B)] (.val (.int .i64 (errI (keyB p f A B)))) := by
 refine den_intro (fn := Tryz.f35) rfl rfl rfl rfl rfl ?_
 have hAm := hA.m
 have hBm := hB.m
 refine go ?_
 refine r_call (r12check_den p hp) ?_
 refine go ?_
 refine g_callM (hl := fun hb => r_call (r18from_den p f (goodB_iff.1 (guard_good1 hb))) (run_fin rfl)) (h := ?_)
 refine go ?_
 refine c_ifB (fun h1 => ?_) (fun h1 => ?_)
 ·refine go ?_
  refine fin ?_
  rw [keyB_head h1]
  exact cv
 ·obtain ⟨hgb, hf, hA1, hB1⟩ := key_head h1
  have hg := goodB_iff.1 hgb
  have hvp := good_VP hg
  have hsp := good_special hg
  have l24 := hvp.len2
  refine go ?_
  refine c_down (fun j => A.m - j) (fun j => j ≤ A.m ∧ ∀ k, k < j → fitE p (A.E k) = true ∧ fitE p (B.E k) = true) (fun j : Nat => [(5, .val (.int .i64 (j : Int)))]) (fun _ => []) 0 (fun j ⟨hj, hF⟩ => ?_) ⟨by omega, fun e he => by omega⟩
  refine go ?_
  refine c_if (fun h3 => ?_) (fun h3 => ?_)
  ·refine go ?_
   refine r_call (r13Top_den p hvp hsp (A.E j) (hA.l j) (hA.e j)) ?_
   refine go ?_
   refine g_callM (hl := fun hb => r_call (r13Top_den p hvp hsp (B.E j) (hB.l j) (hB.e j)) (run_fin rfl)) (h := ?_)
   refine go ?_
   refine c_ifB (fun h4 => ?_) (fun h4 => ?_)
   ·refine go ?_
    refine fin ?_
    rw [keyB_no h3 (by omega) h4]
    exact cv
   ·refine go ?_
    refine ⟨j + 1, ⟨by omega, fun i hi => ?_⟩, by omega, ?_⟩
    ·by_cases q : i < j
     ·exact hF i q
     ·obtain rfl : i = j := by omega
      simpa using h4
    ·exact sub
  ·refine go ?_
   refine fin ?_
   rw [show keyB p f A B = true by unfold keyB; rw [hgb, hf, decide_eq_true hA1, decide_eq_true hB1, evry_iff.2 (fun k hk => (hF k (by omega)).1), evry_iff.2 (fun k hk => (hF k (by omega)).2)]; rfl]
   exact cv
open Go.RowKit
set_option maxRecDepth 20000
set_option maxHeartbeats 4000000
/-- Elements that came in: nothing lies beyond their ends. -/
structure EIn (e : EG) : Prop where
 m : e.m ≤ 9223372036854775807
 l : ∀ k, e.ln k ≤ 9223372036854775807
 o2 : ∀ k, e.m ≤ k → e.ln k = 0
 o3 : ∀ k j, e.ln k ≤ j → e.g k j = 0
structure LIn (A : LG) : Prop where
 m : A.m ≤ 9223372036854775807
 e : ∀ i, EIn (A.E i)
 o : ∀ i, A.m ≤ i → (A.E i).m = 0
theorem EIn.small {e : EG} (h : EIn e) (hs : smallE e = true) : e.m ≤ 1000000 ∧ ∀ k, e.ln k ≤ 1000000 := by
 unfold smallE at hs
 rw [Bool.and_eq_true, decide_eq_true_eq, evry_iff] at hs
 refine ⟨by omega, fun k => ?_⟩
 by_cases q : k < e.m
 ·have := of_decide_eq_true (hs.2 k q); omega
 ·rw [h.o2 k (by omega)]; omega
theorem LIn.small {A : LG} (h : LIn A) (hs : smallL A = true) : LFit A := by
 unfold smallL at hs
 rw [Bool.and_eq_true, decide_eq_true_eq, evry_iff] at hs
 have key : ∀ i, (A.E i).m ≤ 1000000 ∧ ∀ k, (A.E i).ln k ≤ 1000000 := fun i => by
  by_cases q : i < A.m
  ·exact (h.e i).small (hs.2 i q)
  ·have h0 := h.o i (by omega)
   exact ⟨by omega, fun k => by rw [(h.e i).o2 k (by omega)]; omega⟩
 exact ⟨by omega, fun i => (key i).1, fun i => (key i).2⟩
open Go.RowKit
set_option maxRecDepth 20000
set_option maxHeartbeats 4000000
def c4 : Nat → List D := fun i => [.val (.int .u32 (p4.chain.getD i 0))]
theorem c4_to : Cvt (u32sD false p4.chain) (.fz false 1 1 c4) := .of_eq rfl
theorem c4_fro : Cvt (.fz false 1 1 c4) (u32sD false p4.chain) := .of_eq rfl
/-- A written list of data, seen as frozen. -/
theorem CvV.lsl {L ns : List Nat} {H : Nat → Option Box} {k m len : Nat} {t : TypeId} {ds : List D} {f : Nat → List D} (h : H k = some (.lit t ds)) (hl : len * m ≤ ds.length) (hf : ∀ e, e < len → (f e).length = m ∧ ∀ c, c < m → CvV true L ns H (dl ds (e * m + c)) (dl (f e) c)) (hkL : memB k L = false) (hns : memB k ns = true) : CvV true L ns H (.sl k m len) (.fz true len m f) := fun H1 hH S E a w Z i v hF hL hv => by
 rw [← hH k (memB_spec hns)] at h
 cases hv with
 | @sl _ b _ _ _ cap hib h1 h2 =>
  rcases hF.box k _ h with ⟨b', c', e1, _, _, _, cs, hB, hs, hall⟩ | ⟨e1, _⟩
  ·rw [hib] at e1; cases e1
   have hz := hF.lent hL h rfl hib (memB_no hkL) hB.lt
   have hlt : ∀ {e c : Nat}, e < len → c < m → e * m + c < ds.length := fun {e c} he hc => by
    have : (e + 1) * m ≤ len * m := Nat.mul_le_mul_right _ (by omega)
    rw [Nat.add_mul] at this; omega
   refine .fz _ _ _ len cap.c m f (fun e c => cs.getD (e * m + c) undef) h1 h2 (fun e he => (hf e he).1) (fun e c he hc => ⟨b, 0, rfl, hz, ?_, (hall _ (hlt he hc)).1⟩) (fun e c he hc => (hf e he).2 c hc H1 hH S E a w Z i _ hF hL (hall _ (hlt he hc)).2)
   rw [Nat.zero_add]; exact hB.cell _ (by rw [hs]; exact hlt he hc)
  ·rw [hib] at e1; cases e1
 | sl0 => exact .fz _ _ none 0 0 m f (fun _ _ => undef) (Nat.le_refl _) (by omega) (fun e he => by omega) (fun e c he => by omega) (fun e c he => by omega)
/-- The example's residues. -/
def A18 (k j : Nat) : Nat := if k = 0 then (match j with | 0 => 1 | 1 => 2147481208 | 2 => 0 | 3 => 1073740605 | _ => 0) else 0
theorem A18_vg : Vg p4 1 A18 := fun r j => by
 have h : 2147481208 < modQ p4 1 r := by
  unfold modQ
  split
  ·obtain rfl : r = 0 := by omega
   decide
  ·decide
 unfold A18
 split
 ·split <;> omega
 ·omega
theorem p4_lv : Lv p4 4 1 := ⟨good_VP p4_good, good_special p4_good, p4_n, by omega, by decide⟩
noncomputable abbrev rowA : D := litA Tryz.t22.size 4 [.val (.int .u32 1), .val (.int .u32 ((p4.chain.getD (Int.toNat 0) 0 - 1 : Nat) : Int)), .val (.int .u32 0), .val (.int .u32 (((p4.chain.getD (Int.toNat 0) 0 + 1) / 2 : Nat) : Int))]
theorem swDigits_lit : Den Tryz.prog 42 [.agg (parL true p4), .agg [.val (.int .i64 1), .val (.bool false), .fz true 1 Tryz.t23.size (fun _ => [rowA])]] (.tup [.fz false 1 3 (fun i => elL false 1 true 2 4 (dgV p4 1 A18 i)), .val (.int .i64 0)]) :=
 (swDigits_ok p4 4 1 p4_fit p4_good p4_lv A18 A18_vg).arg (.cons (.of_eq rfl) (.cons (Cvt.agg (.cons (.of_eq rfl) (.cons (.of_eq rfl) (.cons (Cvt.fz (.inl rfl) (fun e he => ⟨rfl, fun c hc => by
  obtain rfl : e = 0 := by omega
  obtain rfl : c = 0 := by have : c < 1 := hc; omega
  exact Cvt.litA (fun e he => by
   match e, he with
   | 0, _ => rfl
   | 1, _ => rfl
   | 2, _ => rfl
   | 3, _ => rfl) (fun _ _ => rfl)⟩)) .nil)))) .nil))
theorem c4_par : Cvt (.agg (parL false p4)) (.agg (parL true p4)) := inferInstance
theorem awake18_den : Den Tryz.prog 10 [] (.val (.bool true)) := by
 refine den_intro (fn := Tryz.f10) rfl rfl rfl rfl rfl ?_
 have q0 : p4.chain.getD (Int.toNat 0) 0 = 2147481209 := rfl
 have q1 : p4.special = 2147483249 := rfl
 obtain ⟨B, hB, b1, b2, b3, b4⟩ : ∃ B, dgV p4 1 A18 = B ∧ B 0 0 3 = 1073740605 ∧ B 0 1 0 = 1 ∧ B 0 1 1 = 2147483248 ∧ B 0 1 3 = 1073742645 := ⟨_, rfl, by decide +kernel, by decide +kernel, by decide +kernel, by decide +kernel⟩
 obtain ⟨sp, hsp⟩ : ∃ s, p4.special = s := ⟨_, rfl⟩
 obtain ⟨qv, hqv⟩ : ∃ s, p4.chain.getD 0 0 = s := ⟨_, rfl⟩
 have q2 : sp = 2147483249 := by omega
 have q3 : qv = 2147481209 := by rw [← hqv]; exact q0
 have hcq : Cvt (u32sD false p4.chain) (.fz false 1 1 (fun _ => [.val (.int .u32 (qv : Nat))])) := Cvt.fz (.inl rfl) (fun e he => ⟨rfl, fun c hc => by
  obtain rfl : e = 0 := by have : e < 1 := he; omega
  obtain rfl : c = 0 := by have : c < 1 := hc; omega
  exact .of_eq (by rw [← hqv])⟩)
 have hcs : Cvt (.val (.int .u32 (p4.special : Nat))) (.val (.int .u32 (sp : Nat))) := .of_eq (by rw [hsp])
 have hsw := swDigits_lit
 rw [hB] at hsw
 refine go ?_
 refine r_call small13_den ?_
 refine gor ?_
 refine c_lit 1001 [.val (.int .i64 p4.n), .val (.int .u32 p4.prime), .val (.int .i64 p4.power), .fz false 1 1 c4, .val (.int .u32 p4.special), .val (.int .i64 p4.weight), .val (.int .u32 p4.err)] (.cons (.refl _) (.cons (.refl _) (.cons (.refl _) (.cons (.cvt c4_to) (.cons (.refl _) (.cons (.refl _) (.cons (.refl _) .nil))))))) ?_
 refine c_sreg ?_
 refine gor ?_
 refine c_lit 1001 (parL false p4) (.cons (.refl _) (.cons (.refl _) (.cons (.refl _) (.cons (.cvt c4_fro) (.cons (.refl _) (.cons (.refl _) (.cons (.refl _) .nil))))))) ?_
 refine go ?_
 refine r_call (hv := ?_) hsw ?_
 ·refine go ?_
  refine c_no ?_
  refine awp_skip (p_thenN ?_)
  refine c_lit 1001 [.val (.int .i64 p4.n), .val (.int .u32 p4.prime), .val (.int .i64 p4.power), .fz false 1 1 (fun _ => [.val (.int .u32 (qv : Nat))]), .val (.int .u32 (sp : Nat)), .val (.int .i64 p4.weight), .val (.int .u32 p4.err)] (.cons (.refl _) (.cons (.refl _) (.cons (.refl _) (.cons (.cvt hcq) (.cons (.cvt hcs) (.cons (.refl _) (.cons (.refl _) .nil))))))) ?_
  refine go ?_
  refine fin_slot 0 (.val (.bool true)) ?_ ?_
  ·have e : (decide (B (Int.toNat 0) (Int.toNat 0) (Int.toNat 3) = (p4.chain.getD (Int.toNat 0) 0 + 1) / 2) && decide (B (Int.toNat 0) (Int.toNat 1) (Int.toNat 0) = 1) && decide (B (Int.toNat 0) (Int.toNat 1) (Int.toNat 1) = sp - 1) && decide (B (Int.toNat 0) (Int.toNat 1) (Int.toNat 3) = sp - (p4.chain.getD (Int.toNat 0) 0 - 1) / 2)) = true := by
    rw [q0, q2, show Int.toNat 0 = 0 from rfl, show Int.toNat 1 = 1 from rfl, show Int.toNat 3 = 3 from rfl, b1, b2, b3, b4]
    rfl
   exact .eq (by rw [e])
  ·refine fin ?_
   exact cv
 ·refine .cons (.cv (CvV.cvt (CvV.id rfl) c4_par)) (.cons (.cv (CvV.agg (.cons (CvV.id rfl) (.cons (CvV.id rfl) (.cons (CvV.lsl (t := 23) (f := fun _ => [rowA]) rfl (Nat.le_refl _) (fun e he => ⟨rfl, fun c hc => ?_⟩) rfl rfl) .nil))))) .nil)
  obtain rfl : e = 0 := by omega
  obtain rfl : c = 0 := by have : c < 1 := hc; omega
  exact CvV.sl ⟨22, .inl rfl⟩ (Nat.le_refl _) rfl rfl
open Go.RowKit
set_option maxRecDepth 20000
set_option maxHeartbeats 4000000
instance fi56 : FI Tryz.prog 56 Tryz.f56 := ⟨Tryz.func56, Tryz.call56⟩
theorem r14CheckV_den (p : PD) (n lv ex k : Nat) (h : Cv p n lv ex) (hk : k = 2 ∨ k = 3) (A : Nat → Nat → Nat → Nat) (hA : Vc p lv A) : Den Tryz.prog 61 [.agg (parL true p), .agg (ciV true lv ex k n A)] (.val (.int .i64 0)) := by
 have h32 := h.lv.n32
 have l2 := h.lv.l2
 have l24 := h.lv.vp.len2
 have := r14Check_den p h.fit (cgR lv ex k n A) (by show k ≤ _; omega) (fun _ _ => by show n ≤ _; omega) (fun _ => by show lv ≤ _; omega)
 rw [ciOk_V h hk hA] at this
 exact this
open Go.RowKit
set_option maxRecDepth 20000
set_option maxHeartbeats 4000000
end Go.Proofs.YtmjildbdkecolaaGreat
