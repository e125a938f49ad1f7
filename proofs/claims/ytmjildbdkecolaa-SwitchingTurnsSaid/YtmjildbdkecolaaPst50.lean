/- Equal ciphertexts, the program's: by data.
Laws of ciphertexts' parts: plain. No walk.
Valid ciphertexts among any: by data. No walk.
Switching's digits of an element, by data.
The reference's digits of an element; lists of elements that are equal, or large: by data.
Which switching keys are valid, by data.
Which switching keys are valid: both sides.
Which switching keys are valid: the reference.
Which switching keys are valid: the reference's check.
The law on switching's forms, by data: for any digits that are alike on both sides.
Whether some digits are as the document says: by data.
The reference's rescaling, by data: the exponent, fewer primes.
The reference's rescaling, by data: division by the plain prime.
The reference's division by a prime, by data.
The reference's Down, by data.
Rescaling: the reference's results are the program's. Plain.
Equal ciphertexts, the reference's, of equal data: by data.
The law on exponents, by data: for any results that are alike on both sides.
Sums of products of elements: what the program and its reference add is one and the same.
Valid elements among any, with the special prime or without it; lists of them.
Automorphisms of rows, as the reference writes them; digits under them. Plain.
Automorphisms of the reference's ring, by data.
The law on digits under automorphisms: by data. -/
import Derived.Test.YtmjildbdkecolaaPst49
import Derived.Test.YtmjildbdkecolaaPst48
import Derived.Test.YtmjildbdkecolaaPst27
import Derived.Tactics
import Derived.Tactics2
import Derived.StillTactics
import Derived.Laws.Small
import Derived.Laws.StructEq
import Derived.KernelRfl
set_option linter.unusedSimpArgs false
set_option linter.unusedVariables false
set_option linter.unnecessarySimpa false
namespace Go.Proofs.Ytmjildbdkecolaa
open Go.RowKit
set_option maxRecDepth 20000
set_option maxHeartbeats 4000000
open Go.RowKit
section
variable {p : PD} {n lv : Nat}
/-- The polynomial that is a constant. -/
def constX (c : Int) (j : Nat) : Int := if j = 0 then c else 0
end
open Go.RowKit
/-- Data that came in: nothing lies beyond their ends. -/
structure Dflt (c : CG) : Prop where
 k : c.k ≤ 9223372036854775807
 m : ∀ i, (c.P i).m ≤ 9223372036854775807
 l : ∀ i k, (c.P i).ln k ≤ 9223372036854775807
 o1 : ∀ i, c.k ≤ i → (c.P i).m = 0
 o2 : ∀ i k, (c.P i).m ≤ k → (c.P i).ln k = 0
 o3 : ∀ i k j, (c.P i).ln k ≤ j → (c.P i).g k j = 0
theorem Dflt.small {c : CG} (h : Dflt c) (hs : smallC c = true) : c.k ≤ 1000000 ∧ (∀ i, (c.P i).m ≤ 1000000) ∧ ∀ i k, (c.P i).ln k ≤ 1000000 := by
 unfold smallC at hs
 rw [Bool.and_eq_true, decide_eq_true_eq, evry_iff] at hs
 have hm : ∀ i, (c.P i).m ≤ 40 ∧ ∀ k, (c.P i).ln k ≤ 80 := fun i => by
  by_cases q : i < c.k
  ·have := hs.2 i q
   unfold smallE at this
   rw [Bool.and_eq_true, decide_eq_true_eq, evry_iff] at this
   refine ⟨this.1, fun k => ?_⟩
   by_cases q2 : k < (c.P i).m
   ·exact of_decide_eq_true (this.2 k q2)
   ·rw [h.o2 i k (by omega)]; omega
  ·have h0 := h.o1 i (by omega)
   exact ⟨by omega, fun k => by rw [h.o2 i k (by omega)]; omega⟩
 exact ⟨by omega, fun i => by have := (hm i).1; omega, fun i k => by have := (hm i).2 k; omega⟩
/-- A valid element's rows. -/
theorem eOk_rows {p : PD} {e : EG} {n lv : Nat} (hn : p.n = (n : Int)) (hl : e.lv = (lv : Int)) (hs : e.sp = false) (h : eOk p e = true) : e.m = lv ∧ ∀ k, k < lv → e.ln k = n ∧ ∀ j, j < n → e.g k j < modQ p lv k := by
 unfold eOk elOk at h
 rw [hl, hs, Int.toNat_natCast] at h
 rw [Bool.and_eq_true, Bool.and_eq_true, evry_iff, decide_eq_true_eq] at h
 obtain ⟨⟨_, h2⟩, h3⟩ := h
 have hm : e.m = lv := h2
 refine ⟨hm, fun k hk => ?_⟩
 have h4 := h3 k (by omega)
 rw [rowOk_eq hn] at h4
 simp only [Bool.not_eq_true', Bool.or_eq_false_iff, decide_eq_false_iff_not, ne_eq, Decidable.not_not] at h4
 refine ⟨h4.1, fun j hj => ?_⟩
 by_cases q : e.g k j < modQ p lv k
 ·exact q
 ·have := hasI_spec (p := fun j => decide (modQ p lv k ≤ e.g k j)) (n := e.ln k) |>.2 ⟨j, by omega, decide_eq_true (by omega)⟩
  rw [h4.2] at this; cases this
section
variable {p : PD} {n lv : Nat}
end
noncomputable abbrev oneD (n : Nat) (c : Int) : D := .fz true n Try.t2.size (setE (fun _ => valL (Value.int .i64 0).cells.toList) (Int.toNat 0) 0 (D.val (.int .i64 c)).cellL)
noncomputable abbrev twoD (n : Nat) (c d : Int) : D := .fz true n Try.t2.size (setE (setE (fun _ => valL (Value.int .i64 0).cells.toList) (Int.toNat 0) 0 (D.val (.int .i64 c)).cellL) (Int.toNat 0) 0 (D.val (.int .i64 d)).cellL)
theorem one_f (c : Int) : setE (fun _ => valL (Value.int .i64 0).cells.toList) (Int.toNat 0) 0 (D.val (.int .i64 c)).cellL = fun j => [.val (.int .i64 (constX c j))] := by
 funext e
 unfold setE constX
 by_cases q : e = 0
 ·subst q; rfl
 ·rw [if_neg (show ¬ e = Int.toNat 0 from q), if_neg q]; rfl
theorem two_f (c d : Int) : setE (setE (fun _ => valL (Value.int .i64 0).cells.toList) (Int.toNat 0) 0 (D.val (.int .i64 c)).cellL) (Int.toNat 0) 0 (D.val (.int .i64 d)).cellL = fun j => [.val (.int .i64 (constX d j))] := by
 rw [one_f]
 funext e
 unfold setE constX
 by_cases q : e = 0
 ·subst q; rfl
 ·rw [if_neg (show ¬ e = Int.toNat 0 from q)]
  show [D.val (.int .i64 (if e = 0 then c else 0))] = [D.val (.int .i64 (if e = 0 then d else 0))]
  rw [if_neg q, if_neg q]
theorem one_eq (n : Nat) (c : Int) : oneD n c = intsD true n (constX c) := by unfold oneD; rw [one_f]; rfl
theorem two_eq (n : Nat) (c d : Int) : twoD n c d = intsD true n (constX d) := by unfold twoD; rw [two_f]; rfl
instance (n : Nat) (c : Int) : OldD (oneD n c) := by rw [one_eq]; infer_instance
instance (n : Nat) (c d : Int) : OldD (twoD n c d) := by rw [two_eq]; infer_instance
open Go.RowKit
set_option maxRecDepth 20000
set_option maxHeartbeats 4000000
theorem swdigits_den (p : PD) (n lv : Nat) (g : Nat → Nat → Nat) : Den Try.prog 20 [.agg (parL true p), .agg (elL true lv false lv n g)] (.clo 44 [.fptr false (parL true p), .fptr false (elL true lv false lv n g)]) := by
 refine den_intro (fn := Try.f20) rfl rfl rfl rfl rfl ?_
 refine go ?_
 refine fin_frz 1002 ?_
 refine fin_frz 1003 ?_
 refine fin ?_
 exact cv
/-- The digits, as elements. -/
abbrev dgV (p : PD) (lv : Nat) (g : Nat → Nat → Nat) (i k j : Nat) : Nat := resI (balR p lv g i j) (modQ p lv k)
theorem balR_in {p : PD} {n lv : Nat} (h : Lv p n lv) {g : Nat → Nat → Nat} (hv : Vg p lv g) (i j : Nat) : -9223372036854775808 ≤ balR p lv g i j ∧ balR p lv g i j ≤ 9223372036854775807 := by
 have := hv i j
 have := modQ_in h.vp h.sp h.l2 i
 unfold balR balI
 split <;> omega
theorem swDigits_ok (p : PD) (n lv : Nat) (hp : PFit p) (hg : Good p.par) (h : Lv p n lv) (g : Nat → Nat → Nat) (hv : Vg p lv g) : Den Try.prog 8 [.agg (parL true p), .agg (elL true lv false lv n g)] (.tup [.fz false lv 3 (fun i => elL false lv true (lv + 1) n (dgV p lv g i)), .val (.int .i64 0)]) := by
 refine den_intro (fn := Try.f8) rfl rfl rfl rfl rfl ?_
 have l1 := h.l1
 have l2 := h.l2
 have l24 := h.vp.len2
 have h32 := h.n32
 have hgd := goodB_iff.2 hg
 have hpc := pcheck_den p hp
 rw [hgd] at hpc
 refine go ?_
 refine r_call hpc ?_
 refine go ?_
 refine r_eqS 17 (.val (.bool false)) rfl ?_
 refine r_eqS 18 (.agg (parL true p)) rfl ?_
 refine r_eqS 19 (.agg (elL true lv false lv n g)) rfl ?_
 refine go ?_
 refine r_call (rgCheckV_den p n lv false h g hv) ?_
 refine go ?_
 refine c_no ?_
 refine go ?_
 refine r_callO (swdigits_den p n lv g) ?_
 refine go ?_
 refine c_nilcell 1006 0 1941 28 3 (fun i => elL false lv true (lv + 1) n (dgV p lv g i)) ?_
 refine c_range (α := Empty) [1002, 1003, 1004, 1005, 1006] (swdigits1_itr p n lv hp hg h g hv) lv (by simp) (fun k => [digR p n lv g k]) (fun k hk => by simp [hk])
  (fun k => [(106, some (.lit 34 [.sl 1941 3 k])), (1941, some (.arr 28 k 3 (fun i => elL false lv true (lv + 1) n (dgV p lv g i)))), (104, some (.lit 34 [.val (.slice none 0 0)])), (105, some (.lit 30 [.val (.int .i64 0)])), (102, some (.lit 25 (parL true p))), (103, some (.lit 28 (elL true lv false lv n g)))])
  (fun _ => []) (fun _ => False) (fun _ => .ret) (fun _ => True) trivial (fun k l hk _ => ?_) (fun _ => ?_) (fun y => y.elim)
 ·refine go ?_
  refine r_call (rgFromInts_den p n lv true h (fun j => balR p lv g k j) (fun j => balR_in h hv k j)) ?_
  refine go ?_
  refine ⟨trivial, ?_⟩
  refine sub_arr (1000 + 41) (fun i => elL false lv true (lv + 1) n (dgV p lv g i)) (appF_snoc rfl) (fun _ => rfl) ?_
  refine sub_toE (1000 + 41) 1941 ?_
  exact sub
 ·refine go ?_
  refine fin_freeze 1941 ?_
  refine fin ?_
  exact cv
open Go.RowKit
set_option maxRecDepth 20000
set_option maxHeartbeats 4000000
instance fi7 : FI Try.prog 7 Try.f7 := ⟨Try.func7, Try.call7⟩
theorem r09CheckV_den (p : PD) (n lv : Nat) (sp : Bool) (h : Lv p n lv) (g : Nat → Nat → Nat) (hg : Vg p lv g) : Den Try.prog 6 [.agg (parL true p), .agg (elL true lv sp (modN p lv sp) n g)] (.val (.int .i64 0)) := by
 have h32 := h.n32
 have l2 := h.l2
 have l24 := h.vp.len2
 have hM : modN p lv sp ≤ 1000000 := by unfold modN; split <;> omega
 have := r09Check_den0 p h.vp h.sp (lv : Int) sp (modN p lv sp) (fun _ => n) g (fun _ => by show n ≤ _; omega) hM
 rw [elOk_valid h hg] at this
 exact this
/-- A list of elements. -/
structure LG where
 m : Nat
 E : Nat → EG
def smallL (A : LG) : Bool := decide (A.m ≤ 30) && evry (fun i => smallE (A.E i)) A.m
theorem sameE_refl (e : EG) : sameE e e = true := by
 have h1 : sameR e.m e.m e.ln e.ln e.g e.g = true := by
  unfold sameR sameW
  simp [evry_iff]
 unfold sameE
 rw [h1]
 simp
open Go.RowKit
set_option maxRecDepth 20000
set_option maxHeartbeats 4000000
instance ti29 : TI Try.prog 29 Try.t29 Try.t29.desc := ⟨by kernel_rfl, by kernel_rfl⟩
instance sz29 : SZ Try.prog 29 1 := SZ.of ti29 rfl
instance zr29 : ZR Try.prog 29 [.nilFunc] := ZR.of ti29 rfl rfl rfl
theorem bw_and {P : Program} {t : TypeId} {ox oy : Operand} {k : IntKind} {x y : Int} : BinR P .and t ox oy (.int k x) (.int k y) (.int k (bits .and k x y)) := fun w => by
 simp [eqGuard, binOp, Op.intBits, Result.andThen]
 rfl
section
variable {P : Program} {N : Nat} {ops : Array Oper} {rest : List Oper} {env : List (Nat × D)} {box : List (Nat × Option Box)} {done : List Rec} {K : List Rec → List (Nat × D) → List (Nat × Option Box) → Prop} {d : Nat} {ty : TypeId} {pos : String} {aft : Array Edge}
theorem r_bitand {x y : Operand} {t t2 : TypeId} {k : IntKind} {u v : Int} (h : RunK P N ops rest ((d, .val (.int k (bits .and k u v))) :: env) box (done ++ [⟨[], some d, .val (.int k (bits .and k u v)), [], []⟩]) K) (hx : Op1 env x (.val (.int k u)) := by first | (constructor; (repeat constructor); done) | (apply o2; (focus ((repeat constructor); done)); assumption) | (apply o3; (focus ((repeat constructor); done)); assumption; assumption)) (hy : Op1 env y (.val (.int k v)) := by first | (constructor; (repeat constructor); done) | (apply o2; (focus ((repeat constructor); done)); assumption) | (apply o3; (focus ((repeat constructor); done)); assumption; assumption)) (hd : Nat.blt d N = true := by rfl) : RunK P N ops (⟨some d, .binOp .and t x y t2, ty, pos, aft, none⟩ :: rest) env box done K := r_bin hx hy bw_and hd h
end
open Go.RowKit
set_option maxRecDepth 20000
set_option maxHeartbeats 4000000
/-- Lists that are looked at. -/
structure LFit (A : LG) : Prop where
 m : A.m ≤ 1000000
 e : ∀ i, (A.E i).m ≤ 1000000
 l : ∀ i k, (A.E i).ln k ≤ 1000000
open Go.RowKit
set_option maxRecDepth 20000
set_option maxHeartbeats 4000000
section
variable {P : Program} {N : Nat} {ops : Array Oper} {rest : List Oper} {env : List (Nat × D)} {box : List (Nat × Option Box)} {done : List Rec} {K : List Rec → List (Nat × D) → List (Nat × Option Box) → Prop} {d : Nat} {ty : TypeId} {pos : String} {aft : Array Edge}
end
open Go.RowKit
set_option maxRecDepth 20000
set_option maxHeartbeats 4000000
open Go.RowKit
set_option maxRecDepth 20000
set_option maxHeartbeats 4000000
/-- Elements that came in: nothing lies beyond their ends. -/
structure EIn (e : EG) : Prop where
 m : e.m ≤ 9223372036854775807
 l : ∀ k, e.ln k ≤ 9223372036854775807
 o2 : ∀ k, e.m ≤ k → e.ln k = 0
 o3 : ∀ k j, e.ln k ≤ j → e.g k j = 0
structure LIn (A : LG) : Prop where
 m : A.m ≤ 9223372036854775807
 e : ∀ i, EIn (A.E i)
 o : ∀ i, A.m ≤ i → (A.E i).m = 0
theorem EIn.small {e : EG} (h : EIn e) (hs : smallE e = true) : e.m ≤ 1000000 ∧ ∀ k, e.ln k ≤ 1000000 := by
 unfold smallE at hs
 rw [Bool.and_eq_true, decide_eq_true_eq, evry_iff] at hs
 refine ⟨by omega, fun k => ?_⟩
 by_cases q : k < e.m
 ·have := of_decide_eq_true (hs.2 k q); omega
 ·rw [h.o2 k (by omega)]; omega
theorem LIn.small {A : LG} (h : LIn A) (hs : smallL A = true) : LFit A := by
 unfold smallL at hs
 rw [Bool.and_eq_true, decide_eq_true_eq, evry_iff] at hs
 have key : ∀ i, (A.E i).m ≤ 1000000 ∧ ∀ k, (A.E i).ln k ≤ 1000000 := fun i => by
  by_cases q : i < A.m
  ·exact (h.e i).small (hs.2 i q)
  ·have h0 := h.o i (by omega)
   exact ⟨by omega, fun k => by rw [(h.e i).o2 k (by omega)]; omega⟩
 exact ⟨by omega, fun i => (key i).1, fun i => (key i).2⟩
/-- A valid element among any. -/
theorem el_of {p : PD} (hg : Good p.par) {e : EG} (he : EIn e) (hs : e.sp = false) (h : eOk p e = true) : ∃ n lv : Nat, Lv p n lv ∧ Vg p lv e.g ∧ Cvt (.agg (elD true e)) (.agg (elL true lv false lv n e.g)) := by
 obtain ⟨n, hn, n4, n32⟩ := good_n hg
 have hpl : placeB p e.lv e.sp = true := by
  unfold eOk elOk at h
  rw [Bool.and_eq_true, Bool.and_eq_true] at h
  exact h.1.1
 unfold placeB at hpl
 rw [Bool.and_eq_true, Bool.and_eq_true, decide_eq_true_eq, decide_eq_true_eq] at hpl
 obtain ⟨lv, hlv⟩ := Int.eq_ofNat_of_zero_le (show 0 ≤ e.lv by omega)
 have hL : Lv p n lv := ⟨good_VP hg, good_special hg, hn, by omega, by omega⟩
 obtain ⟨hm, hr⟩ := eOk_rows hn hlv hs h
 refine ⟨n, lv, hL, fun r j => ?_, ?_⟩
 ·have h0 := hL.q0 r
  by_cases q2 : r < lv
  ·obtain ⟨h6, h7⟩ := hr r q2
   by_cases q3 : j < n
   ·exact h7 j q3
   ·rw [he.o3 r j (by omega)]; exact h0
  ·rw [he.o3 r j (by rw [he.o2 r (by omega)]; omega)]; exact h0
 ·refine Cvt.agg (.cons (.of_eq (by show D.val (.int .i64 e.lv) = _; rw [hlv])) (.cons (.of_eq (by show D.val (.bool e.sp) = _; rw [hs])) (.cons ?_ .nil)))
  show Cvt (.fz true e.m 1 _) (.fz true lv 1 _)
  rw [hm]
  refine Cvt.fz (.inl rfl) (fun r hr' => ⟨rfl, fun j hj => ?_⟩)
  obtain rfl : j = 0 := by omega
  show Cvt (.fz true (e.ln r) 1 _) (.fz true n 1 _)
  rw [(hr r hr').1]
  exact .of_eq rfl
open Go.RowKit
set_option maxRecDepth 20000
set_option maxHeartbeats 4000000
def c4 : Nat → List D := fun i => [.val (.int .u32 (p4.chain.getD i 0))]
theorem c4_to : Cvt (u32sD false p4.chain) (.fz false 1 1 c4) := .of_eq rfl
theorem c4_fro : Cvt (.fz false 1 1 c4) (u32sD false p4.chain) := .of_eq rfl
/-- A written list of data, seen as frozen. -/
theorem CvV.lsl {L ns : List Nat} {H : Nat → Option Box} {k m len : Nat} {t : TypeId} {ds : List D} {f : Nat → List D} (h : H k = some (.lit t ds)) (hl : len * m ≤ ds.length) (hf : ∀ e, e < len → (f e).length = m ∧ ∀ c, c < m → CvV true L ns H (dl ds (e * m + c)) (dl (f e) c)) (hkL : memB k L = false) (hns : memB k ns = true) : CvV true L ns H (.sl k m len) (.fz true len m f) := fun H1 hH S E a w Z i v hF hL hv => by
 rw [← hH k (memB_spec hns)] at h
 cases hv with
 | @sl _ b _ _ _ cap hib h1 h2 =>
  rcases hF.box k _ h with ⟨b', c', e1, _, _, _, cs, hB, hs, hall⟩ | ⟨e1, _⟩
  ·rw [hib] at e1; cases e1
   have hz := hF.lent hL h rfl hib (memB_no hkL) hB.lt
   have hlt : ∀ {e c : Nat}, e < len → c < m → e * m + c < ds.length := fun {e c} he hc => by
    have : (e + 1) * m ≤ len * m := Nat.mul_le_mul_right _ (by omega)
    rw [Nat.add_mul] at this; omega
   refine .fz _ _ _ len cap.c m f (fun e c => cs.getD (e * m + c) undef) h1 h2 (fun e he => (hf e he).1) (fun e c he hc => ⟨b, 0, rfl, hz, ?_, (hall _ (hlt he hc)).1⟩) (fun e c he hc => (hf e he).2 c hc H1 hH S E a w Z i _ hF hL (hall _ (hlt he hc)).2)
   rw [Nat.zero_add]; exact hB.cell _ (by rw [hs]; exact hlt he hc)
  ·rw [hib] at e1; cases e1
 | sl0 => exact .fz _ _ none 0 0 m f (fun _ _ => undef) (Nat.le_refl _) (by omega) (fun e he => by omega) (fun e c he => by omega) (fun e c he => by omega)
/-- The example's residues. -/
def A18 (k j : Nat) : Nat := if k = 0 then (match j with | 0 => 1 | 1 => 2147481208 | 2 => 0 | 3 => 1073740605 | _ => 0) else 0
theorem A18_vg : Vg p4 1 A18 := fun r j => by
 have h : 2147481208 < modQ p4 1 r := by
  unfold modQ
  split
  ·obtain rfl : r = 0 := by omega
   decide
  ·decide
 unfold A18
 split
 ·split <;> omega
 ·omega
theorem p4_lv : Lv p4 4 1 := ⟨good_VP p4_good, good_special p4_good, p4_n, by omega, by decide⟩
noncomputable abbrev rowA : D := litA Try.t22.size 4 [.val (.int .u32 1), .val (.int .u32 ((p4.chain.getD (Int.toNat 0) 0 - 1 : Nat) : Int)), .val (.int .u32 0), .val (.int .u32 (((p4.chain.getD (Int.toNat 0) 0 + 1) / 2 : Nat) : Int))]
theorem swDigits_lit : Den Try.prog 8 [.agg (parL true p4), .agg [.val (.int .i64 1), .val (.bool false), .fz true 1 Try.t23.size (fun _ => [rowA])]] (.tup [.fz false 1 3 (fun i => elL false 1 true 2 4 (dgV p4 1 A18 i)), .val (.int .i64 0)]) :=
 (swDigits_ok p4 4 1 p4_fit p4_good p4_lv A18 A18_vg).arg (.cons (.of_eq rfl) (.cons (Cvt.agg (.cons (.of_eq rfl) (.cons (.of_eq rfl) (.cons (Cvt.fz (.inl rfl) (fun e he => ⟨rfl, fun c hc => by
  obtain rfl : e = 0 := by omega
  obtain rfl : c = 0 := by have : c < 1 := hc; omega
  exact Cvt.litA (fun e he => by
   match e, he with
   | 0, _ => rfl
   | 1, _ => rfl
   | 2, _ => rfl
   | 3, _ => rfl) (fun _ _ => rfl)⟩)) .nil)))) .nil))
theorem c4_par : Cvt (.agg (parL false p4)) (.agg (parL true p4)) := inferInstance
theorem awake18_den : Den Try.prog 7 [] (.val (.bool true)) := by
 refine den_intro (fn := Try.f7) rfl rfl rfl rfl rfl ?_
 have q0 : p4.chain.getD (Int.toNat 0) 0 = 2147481209 := rfl
 have q1 : p4.special = 2147483249 := rfl
 obtain ⟨B, hB, b1, b2, b3, b4⟩ : ∃ B, dgV p4 1 A18 = B ∧ B 0 0 3 = 1073740605 ∧ B 0 1 0 = 1 ∧ B 0 1 1 = 2147483248 ∧ B 0 1 3 = 1073742645 := ⟨_, rfl, by decide +kernel, by decide +kernel, by decide +kernel, by decide +kernel⟩
 obtain ⟨sp, hsp⟩ : ∃ s, p4.special = s := ⟨_, rfl⟩
 obtain ⟨qv, hqv⟩ : ∃ s, p4.chain.getD 0 0 = s := ⟨_, rfl⟩
 have q2 : sp = 2147483249 := by omega
 have q3 : qv = 2147481209 := by rw [← hqv]; exact q0
 have hcq : Cvt (u32sD false p4.chain) (.fz false 1 1 (fun _ => [.val (.int .u32 (qv : Nat))])) := Cvt.fz (.inl rfl) (fun e he => ⟨rfl, fun c hc => by
  obtain rfl : e = 0 := by have : e < 1 := he; omega
  obtain rfl : c = 0 := by have : c < 1 := hc; omega
  exact .of_eq (by rw [← hqv])⟩)
 have hcs : Cvt (.val (.int .u32 (p4.special : Nat))) (.val (.int .u32 (sp : Nat))) := .of_eq (by rw [hsp])
 have hsw := swDigits_lit
 rw [hB] at hsw
 refine go ?_
 refine r_call small13_den ?_
 refine gor ?_
 refine c_lit 1001 [.val (.int .i64 p4.n), .val (.int .u32 p4.prime), .val (.int .i64 p4.power), .fz false 1 1 c4, .val (.int .u32 p4.special), .val (.int .i64 p4.weight), .val (.int .u32 p4.err)] (.cons (.refl _) (.cons (.refl _) (.cons (.refl _) (.cons (.cvt c4_to) (.cons (.refl _) (.cons (.refl _) (.cons (.refl _) .nil))))))) ?_
 refine c_sreg ?_
 refine gor ?_
 refine c_lit 1001 (parL false p4) (.cons (.refl _) (.cons (.refl _) (.cons (.refl _) (.cons (.cvt c4_fro) (.cons (.refl _) (.cons (.refl _) (.cons (.refl _) .nil))))))) ?_
 refine go ?_
 refine r_call (hv := ?_) hsw ?_
 ·refine go ?_
  refine c_no ?_
  refine awp_skip (p_thenN ?_)
  refine c_lit 1001 [.val (.int .i64 p4.n), .val (.int .u32 p4.prime), .val (.int .i64 p4.power), .fz false 1 1 (fun _ => [.val (.int .u32 (qv : Nat))]), .val (.int .u32 (sp : Nat)), .val (.int .i64 p4.weight), .val (.int .u32 p4.err)] (.cons (.refl _) (.cons (.refl _) (.cons (.refl _) (.cons (.cvt hcq) (.cons (.cvt hcs) (.cons (.refl _) (.cons (.refl _) .nil))))))) ?_
  refine go ?_
  refine fin_slot 0 (.val (.bool true)) ?_ ?_
  ·have e : (decide (B (Int.toNat 0) (Int.toNat 0) (Int.toNat 3) = (p4.chain.getD (Int.toNat 0) 0 + 1) / 2) && decide (B (Int.toNat 0) (Int.toNat 1) (Int.toNat 0) = 1) && decide (B (Int.toNat 0) (Int.toNat 1) (Int.toNat 1) = sp - 1) && decide (B (Int.toNat 0) (Int.toNat 1) (Int.toNat 3) = sp - (p4.chain.getD (Int.toNat 0) 0 - 1) / 2)) = true := by
    rw [q0, q2, show Int.toNat 0 = 0 from rfl, show Int.toNat 1 = 1 from rfl, show Int.toNat 3 = 3 from rfl, b1, b2, b3, b4]
    rfl
   exact .eq (by rw [e])
  ·refine fin ?_
   exact cv
 ·refine .cons (.cv (CvV.cvt (CvV.id rfl) c4_par)) (.cons (.cv (CvV.agg (.cons (CvV.id rfl) (.cons (CvV.id rfl) (.cons (CvV.lsl (t := 23) (f := fun _ => [rowA]) rfl (Nat.le_refl _) (fun e he => ⟨rfl, fun c hc => ?_⟩) rfl rfl) .nil))))) .nil)
  obtain rfl : e = 0 := by omega
  obtain rfl : c = 0 := by have : c < 1 := hc; omega
  exact CvV.sl ⟨22, .inl rfl⟩ (Nat.le_refl _) rfl rfl
open Go.RowKit
set_option maxRecDepth 20000
set_option maxHeartbeats 4000000
open Go.RowKit
set_option maxRecDepth 20000
set_option maxHeartbeats 4000000
open Go.RowKit
set_option maxRecDepth 20000
set_option maxHeartbeats 4000000
open Go.RowKit
set_option maxRecDepth 20000
set_option maxHeartbeats 4000000
open Go.RowKit
open Go.RowKit
set_option maxRecDepth 20000
set_option maxHeartbeats 4000000
open Go.RowKit
set_option maxRecDepth 20000
set_option maxHeartbeats 4000000
open Go.RowKit
set_option maxRecDepth 20000
open Go.RowKit
set_option maxRecDepth 20000
open Go.RowKit
/-- Where coefficient j goes, and with which sign. -/
def auA (n k j : Nat) : Nat := j * k % (2 * n)
def auP (n k j : Nat) : Nat := if auA n k j < n then auA n k j else auA n k j - n
def auW (n k q : Nat) (row : Nat → Nat) (j : Nat) : Nat := if auA n k j < n then row j else (q - row j) % q
/-- The row when j coefficients are written. -/
def auR (n k q : Nat) (row : Nat → Nat) : Nat → Nat → Nat
 | 0 => fun _ => 0
 | j + 1 => fun e => if e = auP n k j then auW n k q row j else auR n k q row j e
theorem auW_lt {n k q : Nat} {row : Nat → Nat} {j : Nat} (hr : row j < q) : auW n k q row j < q := by
 unfold auW
 split
 ·exact hr
 ·exact Nat.mod_lt _ (by omega)
theorem auR_lt {n k q : Nat} {row : Nat → Nat} (hq : 0 < q) (hr : ∀ j, row j < q) (e : Nat) : ∀ j, auR n k q row j e < q
 | 0 => hq
 | j + 1 => by
  unfold auR
  split
  ·exact auW_lt (hr j)
  ·exact auR_lt hq hr e j
theorem auR_next {n k q : Nat} {row : Nat → Nat} {j : Nat} : auR n k q row (j + 1) (auP n k j) = auW n k q row j := by unfold auR; rw [if_pos rfl]
theorem auR_other {n k q : Nat} {row : Nat → Nat} {j e : Nat} (h : e ≠ auP n k j) : auR n k q row (j + 1) e = auR n k q row j e := by
 conv => lhs; unfold auR
 rw [if_neg h]
theorem auP_lo {n k j : Nat} (h : j * k % (2 * n) < n) : auP n k j = j * k % (2 * n) := if_pos h
theorem auP_hi {n k j : Nat} (h : ¬ j * k % (2 * n) < n) : auP n k j = j * k % (2 * n) - n := if_neg h
theorem auR_lo {n k q j v : Nat} {row : Nat → Nat} (h : j * k % (2 * n) < n) (hv : v = row j) : v = auR n k q row (j + 1) (j * k % (2 * n)) := by
 rw [← auP_lo h, auR_next]
 unfold auW auA
 rw [if_pos h]; exact hv
theorem auR_hi {n k q j v : Nat} {row : Nat → Nat} (h : ¬ j * k % (2 * n) < n) (hv : v = (q - row j) % q) : v = auR n k q row (j + 1) (j * k % (2 * n) - n) := by
 rw [← auP_hi h, auR_next]
 unfold auW auA
 rw [if_neg h]; exact hv
/-- What is done to each coefficient by itself goes with it. -/
theorem auR_map {n k q q' : Nat} {row : Nat → Nat} {φ : Nat → Nat} (h0 : φ 0 = 0) (hneg : ∀ j, φ ((q - row j) % q) = (q' - φ (row j)) % q') (e : Nat) : ∀ j, auR n k q' (fun i => φ (row i)) j e = φ (auR n k q row j e)
 | 0 => h0.symm
 | j + 1 => by
  unfold auR
  split
  ·unfold auW
   split
   ·rfl
   ·exact (hneg j).symm
  ·exact auR_map h0 hneg e j
theorem balI_zero {q : Nat} : balI 0 q = 0 := by unfold balI; rw [if_neg (by omega)]; rfl
theorem balI_neg {a q : Nat} (ha : a < q) (hq : q % 2 = 1) : balI ((q - a) % q) q = -balI a q := by
 rcases Nat.eq_zero_or_pos a with h | h
 ·subst h
  rw [Nat.sub_zero, Nat.mod_self, balI_zero]; rfl
 ·rw [Nat.mod_eq_of_lt (by omega)]
  unfold balI
  split <;> split <;> omega
theorem resI_zero {q : Nat} : resI 0 q = 0 := by unfold resI; rw [Int.zero_emod]; rfl
theorem resI_neg {x : Int} {q : Nat} (hq : 0 < q) : resI (-x) q = (q - resI x q) % q := by
 have h1 := resI_cast (x := x) hq
 have h2 := resI_cast (x := -x) hq
 have h3 := resI_lt (x := x) hq
 apply Int.ofNat.inj
 show ((resI (-x) q : Nat) : Int) = (((q - resI x q) % q : Nat) : Int)
 rw [h2, Int.natCast_emod, Int.natCast_sub (by omega), h1]
 have e : (q : Int) - x % (q : Int) = -x + (q : Int) * (1 + x / (q : Int)) := by
  have := Int.emod_add_mul_ediv x (q : Int)
  rw [Int.mul_add]
  omega
 rw [e, Int.add_mul_emod_self_left]
/-- A residue, balanced, by another modulus. -/
def dgF (q q' x : Nat) : Nat := resI (balI x q) q'
theorem dgF_zero {q q' : Nat} : dgF q q' 0 = 0 := by unfold dgF; rw [balI_zero, resI_zero]
theorem dgF_neg {q q' a : Nat} (ha : a < q) (hq : q % 2 = 1) (hq' : 0 < q') : dgF q q' ((q - a) % q) = (q' - dgF q q' a) % q' := by
 unfold dgF
 rw [balI_neg ha hq, resI_neg hq']
theorem dgF_self {q a : Nat} (ha : a < q) : dgF q q a = a := by
 unfold dgF balI resI
 split
 ·have e : ((a : Int) - (q : Int)) % (q : Int) = (a : Int) := by
   rw [Int.sub_emod_right, Int.emod_eq_of_lt (by omega) (by omega)]
  rw [e]; exact Int.toNat_natCast a
 ·rw [Int.emod_eq_of_lt (by omega) (by omega)]; exact Int.toNat_natCast a
open Go.RowKit
instance fi9 : FI Try.prog 9 Try.f9 := ⟨Try.func9, Try.call9⟩
set_option maxRecDepth 20000
set_option maxHeartbeats 4000000
def autV (p : PD) (lv n k : Nat) (g : Nat → Nat → Nat) (r : Nat) : Nat → Nat := auR n k (modQ p lv r) (g r) n
theorem vg_aut {p : PD} {n lv : Nat} (h : Lv p n lv) (k : Nat) {g : Nat → Nat → Nat} (hg : Vg p lv g) : Vg p lv (autV p lv n k g) := fun r j => auR_lt (h.q0 r) (hg r) j n
theorem r09Auto_den (p : PD) (n lv : Nat) (sp : Bool) (h : Lv p n lv) (k : Nat) (hk1 : 1 ≤ k) (hk2 : k < 2 * n) (hk3 : k % 2 = 1) (g : Nat → Nat → Nat) (hg : Vg p lv g) :
  Den Try.prog 9 [.agg (parL true p), .agg (elL true lv sp (modN p lv sp) n g), .val (.int .i64 (k : Int))] (.tup [.agg (elL false lv sp (modN p lv sp) n (autV p lv n k g)), .val (.int .i64 0)]) := by
 refine den_intro (fn := Try.f9) rfl rfl rfl rfl rfl ?_
 have hN : NatIs p.n n := h.n
 have h32 := h.n32
 have h4 := h.n4
 have l2 := h.l2
 have l24 := h.vp.len2
 have hm := modQ_in h.vp h.sp h.l2
 have hM : modN p lv sp ≤ 1001 := by unfold modN; split <;> omega
 have hck := r09Check_den0 p h.vp h.sp (lv : Int) sp (modN p lv sp) (fun _ => n) g (fun _ => by omega) (by omega)
 rw [elOk_valid (sp := sp) h hg] at hck
 have hmod := r09Moduli_den p lv sp h.l2 (by omega)
 have hV : ∀ r, auR n k (modQ p lv r) (g r) n = autV p lv n k g r := fun _ => rfl
 obtain ⟨V, hVV⟩ : ∃ V, autV p lv n k g = V := ⟨_, rfl⟩
 rw [hVV] at hV ⊢
 obtain ⟨M, hMM⟩ : ∃ M, M = modN p lv sp := ⟨_, rfl⟩
 rw [← hMM] at hM hmod hck ⊢
 refine go ?_
 refine r_call hck ?_
 refine go ?_
 refine c_ifB (fun q => ?_) (fun q => ?_)
 ·exfalso
  simp at q
  omega
 clear q
 refine go ?_
 refine r_call hmod ?_
 refine go ?_
 refine c_nilcellM 1008 2 1900 23 22 1 n (fun k j => [.val (.int .u32 ((V k j : Nat) : Int))]) ?_
 refine c_up M (fun i => [(10, .val (.int .i64 (i : Nat)))]) (fun i => [(1008, some (.lit 28 [.val (.int .i64 (lv : Int)), .val (.bool sp), .sl 1900 1 i])), (1900, some (.mat 23 22 i i 1 n (fun k j => [.val (.int .u32 ((V k j : Nat) : Int))])))]) (fun i hi => ?_)
 refine go ?_
 have hq := hm i
 refine c_if (fun h3 => ?_) (fun h3 => ?_)
 ·refine go ?_
  refine c_arr (1000 + 55) (fun e => [.val (.int .u32 ((auR n k (modQ p lv i) (g i) 0 e : Nat) : Int))]) (fun e he => rfl) (fun _ => rfl) ?_
  refine c_up n (fun j => [(12, .val (.int .i64 (j : Nat)))]) (fun j => [(1055, some (rowB n (auR n k (modQ p lv i) (g i) j)))]) (fun j hj => ?_)
  have hgj := hg i j
  have hjk : j * k ≤ 32 * 64 := Nat.mul_le_mul (by omega) (by omega)
  have hat : j * k % (2 * n) < 2 * n := Nat.mod_lt _ (by omega)
  refine go ?_
  refine c_if (fun h5 => ?_) (fun h5 => ?_)
  ·refine go ?_
   refine c_if (fun h6 => ?_) (fun h6 => ?_)
   ·refine go ?_
    refine ⟨h5, ?_⟩
    refine row_put 1055 (auR n k (modQ p lv i) (g i) (j + 1)) (auR_lo h6 rfl) (fun e _ he => auR_other (by rw [auP_lo h6]; exact he)) ?_
    exact sub
   ·refine go ?_
    refine ⟨h5, ?_⟩
    refine row_put 1055 (auR n k (modQ p lv i) (g i) (j + 1)) (auR_hi h6 rfl) (fun e _ he => auR_other (by rw [auP_hi h6]; exact he)) ?_
    exact sub
  ·obtain rfl : j = n := by omega
   refine go ?_
   refine ⟨h3, ?_⟩
   refine sub_mat (1000 + 112) (fun k j => [.val (.int .u32 ((V k j : Nat) : Int))]) (putG_snoc (fun x _ => by show [D.val (.int .u32 ((auR j k (modQ p lv i) (g i) j x : Nat) : Int))] = [D.val (.int .u32 ((V i x : Nat) : Int))]; rw [hV])) (fun _ _ => rfl) ?_
   refine sub_toL [109] (1000 + 112) 1900 ?_
   exact sub
 ·obtain rfl : i = M := by omega
  refine go ?_
  refine fin_freezeM 1900 ?_
  refine fin ?_
  exact cv
open Go.RowKit
instance fi3 : FI Try.prog 3 Try.f3 := ⟨Try.func3, Try.call3⟩
set_option maxRecDepth 20000
set_option maxHeartbeats 4000000
theorem mask_i64 (k : Int) {n : Nat} (hn : n = 4 ∨ n = 8 ∨ n = 16 ∨ n = 32) : ∃ m : Nat, m < n ∧ bits .and .i64 k ((n - 1 : Nat) : Int) = (m : Int) := by
 have key : ∀ s : Nat, s ≤ 5 → ∃ m : Nat, m < 2 ^ s ∧ bits .and .i64 k ((2 ^ s - 1 : Nat) : Int) = (m : Int) := fun s hs => by
  refine ⟨(BitVec.ofInt 64 k).toNat % 2 ^ s, Nat.mod_lt _ (Nat.two_pow_pos s), ?_⟩
  have h32 : 2 ^ s ≤ 32 := Nat.pow_le_pow_right (by omega) hs
  show IntKind.i64.wrap ((BitVec.ofInt 64 k &&& BitVec.ofInt 64 ((2 ^ s - 1 : Nat) : Int)).toNat : Int) = _
  rw [BitVec.toNat_and, ofInt_u64 (2 ^ s - 1) (by omega), Nat.and_two_pow_sub_one_eq_mod]
  have := Nat.mod_lt (BitVec.ofInt 64 k).toNat (Nat.two_pow_pos s)
  exact wrap_in (by show _ ∧ _; omega)
 rcases hn with rfl | rfl | rfl | rfl
 ·exact key 2 (by omega)
 ·exact key 3 (by omega)
 ·exact key 4 (by omega)
 ·exact key 5 (by omega)
/-- Digits under an automorphism. -/
theorem dg_aut {p : PD} {n lv : Nat} (h : Lv p n lv) {g : Nat → Nat → Nat} (hv : Vg p lv g) (k j r e : Nat) : autV p lv n k (dgV p lv g j) r e = dgV p lv (autV p lv n k g) j r e := by
 have hj := modQ_in h.vp h.sp h.l2 j
 have hr := modQ_in h.vp h.sp h.l2 r
 show auR n k (modQ p lv r) (fun i => dgF (modQ p lv j) (modQ p lv r) (g j i)) n e = dgF (modQ p lv j) (modQ p lv r) (auR n k (modQ p lv j) (g j) n e)
 exact auR_map (q := modQ p lv j) dgF_zero (fun i => dgF_neg (hv j i) (by omega) (by omega)) e n
theorem dg_self {p : PD} {n lv : Nat} (h : Lv p n lv) {g : Nat → Nat → Nat} (hv : Vg p lv g) (j i : Nat) : dgV p lv g j j i = g j i := dgF_self (hv j i)
theorem tu_g {s g : Bool} (h : ((!s || decide (errI g ≠ 0)) == false) = true) : s = true ∧ g = true := by
 cases s <;> cases g <;> simp_all [errI]
theorem tu_all {s g e x : Bool} (h : (!s || decide (errI g ≠ 0) || decide (errI e ≠ 0) || x) = false) : s = true ∧ g = true ∧ e = true ∧ x = false := by
 cases s <;> cases g <;> cases e <;> cases x <;> simp_all [errI]
theorem swTurns_bad (p : PD) (hp : PFit p) (e : EG) (he : EIn e) (k : Int) (haw : Den Try.prog 7 [] (.val (.bool true))) (h : (smallE e && (goodB p && (!e.sp && eOk p e))) = false) : Den Try.prog 3 [.agg (parL true p), .agg (elD true e), .val (.int .i64 k)] (.val (.bool true)) := by
 refine den_intro (fn := Try.f3) rfl rfl rfl rfl rfl ?_
 refine go ?_
 refine r_call (large13_den e he.m he.l) ?_
 refine go ?_
 refine g_callM (hl := fun hb => r_call (r12check_den p hp) (run_fin rfl)) (h := ?_)
 refine go ?_
 refine g_callM (hl := fun hb => r_call (r09Check_den p (good_VP (goodB_iff.1 (tu_g hb).2)) (good_special (goodB_iff.1 (tu_g hb).2)) e (he.small (tu_g hb).1).2 (he.small (tu_g hb).1).1) (run_fin rfl)) (h := ?_)
 refine go ?_
 refine c_ifB (fun q => ?_) (fun q => ?_)
 ·refine go ?_
  refine r_call haw ?_
  refine go ?_
  refine fin ?_
  exact cv
 ·exfalso
  obtain ⟨q1, q2, q3, q4⟩ := tu_all q
  rw [q1, q2, q3, q4] at h
  cases h
theorem swTurns_ok (p : PD) (n lv : Nat) (hp : PFit p) (hg : Good p.par) (h : Lv p n lv) (g : Nat → Nat → Nat) (hv : Vg p lv g) (k : Int) (haw : Den Try.prog 7 [] (.val (.bool true))) : Den Try.prog 3 [.agg (parL true p), .agg (elL true lv false lv n g), .val (.int .i64 k)] (.val (.bool true)) := by
 refine den_intro (fn := Try.f3) rfl rfl rfl rfl rfl ?_
 have hN : NatIs p.n n := h.n
 have h32 := h.n32
 have h4 := h.n4
 have l1 := h.l1
 have l2 := h.l2
 have l24 := h.vp.len2
 obtain ⟨m, hm, hk⟩ := mask_i64 k (n := n) (by have := h.vp.n; have := h.n; omega)
 have hla : Den Try.prog 4 [.agg (elL true lv false lv n g)] (.val (.bool false)) := by
  have := large13_den ⟨lv, false, lv, fun _ => n, g⟩ (by show lv ≤ _; omega) (fun _ => by show n ≤ _; omega)
  rw [show smallE ⟨lv, false, lv, fun _ => n, g⟩ = true by
   unfold smallE
   rw [Bool.and_eq_true, decide_eq_true_eq, evry_iff]
   exact ⟨by show lv ≤ _; omega, fun _ _ => decide_eq_true (by show n ≤ _; omega)⟩] at this
  exact this
 have hpc : Den Try.prog 5 [.agg (parL true p)] (.val (.int .i64 0)) := by
  have := r12check_den p hp
  rw [goodB_iff.2 hg] at this
  exact this
 have hck : Den Try.prog 6 [.agg (parL true p), .agg (elL true lv false lv n g)] (.val (.int .i64 0)) := r09CheckV_den p n lv false h g hv
 have d1 := swDigits_ok p n lv hp hg h g hv
 have a1 : Den Try.prog 9 [.agg (parL true p), .agg (elL true lv false lv n g), .val (.int .i64 ((1 + 2 * m : Nat) : Int))] (.tup [.agg (elL false lv false lv n (autV p lv n (1 + 2 * m) g)), .val (.int .i64 0)]) := r09Auto_den p n lv false h (1 + 2 * m) (by omega) (by omega) (by omega) g hv
 have d2 := swDigits_ok p n lv hp hg h (autV p lv n (1 + 2 * m) g) (vg_aut h _ hv)
 have a2 : ∀ j, Den Try.prog 9 [.agg (parL true p), .agg (elL true lv true (lv + 1) n (dgV p lv g j)), .val (.int .i64 ((1 + 2 * m : Nat) : Int))] (.tup [.agg (elL false lv true (lv + 1) n (dgV p lv (autV p lv n (1 + 2 * m) g) j)), .val (.int .i64 0)]) := fun j => by
  have := r09Auto_den p n lv true h (1 + 2 * m) (by omega) (by omega) (by omega) (dgV p lv g j) (fun r i => resI_lt (h.q0 r))
  rw [show autV p lv n (1 + 2 * m) (dgV p lv g j) = dgV p lv (autV p lv n (1 + 2 * m) g) j from funext fun r => funext fun e => dg_aut h hv (1 + 2 * m) j r e] at this
  exact this
 have hs : ∀ j i, dgV p lv g j j i = g j i := dg_self h hv
 have hsm : ∀ (X : Nat → Nat → Nat), Den Try.prog 10 [.agg (elL true lv true (lv + 1) n X), .agg (elL true lv true (lv + 1) n X)] (.val (.bool true)) := fun X => by
  have := r09Same_den ⟨lv, true, lv + 1, fun _ => n, X⟩ ⟨lv, true, lv + 1, fun _ => n, X⟩ (by show lv + 1 ≤ _; omega) (by show lv + 1 ≤ _; omega) (fun _ => by show n ≤ _; omega) (fun _ => by show n ≤ _; omega)
  rw [sameE_refl] at this
  exact this
 generalize dgV p lv (autV p lv n (1 + 2 * m) g) = D2 at *
 generalize autV p lv n (1 + 2 * m) g = T at *
 generalize dgV p lv g = D1 at *
 refine go ?_
 refine r_call hla ?_
 refine go ?_
 refine r_call hpc ?_
 refine go ?_
 refine g_callM (hl := fun hb => r_call hck (run_fin rfl)) (h := ?_)
 refine go ?_
 refine c_ifB (fun q => ?_) (fun q => ?_)
 ·exfalso
  simp at q
 clear q
 refine go ?_
 refine r_bitand ?_
 refine r_eqS 39 (.val (.int .i64 ((m : Nat) : Int))) (d := .val (.int .i64 (bits .and .i64 k ((n - 1 : Nat) : Int)))) (by rw [hk]) ?_
 refine go ?_
 refine r_call d1 ?_
 refine go ?_
 refine r_call a1 ?_
 refine go ?_
 refine r_call d2 ?_
 refine go ?_
 refine c_ifB (fun q => ?_) (fun q => ?_)
 ·exfalso
  simp at q
 clear q
 refine go ?_
 refine c_up lv (fun j => [(13, .val (.int .i64 (j : Nat)))]) (fun _ => []) (fun j hj => ?_)
 refine go ?_
 refine c_if (fun h3 => ?_) (fun h3 => ?_)
 ·refine go ?_
  refine r_call (a2 j) ?_
  refine go ?_
  refine g_callM (hl := fun hb => r_call (hsm (D2 j)) (run_fin rfl)) (h := ?_)
  refine go ?_
  refine c_ifB (fun q => ?_) (fun q => ?_)
  ·exfalso
   simp at q
  clear q
  refine go ?_
  refine c_up n (fun i => [(16, .val (.int .i64 (i : Nat)))]) (fun _ => []) (fun i hi => ?_)
  refine go ?_
  refine c_if (fun h5 => ?_) (fun h5 => ?_)
  ·refine go ?_
   refine c_if (fun q => ?_) (fun q => ?_)
   ·exact absurd (hs j i) q
   clear q
   refine go ?_
   refine ⟨h5, ?_⟩
   exact sub
  ·refine go ?_
   refine ⟨h3, ?_⟩
   exact sub
 ·refine go ?_
  refine r_call haw ?_
  refine go ?_
  refine fin ?_
  exact cv
theorem swTurns_den (p : PD) (hp : PFit p) (e : EG) (he : EIn e) (k : Int) (haw : Den Try.prog 7 [] (.val (.bool true))) : Den Try.prog 3 [.agg (parL true p), .agg (elD true e), .val (.int .i64 k)] (.val (.bool true)) := by
 cases q : (smallE e && (goodB p && (!e.sp && eOk p e))) with
 | false => exact swTurns_bad p hp e he k haw q
 | true =>
  simp only [Bool.and_eq_true, Bool.not_eq_true'] at q
  obtain ⟨q0, q1, q2, q3⟩ := q
  have hg := goodB_iff.1 q1
  obtain ⟨n, lv, hL, hv, hcv⟩ := el_of hg he q2 q3
  exact (swTurns_ok p n lv hp hg hL e.g hv k haw).arg (.cons (.of_eq rfl) (.cons hcv (.cons (.of_eq rfl) .nil)))
end Go.Proofs.Ytmjildbdkecolaa
