/- Laws of ciphertexts' parts: plain. No walk.
Valid ciphertexts among any: by data. No walk. -/
import Derived.Test.YtefoddjclngckaaGreatPrd45
import Derived.Test.YtefoddjclngckaaGreatPrd44
set_option linter.unusedSimpArgs false
set_option linter.unusedVariables false
set_option linter.unnecessarySimpa false
namespace Go.Proofs.YtefoddjclngckaaGreat
open Go.RowKit
section
variable {p : PD} {n lv : Nat}
theorem addV_comm (A B : Nat → Nat → Nat) : addV p lv A B = addV p lv B A := by
  funext r j; unfold addV; rw [Nat.add_comm]
theorem addV_assoc (A B C : Nat → Nat → Nat) : addV p lv (addV p lv A B) C = addV p lv A (addV p lv B C) := by
  funext r j; unfold addV; rw [Nat.mod_add_mod, Nat.add_mod_mod, Nat.add_assoc]
theorem subV_eq (h : Lv p n lv) (A : Nat → Nat → Nat) {B : Nat → Nat → Nat} (hB : Vg p lv B) : subV p lv A B = addV p lv A (mulIntV p lv (-1) B) := by
  funext r j; unfold subV addV mulIntV
  have h1 := hB r j
  have h2 := h.q0 r
  rw [resI_m1 h2, neg_mod h2 h1, Nat.add_mod_mod, Nat.add_sub_assoc (by omega)]
theorem negV_negV (h : Lv p n lv) {B : Nat → Nat → Nat} (hB : Vg p lv B) : mulIntV p lv (-1) (mulIntV p lv (-1) B) = B := by
  funext r j; unfold mulIntV
  have h1 := hB r j
  have h2 := h.q0 r
  rw [resI_m1 h2, neg_mod h2 (Nat.mod_lt _ h2), neg_mod h2 h1]
  by_cases q : B r j = 0
  · rw [q, Nat.sub_zero, Nat.mod_self, Nat.sub_zero, Nat.mod_self]
  · rw [Nat.mod_eq_of_lt (show modQ p lv r - B r j < modQ p lv r by omega), show modQ p lv r - (modQ p lv r - B r j) = B r j by omega, Nat.mod_eq_of_lt h1]
theorem mulInt1 (h : Lv p n lv) {B : Nat → Nat → Nat} (hB : Vg p lv B) : mulIntV p lv 1 B = B := by
  funext r j; unfold mulIntV
  have h1 := hB r j
  have h2 := modQ_in h.vp h.sp h.l2 r
  rw [show (1 : Int) = ((1 : Nat) : Int) from rfl, resI_nat (by omega), Nat.mul_one, Nat.mod_eq_of_lt h1]
theorem intV_zero : intV p lv (fun _ => 0) = fun _ _ => 0 := by
  funext r j; unfold intV; exact resI_0 _
theorem addV_zero {A : Nat → Nat → Nat} (hA : Vg p lv A) : addV p lv A (fun _ _ => 0) = A := by
  funext r j; unfold addV; rw [Nat.add_zero, Nat.mod_eq_of_lt (hA r j)]
theorem addPlain_zero (h : Lv p n lv) {A : Nat → Nat → Nat → Nat} (hA : Vc p lv A) (i : Nat) : addPlainV p lv (fun _ => 0) A i = A i := by
  unfold addPlainV
  split
  · rename_i e; subst e; rw [intV_zero, addV_zero (hA 0)]
  · exact mulInt1 h (hA i)
theorem subV_self (A : Nat → Nat → Nat) (hA : Vg p lv A) : subV p lv A A = fun _ _ => 0 := by
  funext r j; unfold subV
  have := hA r j
  rw [show A r j + modQ p lv r - A r j = modQ p lv r by omega, Nat.mod_self]
/-- The polynomial that is a constant. -/
def constX (c : Int) (j : Nat) : Int := if j = 0 then c else 0
theorem mulV_const (h : Lv p n lv) (A : Nat → Nat → Nat) (c : Int) {r j : Nat} (hj : j < n) : mulV p lv n A (intV p lv (constX c)) r j = mulIntV p lv c A r j := by
  unfold mulV mulIntV
  exact mulR_const (A r) (intV p lv (constX c) r) (h.q0 r) hj rfl (fun i hi _ => by unfold intV constX; rw [if_neg (by omega)]; exact resI_0 _)
theorem mulV_zero (h : Lv p n lv) (A : Nat → Nat → Nat) {r j : Nat} (hj : j < n) : mulV p lv n A (fun _ _ => 0) r j = 0 := mulR_zero (A r) (fun _ => 0) (h.q0 r) hj (fun _ _ => rfl)
theorem mulV_comm (h : Lv p n lv) (A B : Nat → Nat → Nat) {r j : Nat} (hj : j < n) : mulV p lv n A B r j = mulV p lv n B A r j := mulR_comm (A r) (B r) (h.q0 r) hj
theorem tensV_comm (h : Lv p n lv) (A B : Nat → Nat → Nat → Nat) (i : Nat) {r j : Nat} (hj : j < n) : tensV p lv n A B i r j = tensV p lv n B A i r j := by
  unfold tensV
  split
  · unfold addV
    rw [mulV_comm h (A 0) (B 1) hj, mulV_comm h (A 1) (B 0) hj, Nat.add_comm]
  · exact mulV_comm h _ _ hj
/-- What a ciphertext without a key holds. -/
def trivV (p : PD) (lv : Nat) (x : Nat → Int) (i : Nat) : Nat → Nat → Nat := if i = 0 then intV p lv x else fun _ _ => 0
theorem tens_triv (h : Lv p n lv) (A : Nat → Nat → Nat → Nat) (x : Nat → Int) {i r j : Nat} (hi : i < 3) (hj : j < n) : tensV p lv n A (trivV p lv x) i r j = if i < 2 then mulV p lv n (A i) (intV p lv x) r j else 0 := by
  unfold tensV
  obtain rfl | rfl | rfl : i = 0 ∨ i = 1 ∨ i = 2 := by omega
  · rfl
  · show addV p lv (mulV p lv n (A 0) (fun _ _ => 0)) (mulV p lv n (A 1) (intV p lv x)) r j = mulV p lv n (A 1) (intV p lv x) r j
    unfold addV
    rw [mulV_zero h (A 0) hj, Nat.zero_add, Nat.mod_eq_of_lt (vg_mul h _ _ r j)]
  · show mulV p lv n (A 1) (fun _ _ => 0) r j = 0
    exact mulV_zero h (A 1) hj
end
/-- Equal ciphertexts, by their parts. -/
abbrev cgV (lv ex k n : Nat) (G : Nat → Nat → Nat → Nat) : CG := ⟨lv, ex, k, fun i => ⟨lv, false, lv, fun _ => n, G i⟩⟩
theorem sameC_V {lv ex k n : Nat} {A B : Nat → Nat → Nat → Nat} (h : ∀ i, i < k → ∀ r, r < lv → ∀ j, j < n → A i r j = B i r j) : sameC (cgV lv ex k n A) (cgV lv ex k n B) = true := by
  unfold sameC
  rw [(evry_iff (f := fun i => sameE ((cgV lv ex k n A).P i) ((cgV lv ex k n B).P i))).2 (fun i hi => ?_)]
  · simp
  · unfold sameE
    simp only [decide_true, beq_self_eq_true, Bool.true_and]
    exact sameR_3 (fun r hr => sameW_3 (fun j hj => h i hi r hr j hj))
theorem ciSameV_den (lv ex k n : Nat) (hlv : lv ≤ 1000) (hk : k ≤ 3) (hn : n ≤ 32) (A B : Nat → Nat → Nat → Nat) (h : ∀ i, i < k → ∀ r, r < lv → ∀ j, j < n → A i r j = B i r j) : Den Tryz.prog 41 [.agg (ciV true lv ex k n A), .agg (ciV true lv ex k n B)] (.val (.bool true)) := by
  have := ciSame_den (cgV lv ex k n A) (cgV lv ex k n B) (by show k ≤ _; omega) (by show k ≤ _; omega) (fun _ => by show lv ≤ _; omega) (fun _ => by show lv ≤ _; omega) (fun _ _ => by show n ≤ _; omega) (fun _ _ => by show n ≤ _; omega)
  rw [sameC_V h] at this
  exact this
end Go.Proofs.YtefoddjclngckaaGreat

namespace Go.Proofs.YtefoddjclngckaaGreat
open Go.RowKit
/-- Data that came in: nothing lies beyond their ends. -/
structure Dflt (c : CG) : Prop where
  k : c.k ≤ 9223372036854775807
  m : ∀ i, (c.P i).m ≤ 9223372036854775807
  l : ∀ i k, (c.P i).ln k ≤ 9223372036854775807
  o1 : ∀ i, c.k ≤ i → (c.P i).m = 0
  o2 : ∀ i k, (c.P i).m ≤ k → (c.P i).ln k = 0
  o3 : ∀ i k j, (c.P i).ln k ≤ j → (c.P i).g k j = 0
theorem Dflt.small {c : CG} (h : Dflt c) (hs : smallC c = true) : c.k ≤ 1000000 ∧ (∀ i, (c.P i).m ≤ 1000000) ∧ ∀ i k, (c.P i).ln k ≤ 1000000 := by
  unfold smallC at hs
  rw [Bool.and_eq_true, decide_eq_true_eq, evry_iff] at hs
  have hm : ∀ i, (c.P i).m ≤ 40 ∧ ∀ k, (c.P i).ln k ≤ 80 := fun i => by
    by_cases q : i < c.k
    · have := hs.2 i q
      unfold smallE at this
      rw [Bool.and_eq_true, decide_eq_true_eq, evry_iff] at this
      refine ⟨this.1, fun k => ?_⟩
      by_cases q2 : k < (c.P i).m
      · exact of_decide_eq_true (this.2 k q2)
      · rw [h.o2 i k (by omega)]; omega
    · have h0 := h.o1 i (by omega)
      exact ⟨by omega, fun k => by rw [h.o2 i k (by omega)]; omega⟩
  exact ⟨by omega, fun i => by have := (hm i).1; omega, fun i k => by have := (hm i).2 k; omega⟩
theorem ciOk_st {p : PD} {c : CG} (h : ciOk p c = true) : St p c.lv c.ex := by
  unfold ciOk at h
  rw [Bool.and_eq_true, Bool.and_eq_true] at h
  exact stB_iff.1 h.1.1
theorem ciOk_part {p : PD} {c : CG} (h : ciOk p c = true) {i : Nat} (hi : i < c.k) : (c.P i).lv = c.lv ∧ (c.P i).sp = false ∧ eOk p (c.P i) = true := by
  unfold ciOk at h
  rw [Bool.and_eq_true, evry_iff] at h
  have := h.2 i hi
  unfold partOk at this
  simp only [Bool.not_eq_true', Bool.or_eq_false_iff, decide_eq_false_iff_not, ne_eq, Decidable.not_not] at this
  refine ⟨this.1.1, this.1.2, ?_⟩
  cases q : eOk p (c.P i) with
  | true => rfl
  | false => rw [q] at this; exact absurd this.2 (by decide)
/-- A valid element's rows. -/
theorem eOk_rows {p : PD} {e : EG} {n lv : Nat} (hn : p.n = (n : Int)) (hl : e.lv = (lv : Int)) (hs : e.sp = false) (h : eOk p e = true) : e.m = lv ∧ ∀ k, k < lv → e.ln k = n ∧ ∀ j, j < n → e.g k j < modQ p lv k := by
  unfold eOk elOk at h
  rw [hl, hs, Int.toNat_natCast] at h
  rw [Bool.and_eq_true, Bool.and_eq_true, evry_iff, decide_eq_true_eq] at h
  obtain ⟨⟨_, h2⟩, h3⟩ := h
  have hm : e.m = lv := h2
  refine ⟨hm, fun k hk => ?_⟩
  have h4 := h3 k (by omega)
  rw [rowOk_eq hn] at h4
  simp only [Bool.not_eq_true', Bool.or_eq_false_iff, decide_eq_false_iff_not, ne_eq, Decidable.not_not] at h4
  refine ⟨h4.1, fun j hj => ?_⟩
  by_cases q : e.g k j < modQ p lv k
  · exact q
  · have := hasI_spec (p := fun j => decide (modQ p lv k ≤ e.g k j)) (n := e.ln k) |>.2 ⟨j, by omega, decide_eq_true (by omega)⟩
    rw [h4.2] at this; cases this
def partG (c : CG) (i r j : Nat) : Nat := (c.P i).g r j
theorem ci_vc {p : PD} {c : CG} {n lv : Nat} (hd : Dflt c) (hn : p.n = (n : Int)) (hl : c.lv = (lv : Int)) (hL : Lv p n lv) (h : ciOk p c = true) : Vc p lv (partG c) := fun i r j => by
  unfold partG
  have h0 := hL.q0 r
  by_cases q : i < c.k
  · obtain ⟨h1, h2, h3⟩ := ciOk_part h q
    obtain ⟨h4, h5⟩ := eOk_rows hn (h1.trans hl) h2 h3
    by_cases q2 : r < lv
    · obtain ⟨h6, h7⟩ := h5 r q2
      by_cases q3 : j < n
      · exact h7 j q3
      · rw [hd.o3 i r j (by omega)]; exact h0
    · rw [hd.o3 i r j (by rw [hd.o2 i r (by omega)]; omega)]; exact h0
  · rw [hd.o3 i r j (by rw [hd.o2 i r (by rw [hd.o1 i (by omega)]; omega)]; omega)]; exact h0
theorem ci_cvt {p : PD} {c : CG} {n lv k : Nat} (hn : p.n = (n : Int)) (hl : c.lv = (lv : Int)) (hk : c.k = k) (h : ciOk p c = true) : Cvt (.fz true c.k 3 (fun i => elD true (c.P i))) (.fz true k 3 (fun i => elL true lv false lv n (partG c i))) := by
  subst hk
  refine Cvt.fz (.inl rfl) (fun i hi => ⟨rfl, fun j hj => ?_⟩)
  obtain ⟨h1, h2, h3⟩ := ciOk_part h hi
  obtain ⟨h4, h5⟩ := eOk_rows hn (h1.trans hl) h2 h3
  match j, hj with
  | 0, _ => exact .of_eq (by show D.val (.int .i64 (c.P i).lv) = _; rw [h1, hl]; rfl)
  | 1, _ => exact .of_eq (by show D.val (.bool (c.P i).sp) = _; rw [h2]; rfl)
  | 2, _ =>
    show Cvt (.fz true (c.P i).m 1 _) (.fz true lv 1 _)
    rw [h4]
    refine Cvt.fz (.inl rfl) (fun r hr => ⟨rfl, fun j hj => ?_⟩)
    obtain rfl : j = 0 := by omega
    show Cvt (.fz true ((c.P i).ln r) 1 _) (.fz true n 1 _)
    rw [(h5 r hr).1]
    exact .of_eq rfl
/-- Valid ciphertexts of a level and an exponent. -/
noncomputable def lawV (p : PD) (c0 c : CG) : Bool := !(!smallC c || decide (errI (ciOk p c) ≠ 0) || decide (c.lv ≠ c0.lv) || decide (c.ex ≠ c0.ex) || decide (c.k ≠ 2))
theorem lawV_iff {p : PD} {c0 c : CG} : lawV p c0 c = true ↔ (smallC c = true ∧ ciOk p c = true ∧ c.lv = c0.lv ∧ c.ex = c0.ex ∧ c.k = 2) := by
  unfold lawV
  simp only [Bool.not_eq_true', Bool.or_eq_false_iff, decide_eq_false_iff_not, ne_eq, Decidable.not_not, Bool.not_eq_false']
  constructor
  · rintro ⟨⟨⟨⟨a, b⟩, c⟩, d⟩, e⟩
    refine ⟨a, ?_, c, d, e⟩
    cases q : ciOk p _ with
    | true => rfl
    | false => rw [q] at b; exact absurd b (by decide)
  · rintro ⟨a, b, c, d, e⟩
    exact ⟨⟨⟨⟨a, by rw [b]; rfl⟩, c⟩, d⟩, e⟩
theorem le200_of {m : Nat} (h : (decide (200 < m) == false) = true) : m ≤ 1000000 := by
  by_cases q : 200 < m
  · rw [decide_eq_true q] at h; cases h
  · omega
theorem pl_of {m : Nat} {b : Bool} (h : (decide (200 < m) || !b) = false) : m ≤ 200 ∧ b = true := by
  simp only [Bool.or_eq_false_iff, decide_eq_false_iff_not, Bool.not_eq_false'] at h
  exact ⟨by omega, h.2⟩
theorem poly_n {p : PD} {t m n : Nat} {x : Nat → Int} (hn : p.n = (n : Int)) (h : polyB p t m x = true) : m = n := by
  unfold polyB at h
  rw [Bool.and_eq_true, decide_eq_true_eq] at h
  have := h.2
  omega
section
variable {p : PD} {n lv : Nat}
theorem vc_add (h : Lv p n lv) (A B : Nat → Nat → Nat → Nat) : Vc p lv (fun i => addV p lv (A i) (B i)) := fun i => vg_add h _ _
theorem vc_mulInt (h : Lv p n lv) (m : Int) (A : Nat → Nat → Nat → Nat) : Vc p lv (fun i => mulIntV p lv m (A i)) := fun i => vg_mulInt h _ _
end
theorem pow_3 {b e : Nat} (hb : 3 ≤ b) (he : 1 ≤ e) : 3 ≤ b ^ e := by
  have h1 := Nat.pow_le_pow_right (show 0 < b by omega) he
  rw [Nat.pow_one] at h1
  omega
/-- The parts of a product with a plain polynomial, and zeros behind them. -/
def jV (p : PD) (lv n : Nat) (A : Nat → Nat → Nat → Nat) (x : Nat → Int) (i : Nat) : Nat → Nat → Nat := if i < 2 then mulV p lv n (A i) (intV p lv x) else fun _ _ => 0
theorem jV_app {p : PD} {n lv : Nat} {A : Nat → Nat → Nat → Nat} (hA : Vc p lv A) (x : Nat → Int) (z : Nat → List D) (e : Nat) : appF (0 + 2) (appF 0 z fun i => elL false lv false lv n (mulV p lv n (A i) (intV p lv x))) (fun i => elL false lv false lv n (subV p lv (A i) (A i))) e = elL false lv false lv n (jV p lv n A x e) := by
  unfold jV
  by_cases q : e < 2
  · rw [appF_lt (by omega), appF_ge (by omega), if_pos q, Nat.sub_zero]
  · rw [appF_ge (by omega), if_neg q, subV_self (A (e - (0 + 2))) (hA _)]
noncomputable abbrev oneD (n : Nat) (c : Int) : D := .fz true n Tryz.t2.size (setE (fun _ => valL (Value.int .i64 0).cells.toList) (Int.toNat 0) 0 (D.val (.int .i64 c)).cellL)
noncomputable abbrev twoD (n : Nat) (c d : Int) : D := .fz true n Tryz.t2.size (setE (setE (fun _ => valL (Value.int .i64 0).cells.toList) (Int.toNat 0) 0 (D.val (.int .i64 c)).cellL) (Int.toNat 0) 0 (D.val (.int .i64 d)).cellL)
theorem one_f (c : Int) : setE (fun _ => valL (Value.int .i64 0).cells.toList) (Int.toNat 0) 0 (D.val (.int .i64 c)).cellL = fun j => [.val (.int .i64 (constX c j))] := by
  funext e
  unfold setE constX
  by_cases q : e = 0
  · subst q; rfl
  · rw [if_neg (show ¬ e = Int.toNat 0 from q), if_neg q]; rfl
theorem two_f (c d : Int) : setE (setE (fun _ => valL (Value.int .i64 0).cells.toList) (Int.toNat 0) 0 (D.val (.int .i64 c)).cellL) (Int.toNat 0) 0 (D.val (.int .i64 d)).cellL = fun j => [.val (.int .i64 (constX d j))] := by
  rw [one_f]
  funext e
  unfold setE constX
  by_cases q : e = 0
  · subst q; rfl
  · rw [if_neg (show ¬ e = Int.toNat 0 from q)]
    show [D.val (.int .i64 (if e = 0 then c else 0))] = [D.val (.int .i64 (if e = 0 then d else 0))]
    rw [if_neg q, if_neg q]
theorem one_eq (n : Nat) (c : Int) : oneD n c = intsD true n (constX c) := by unfold oneD; rw [one_f]; rfl
theorem two_eq (n : Nat) (c d : Int) : twoD n c d = intsD true n (constX d) := by unfold twoD; rw [two_f]; rfl
instance (n : Nat) (c : Int) : OldD (oneD n c) := by rw [one_eq]; infer_instance
instance (n : Nat) (c d : Int) : OldD (twoD n c d) := by rw [two_eq]; infer_instance
theorem poly_const {p : PD} {t n : Nat} {c : Int} (hn : p.n = (n : Int)) (h1 : -(((t - 1) / 2 : Nat) : Int) ≤ c) (h2 : c ≤ (((t - 1) / 2 : Nat) : Int)) : polyB p t n (constX c) = true := by
  unfold polyB
  rw [decide_eq_true hn.symm, Bool.and_true, evry_iff]
  intro j hj
  have h3 : -(((t - 1) / 2 : Nat) : Int) ≤ constX c j ∧ constX c j ≤ (((t - 1) / 2 : Nat) : Int) := by
    unfold constX; split
    · exact ⟨h1, h2⟩
    · exact ⟨by omega, by omega⟩
  rw [decide_eq_false (by omega), decide_eq_false (by omega)]; rfl
theorem poly_at {p : PD} {t n : Nat} {x : Nat → Int} (h : polyB p t n x = true) {j : Nat} (hj : j < n) : -(((t - 1) / 2 : Nat) : Int) ≤ x j ∧ x j ≤ (((t - 1) / 2 : Nat) : Int) := by
  unfold polyB at h
  rw [Bool.and_eq_true, evry_iff] at h
  have := h.1 j hj
  simp only [Bool.not_eq_true', Bool.or_eq_false_iff, decide_eq_false_iff_not] at this
  omega
theorem const_64 {c : Int} (h : -9223372036854775808 ≤ c ∧ c ≤ 9223372036854775807) (j : Nat) : -9223372036854775808 ≤ constX c j ∧ constX c j ≤ 9223372036854775807 := by
  unfold constX; split
  · exact h
  · omega
theorem const_0 : constX 0 = fun _ => 0 := by funext j; unfold constX; split <;> rfl
theorem triv_f (p : PD) (lv : Nat) (x : Nat → Int) : (fun (i k j : Nat) => if i = 0 then resI (x j) (modQ p lv k) else 0) = trivV p lv x := by
  funext i k j; unfold trivV; split <;> rfl
theorem vc_triv {p : PD} {n lv : Nat} (h : Lv p n lv) (x : Nat → Int) : Vc p lv (trivV p lv x) := fun i r j => by
  unfold trivV; split
  · exact vg_int h x r j
  · exact h.q0 r
end Go.Proofs.YtefoddjclngckaaGreat
