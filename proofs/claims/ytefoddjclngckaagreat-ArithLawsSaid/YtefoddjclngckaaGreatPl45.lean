/- Equal ciphertexts, the program's: by data.
Laws of ciphertexts' parts: plain. No walk.
Valid ciphertexts among any: by data. No walk.
The statement's law, by data: which ciphertexts it looks at. -/
import Derived.Test.YtefoddjclngckaaGreatPl43
import Derived.Test.YtefoddjclngckaaGreatPl44
import Derived.Test.YtefoddjclngckaaGreatPl28
import Derived.Test.YtefoddjclngckaaGreatPl25
import Derived.Tactics
import Derived.Tactics2
import Derived.StillTactics
import Derived.Laws.Small
import Derived.Laws.StructEq
import Derived.KernelRfl
set_option linter.unusedSimpArgs false
set_option linter.unusedVariables false
set_option linter.unnecessarySimpa false
namespace Go.Proofs.YtefoddjclngckaaGreat
open Go.RowKit
set_option maxRecDepth 20000
set_option maxHeartbeats 4000000
theorem Cvt.aggV3 (a b c : Value) : Cvt (.agg [.val a, .val b, .val c]) (.val (.agg #[a, b, c])) := ⟨fun {Z w i v} _ hv => by
  cases hv with | agg _ vs _ hl h1 hr =>
  match vs, hl with
  | [x, y, z], _ =>
    have e1 := rep_val (hr 0 (by simp))
    have e2 := rep_val (hr 1 (by simp))
    have e3 := rep_val (hr 2 (by simp))
    change x = a at e1
    change y = b at e2
    change z = c at e3
    subst e1 e2 e3
    exact .val _ _⟩
theorem ciOf_den (c : CG) : Den Tryz.prog 108 [.agg (ciD true c)] (.val (.agg #[.int .i64 c.lv, .int .i64 c.ex, .int .i64 (c.k : Int)])) := by
  refine den_intro (fn := Tryz.f108) rfl rfl rfl rfl rfl ?_
  refine go ?_
  refine fin (CvV.cvt ?_ (Cvt.aggV3 _ _ _))
  exact cv
theorem eqHead (a b c a' b' c' : Int) (w : World) : (Op.equalIn 10000 108 (.agg #[.int .i64 a, .int .i64 b, .int .i64 c]) (.agg #[.int .i64 a', .int .i64 b', .int .i64 c'])).run Tryz.prog w = .ok (a == a' && (b == b' && c == c')) w := by
  have u3 := Tryz.underlying3
  have a3 := Tryz.isAgg3
  have z3 := Tryz.sizeOf3
  have hS : Tryz.prog.underlying 108 = some (.struct (Tryz.prog.fieldsOf 108)) := by kernel_rfl
  rw [show (10000 : Nat) = 9999 + 1 from rfl, run_equalIn_agg w 9999 108 _ _ hS (by kernel_rfl)]
  simp only [Program.fieldsOf, Tryz.underlying108]
  go_simp
  by_cases h1 : a = a' <;> by_cases h2 : b = b' <;> by_cases h3 : c = c' <;> simp [h1, h2, h3]
theorem bg_neq {ox oy : Operand} (a b c a' b' c' : Int) : BinR Tryz.prog .neq 108 ox oy (.agg #[.int .i64 a, .int .i64 b, .int .i64 c]) (.agg #[.int .i64 a', .int .i64 b', .int .i64 c']) (.bool (!(a == a' && (b == b' && c == c')))) := fun w => by
  have h := eqHead a b c a' b' c' w
  simp [eqGuard, run_neq_struct, h, Result.andThen]
theorem ciSame_den (a b : CG) (hk : a.k ≤ 1000000) (hk' : b.k ≤ 1000000) (hm : ∀ i, (a.P i).m ≤ 1000000) (hm' : ∀ i, (b.P i).m ≤ 1000000) (hl : ∀ i k, (a.P i).ln k ≤ 1000000) (hl' : ∀ i k, (b.P i).ln k ≤ 1000000) : Den Tryz.prog 41 [.agg (ciD true a), .agg (ciD true b)] (.val (.bool (sameC a b))) := by
  refine den_intro (fn := Tryz.f41) rfl rfl rfl rfl rfl ?_
  refine go ?_
  refine r_call (ciOf_den a) ?_
  refine go ?_
  refine r_call (ciOf_den b) ?_
  refine go ?_
  refine r_bin (hx := by apply Op1.tmp; (repeat (first | exact Lk.here | apply Lk.there rfl))) (hy := by apply Op1.tmp; (repeat (first | exact Lk.here | apply Lk.there rfl))) (hr := bg_neq _ _ _ _ _ _) (hd := rfl) (h := ?_)
  refine go ?_
  refine c_ifB (fun h1 => ?_) (fun h1 => ?_)
  · refine go ?_
    refine fin ?_
    rw [show sameC a b = false by
      unfold sameC
      by_cases q1 : a.lv = b.lv
      · by_cases q2 : a.ex = b.ex
        · by_cases q3 : a.k = b.k
          · exfalso
            simp [q1, q2, q3] at h1
          · simp [q3]
        · simp [q2]
      · simp [q1]]
    exact cv
  · have q : a.lv = b.lv ∧ a.ex = b.ex ∧ a.k = b.k := by
      simp at h1
      exact ⟨h1.1, h1.2.1, by omega⟩
    have hE : sameC a b = evry (fun i => sameE (a.P i) (b.P i)) a.k := by unfold sameC; rw [q.1, q.2.1, q.2.2]; simp
    have qk := q.2.2
    refine go ?_
    refine c_down (fun j => a.k - j) (fun j => j ≤ a.k ∧ ∀ i, i < j → sameE (a.P i) (b.P i) = true) (fun j : Nat => [(15, .val (.int .i64 (j : Int)))]) (fun _ => []) 0 (fun j ⟨hj, hp⟩ => ?_) ⟨by omega, fun e he => by omega⟩
    refine go ?_
    refine c_if (fun h3 => ?_) (fun h3 => ?_)
    · have h3' : j < b.k := by omega
      refine go ?_
      refine r_call (rgSame_den (a.P j) (b.P j) (hm j) (hm' j) (hl j) (hl' j)) ?_
      refine go ?_
      refine c_ifB (fun h4 => ?_) (fun h4 => ?_)
      · refine go ?_
        refine fin ?_
        rw [hE, evry_no (f := fun i => sameE (a.P i) (b.P i)) h3 (by simpa using h4)]
        exact cv
      · refine go ?_
        refine ⟨j + 1, ⟨by omega, fun k hk => ?_⟩, by omega, ?_⟩
        · by_cases q : k < j
          · exact hp k q
          · obtain rfl : k = j := by omega
            simpa using h4
        · exact sub
    · refine go ?_
      obtain rfl : j = a.k := by omega
      refine fin ?_
      rw [hE, (evry_iff (f := fun i => sameE (a.P i) (b.P i))).2 hp]
      exact cv
end Go.Proofs.YtefoddjclngckaaGreat

namespace Go.Proofs.YtefoddjclngckaaGreat
open Go.RowKit
section
variable {p : PD} {n lv : Nat}
theorem addV_comm (A B : Nat → Nat → Nat) : addV p lv A B = addV p lv B A := by
  funext r j; unfold addV; rw [Nat.add_comm]
theorem addV_assoc (A B C : Nat → Nat → Nat) : addV p lv (addV p lv A B) C = addV p lv A (addV p lv B C) := by
  funext r j; unfold addV; rw [Nat.mod_add_mod, Nat.add_mod_mod, Nat.add_assoc]
theorem subV_eq (h : Lv p n lv) (A : Nat → Nat → Nat) {B : Nat → Nat → Nat} (hB : Vg p lv B) : subV p lv A B = addV p lv A (mulIntV p lv (-1) B) := by
  funext r j; unfold subV addV mulIntV
  have h1 := hB r j
  have h2 := h.q0 r
  rw [resI_m1 h2, neg_mod h2 h1, Nat.add_mod_mod, Nat.add_sub_assoc (by omega)]
theorem negV_negV (h : Lv p n lv) {B : Nat → Nat → Nat} (hB : Vg p lv B) : mulIntV p lv (-1) (mulIntV p lv (-1) B) = B := by
  funext r j; unfold mulIntV
  have h1 := hB r j
  have h2 := h.q0 r
  rw [resI_m1 h2, neg_mod h2 (Nat.mod_lt _ h2), neg_mod h2 h1]
  by_cases q : B r j = 0
  · rw [q, Nat.sub_zero, Nat.mod_self, Nat.sub_zero, Nat.mod_self]
  · rw [Nat.mod_eq_of_lt (show modQ p lv r - B r j < modQ p lv r by omega), show modQ p lv r - (modQ p lv r - B r j) = B r j by omega, Nat.mod_eq_of_lt h1]
theorem mulInt1 (h : Lv p n lv) {B : Nat → Nat → Nat} (hB : Vg p lv B) : mulIntV p lv 1 B = B := by
  funext r j; unfold mulIntV
  have h1 := hB r j
  have h2 := modQ_in h.vp h.sp h.l2 r
  rw [show (1 : Int) = ((1 : Nat) : Int) from rfl, resI_nat (by omega), Nat.mul_one, Nat.mod_eq_of_lt h1]
theorem intV_zero : intV p lv (fun _ => 0) = fun _ _ => 0 := by
  funext r j; unfold intV; exact resI_0 _
theorem addV_zero {A : Nat → Nat → Nat} (hA : Vg p lv A) : addV p lv A (fun _ _ => 0) = A := by
  funext r j; unfold addV; rw [Nat.add_zero, Nat.mod_eq_of_lt (hA r j)]
theorem addPlain_zero (h : Lv p n lv) {A : Nat → Nat → Nat → Nat} (hA : Vc p lv A) (i : Nat) : addPlainV p lv (fun _ => 0) A i = A i := by
  unfold addPlainV
  split
  · rename_i e; subst e; rw [intV_zero, addV_zero (hA 0)]
  · exact mulInt1 h (hA i)
theorem subV_self (A : Nat → Nat → Nat) (hA : Vg p lv A) : subV p lv A A = fun _ _ => 0 := by
  funext r j; unfold subV
  have := hA r j
  rw [show A r j + modQ p lv r - A r j = modQ p lv r by omega, Nat.mod_self]
/-- The polynomial that is a constant. -/
def constX (c : Int) (j : Nat) : Int := if j = 0 then c else 0
theorem mulV_const (h : Lv p n lv) (A : Nat → Nat → Nat) (c : Int) {r j : Nat} (hj : j < n) : mulV p lv n A (intV p lv (constX c)) r j = mulIntV p lv c A r j := by
  unfold mulV mulIntV
  exact mulR_const (A r) (intV p lv (constX c) r) (h.q0 r) hj rfl (fun i hi _ => by unfold intV constX; rw [if_neg (by omega)]; exact resI_0 _)
theorem mulV_zero (h : Lv p n lv) (A : Nat → Nat → Nat) {r j : Nat} (hj : j < n) : mulV p lv n A (fun _ _ => 0) r j = 0 := mulR_zero (A r) (fun _ => 0) (h.q0 r) hj (fun _ _ => rfl)
theorem mulV_comm (h : Lv p n lv) (A B : Nat → Nat → Nat) {r j : Nat} (hj : j < n) : mulV p lv n A B r j = mulV p lv n B A r j := mulR_comm (A r) (B r) (h.q0 r) hj
theorem tensV_comm (h : Lv p n lv) (A B : Nat → Nat → Nat → Nat) (i : Nat) {r j : Nat} (hj : j < n) : tensV p lv n A B i r j = tensV p lv n B A i r j := by
  unfold tensV
  split
  · unfold addV
    rw [mulV_comm h (A 0) (B 1) hj, mulV_comm h (A 1) (B 0) hj, Nat.add_comm]
  · exact mulV_comm h _ _ hj
/-- What a ciphertext without a key holds. -/
def trivV (p : PD) (lv : Nat) (x : Nat → Int) (i : Nat) : Nat → Nat → Nat := if i = 0 then intV p lv x else fun _ _ => 0
theorem tens_triv (h : Lv p n lv) (A : Nat → Nat → Nat → Nat) (x : Nat → Int) {i r j : Nat} (hi : i < 3) (hj : j < n) : tensV p lv n A (trivV p lv x) i r j = if i < 2 then mulV p lv n (A i) (intV p lv x) r j else 0 := by
  unfold tensV
  obtain rfl | rfl | rfl : i = 0 ∨ i = 1 ∨ i = 2 := by omega
  · rfl
  · show addV p lv (mulV p lv n (A 0) (fun _ _ => 0)) (mulV p lv n (A 1) (intV p lv x)) r j = mulV p lv n (A 1) (intV p lv x) r j
    unfold addV
    rw [mulV_zero h (A 0) hj, Nat.zero_add, Nat.mod_eq_of_lt (vg_mul h _ _ r j)]
  · show mulV p lv n (A 1) (fun _ _ => 0) r j = 0
    exact mulV_zero h (A 1) hj
end
/-- Equal ciphertexts, by their parts. -/
abbrev cgV (lv ex k n : Nat) (G : Nat → Nat → Nat → Nat) : CG := ⟨lv, ex, k, fun i => ⟨lv, false, lv, fun _ => n, G i⟩⟩
theorem sameC_V {lv ex k n : Nat} {A B : Nat → Nat → Nat → Nat} (h : ∀ i, i < k → ∀ r, r < lv → ∀ j, j < n → A i r j = B i r j) : sameC (cgV lv ex k n A) (cgV lv ex k n B) = true := by
  unfold sameC
  rw [(evry_iff (f := fun i => sameE ((cgV lv ex k n A).P i) ((cgV lv ex k n B).P i))).2 (fun i hi => ?_)]
  · simp
  · unfold sameE
    simp only [decide_true, beq_self_eq_true, Bool.true_and]
    exact sameR_3 (fun r hr => sameW_3 (fun j hj => h i hi r hr j hj))
theorem ciSameV_den (lv ex k n : Nat) (hlv : lv ≤ 1000) (hk : k ≤ 3) (hn : n ≤ 32) (A B : Nat → Nat → Nat → Nat) (h : ∀ i, i < k → ∀ r, r < lv → ∀ j, j < n → A i r j = B i r j) : Den Tryz.prog 41 [.agg (ciV true lv ex k n A), .agg (ciV true lv ex k n B)] (.val (.bool true)) := by
  have := ciSame_den (cgV lv ex k n A) (cgV lv ex k n B) (by show k ≤ _; omega) (by show k ≤ _; omega) (fun _ => by show lv ≤ _; omega) (fun _ => by show lv ≤ _; omega) (fun _ _ => by show n ≤ _; omega) (fun _ _ => by show n ≤ _; omega)
  rw [sameC_V h] at this
  exact this
end Go.Proofs.YtefoddjclngckaaGreat

namespace Go.Proofs.YtefoddjclngckaaGreat
open Go.RowKit
/-- Data that came in: nothing lies beyond their ends. -/
structure Dflt (c : CG) : Prop where
  k : c.k ≤ 9223372036854775807
  m : ∀ i, (c.P i).m ≤ 9223372036854775807
  l : ∀ i k, (c.P i).ln k ≤ 9223372036854775807
  o1 : ∀ i, c.k ≤ i → (c.P i).m = 0
  o2 : ∀ i k, (c.P i).m ≤ k → (c.P i).ln k = 0
  o3 : ∀ i k j, (c.P i).ln k ≤ j → (c.P i).g k j = 0
theorem Dflt.small {c : CG} (h : Dflt c) (hs : smallC c = true) : c.k ≤ 1000000 ∧ (∀ i, (c.P i).m ≤ 1000000) ∧ ∀ i k, (c.P i).ln k ≤ 1000000 := by
  unfold smallC at hs
  rw [Bool.and_eq_true, decide_eq_true_eq, evry_iff] at hs
  have hm : ∀ i, (c.P i).m ≤ 40 ∧ ∀ k, (c.P i).ln k ≤ 80 := fun i => by
    by_cases q : i < c.k
    · have := hs.2 i q
      unfold smallE at this
      rw [Bool.and_eq_true, decide_eq_true_eq, evry_iff] at this
      refine ⟨this.1, fun k => ?_⟩
      by_cases q2 : k < (c.P i).m
      · exact of_decide_eq_true (this.2 k q2)
      · rw [h.o2 i k (by omega)]; omega
    · have h0 := h.o1 i (by omega)
      exact ⟨by omega, fun k => by rw [h.o2 i k (by omega)]; omega⟩
  exact ⟨by omega, fun i => by have := (hm i).1; omega, fun i k => by have := (hm i).2 k; omega⟩
theorem ciOk_st {p : PD} {c : CG} (h : ciOk p c = true) : St p c.lv c.ex := by
  unfold ciOk at h
  rw [Bool.and_eq_true, Bool.and_eq_true] at h
  exact stB_iff.1 h.1.1
theorem ciOk_part {p : PD} {c : CG} (h : ciOk p c = true) {i : Nat} (hi : i < c.k) : (c.P i).lv = c.lv ∧ (c.P i).sp = false ∧ eOk p (c.P i) = true := by
  unfold ciOk at h
  rw [Bool.and_eq_true, evry_iff] at h
  have := h.2 i hi
  unfold partOk at this
  simp only [Bool.not_eq_true', Bool.or_eq_false_iff, decide_eq_false_iff_not, ne_eq, Decidable.not_not] at this
  refine ⟨this.1.1, this.1.2, ?_⟩
  cases q : eOk p (c.P i) with
  | true => rfl
  | false => rw [q] at this; exact absurd this.2 (by decide)
/-- A valid element's rows. -/
theorem eOk_rows {p : PD} {e : EG} {n lv : Nat} (hn : p.n = (n : Int)) (hl : e.lv = (lv : Int)) (hs : e.sp = false) (h : eOk p e = true) : e.m = lv ∧ ∀ k, k < lv → e.ln k = n ∧ ∀ j, j < n → e.g k j < modQ p lv k := by
  unfold eOk elOk at h
  rw [hl, hs, Int.toNat_natCast] at h
  rw [Bool.and_eq_true, Bool.and_eq_true, evry_iff, decide_eq_true_eq] at h
  obtain ⟨⟨_, h2⟩, h3⟩ := h
  have hm : e.m = lv := h2
  refine ⟨hm, fun k hk => ?_⟩
  have h4 := h3 k (by omega)
  rw [rowOk_eq hn] at h4
  simp only [Bool.not_eq_true', Bool.or_eq_false_iff, decide_eq_false_iff_not, ne_eq, Decidable.not_not] at h4
  refine ⟨h4.1, fun j hj => ?_⟩
  by_cases q : e.g k j < modQ p lv k
  · exact q
  · have := hasI_spec (p := fun j => decide (modQ p lv k ≤ e.g k j)) (n := e.ln k) |>.2 ⟨j, by omega, decide_eq_true (by omega)⟩
    rw [h4.2] at this; cases this
def partG (c : CG) (i r j : Nat) : Nat := (c.P i).g r j
theorem ci_vc {p : PD} {c : CG} {n lv : Nat} (hd : Dflt c) (hn : p.n = (n : Int)) (hl : c.lv = (lv : Int)) (hL : Lv p n lv) (h : ciOk p c = true) : Vc p lv (partG c) := fun i r j => by
  unfold partG
  have h0 := hL.q0 r
  by_cases q : i < c.k
  · obtain ⟨h1, h2, h3⟩ := ciOk_part h q
    obtain ⟨h4, h5⟩ := eOk_rows hn (h1.trans hl) h2 h3
    by_cases q2 : r < lv
    · obtain ⟨h6, h7⟩ := h5 r q2
      by_cases q3 : j < n
      · exact h7 j q3
      · rw [hd.o3 i r j (by omega)]; exact h0
    · rw [hd.o3 i r j (by rw [hd.o2 i r (by omega)]; omega)]; exact h0
  · rw [hd.o3 i r j (by rw [hd.o2 i r (by rw [hd.o1 i (by omega)]; omega)]; omega)]; exact h0
theorem ci_cvt {p : PD} {c : CG} {n lv k : Nat} (hn : p.n = (n : Int)) (hl : c.lv = (lv : Int)) (hk : c.k = k) (h : ciOk p c = true) : Cvt (.fz true c.k 3 (fun i => elD true (c.P i))) (.fz true k 3 (fun i => elL true lv false lv n (partG c i))) := by
  subst hk
  refine Cvt.fz (.inl rfl) (fun i hi => ⟨rfl, fun j hj => ?_⟩)
  obtain ⟨h1, h2, h3⟩ := ciOk_part h hi
  obtain ⟨h4, h5⟩ := eOk_rows hn (h1.trans hl) h2 h3
  match j, hj with
  | 0, _ => exact .of_eq (by show D.val (.int .i64 (c.P i).lv) = _; rw [h1, hl]; rfl)
  | 1, _ => exact .of_eq (by show D.val (.bool (c.P i).sp) = _; rw [h2]; rfl)
  | 2, _ =>
    show Cvt (.fz true (c.P i).m 1 _) (.fz true lv 1 _)
    rw [h4]
    refine Cvt.fz (.inl rfl) (fun r hr => ⟨rfl, fun j hj => ?_⟩)
    obtain rfl : j = 0 := by omega
    show Cvt (.fz true ((c.P i).ln r) 1 _) (.fz true n 1 _)
    rw [(h5 r hr).1]
    exact .of_eq rfl
/-- Valid ciphertexts of a level and an exponent. -/
noncomputable def lawV (p : PD) (c0 c : CG) : Bool := !(!smallC c || decide (errI (ciOk p c) ≠ 0) || decide (c.lv ≠ c0.lv) || decide (c.ex ≠ c0.ex) || decide (c.k ≠ 2))
theorem lawV_iff {p : PD} {c0 c : CG} : lawV p c0 c = true ↔ (smallC c = true ∧ ciOk p c = true ∧ c.lv = c0.lv ∧ c.ex = c0.ex ∧ c.k = 2) := by
  unfold lawV
  simp only [Bool.not_eq_true', Bool.or_eq_false_iff, decide_eq_false_iff_not, ne_eq, Decidable.not_not, Bool.not_eq_false']
  constructor
  · rintro ⟨⟨⟨⟨a, b⟩, c⟩, d⟩, e⟩
    refine ⟨a, ?_, c, d, e⟩
    cases q : ciOk p _ with
    | true => rfl
    | false => rw [q] at b; exact absurd b (by decide)
  · rintro ⟨a, b, c, d, e⟩
    exact ⟨⟨⟨⟨a, by rw [b]; rfl⟩, c⟩, d⟩, e⟩
theorem le200_of {m : Nat} (h : (decide (200 < m) == false) = true) : m ≤ 1000000 := by
  by_cases q : 200 < m
  · rw [decide_eq_true q] at h; cases h
  · omega
theorem pl_of {m : Nat} {b : Bool} (h : (decide (200 < m) || !b) = false) : m ≤ 200 ∧ b = true := by
  simp only [Bool.or_eq_false_iff, decide_eq_false_iff_not, Bool.not_eq_false'] at h
  exact ⟨by omega, h.2⟩
theorem poly_n {p : PD} {t m n : Nat} {x : Nat → Int} (hn : p.n = (n : Int)) (h : polyB p t m x = true) : m = n := by
  unfold polyB at h
  rw [Bool.and_eq_true, decide_eq_true_eq] at h
  have := h.2
  omega
section
variable {p : PD} {n lv : Nat}
theorem vc_add (h : Lv p n lv) (A B : Nat → Nat → Nat → Nat) : Vc p lv (fun i => addV p lv (A i) (B i)) := fun i => vg_add h _ _
theorem vc_mulInt (h : Lv p n lv) (m : Int) (A : Nat → Nat → Nat → Nat) : Vc p lv (fun i => mulIntV p lv m (A i)) := fun i => vg_mulInt h _ _
end
theorem pow_3 {b e : Nat} (hb : 3 ≤ b) (he : 1 ≤ e) : 3 ≤ b ^ e := by
  have h1 := Nat.pow_le_pow_right (show 0 < b by omega) he
  rw [Nat.pow_one] at h1
  omega
/-- The parts of a product with a plain polynomial, and zeros behind them. -/
def jV (p : PD) (lv n : Nat) (A : Nat → Nat → Nat → Nat) (x : Nat → Int) (i : Nat) : Nat → Nat → Nat := if i < 2 then mulV p lv n (A i) (intV p lv x) else fun _ _ => 0
theorem jV_app {p : PD} {n lv : Nat} {A : Nat → Nat → Nat → Nat} (hA : Vc p lv A) (x : Nat → Int) (z : Nat → List D) (e : Nat) : appF (0 + 2) (appF 0 z fun i => elL false lv false lv n (mulV p lv n (A i) (intV p lv x))) (fun i => elL false lv false lv n (subV p lv (A i) (A i))) e = elL false lv false lv n (jV p lv n A x e) := by
  unfold jV
  by_cases q : e < 2
  · rw [appF_lt (by omega), appF_ge (by omega), if_pos q, Nat.sub_zero]
  · rw [appF_ge (by omega), if_neg q, subV_self (A (e - (0 + 2))) (hA _)]
noncomputable abbrev oneD (n : Nat) (c : Int) : D := .fz true n Tryz.t2.size (setE (fun _ => valL (Value.int .i64 0).cells.toList) (Int.toNat 0) 0 (D.val (.int .i64 c)).cellL)
noncomputable abbrev twoD (n : Nat) (c d : Int) : D := .fz true n Tryz.t2.size (setE (setE (fun _ => valL (Value.int .i64 0).cells.toList) (Int.toNat 0) 0 (D.val (.int .i64 c)).cellL) (Int.toNat 0) 0 (D.val (.int .i64 d)).cellL)
theorem one_f (c : Int) : setE (fun _ => valL (Value.int .i64 0).cells.toList) (Int.toNat 0) 0 (D.val (.int .i64 c)).cellL = fun j => [.val (.int .i64 (constX c j))] := by
  funext e
  unfold setE constX
  by_cases q : e = 0
  · subst q; rfl
  · rw [if_neg (show ¬ e = Int.toNat 0 from q), if_neg q]; rfl
theorem two_f (c d : Int) : setE (setE (fun _ => valL (Value.int .i64 0).cells.toList) (Int.toNat 0) 0 (D.val (.int .i64 c)).cellL) (Int.toNat 0) 0 (D.val (.int .i64 d)).cellL = fun j => [.val (.int .i64 (constX d j))] := by
  rw [one_f]
  funext e
  unfold setE constX
  by_cases q : e = 0
  · subst q; rfl
  · rw [if_neg (show ¬ e = Int.toNat 0 from q)]
    show [D.val (.int .i64 (if e = 0 then c else 0))] = [D.val (.int .i64 (if e = 0 then d else 0))]
    rw [if_neg q, if_neg q]
theorem one_eq (n : Nat) (c : Int) : oneD n c = intsD true n (constX c) := by unfold oneD; rw [one_f]; rfl
theorem two_eq (n : Nat) (c d : Int) : twoD n c d = intsD true n (constX d) := by unfold twoD; rw [two_f]; rfl
instance (n : Nat) (c : Int) : OldD (oneD n c) := by rw [one_eq]; infer_instance
instance (n : Nat) (c d : Int) : OldD (twoD n c d) := by rw [two_eq]; infer_instance
theorem poly_const {p : PD} {t n : Nat} {c : Int} (hn : p.n = (n : Int)) (h1 : -(((t - 1) / 2 : Nat) : Int) ≤ c) (h2 : c ≤ (((t - 1) / 2 : Nat) : Int)) : polyB p t n (constX c) = true := by
  unfold polyB
  rw [decide_eq_true hn.symm, Bool.and_true, evry_iff]
  intro j hj
  have h3 : -(((t - 1) / 2 : Nat) : Int) ≤ constX c j ∧ constX c j ≤ (((t - 1) / 2 : Nat) : Int) := by
    unfold constX; split
    · exact ⟨h1, h2⟩
    · exact ⟨by omega, by omega⟩
  rw [decide_eq_false (by omega), decide_eq_false (by omega)]; rfl
theorem poly_at {p : PD} {t n : Nat} {x : Nat → Int} (h : polyB p t n x = true) {j : Nat} (hj : j < n) : -(((t - 1) / 2 : Nat) : Int) ≤ x j ∧ x j ≤ (((t - 1) / 2 : Nat) : Int) := by
  unfold polyB at h
  rw [Bool.and_eq_true, evry_iff] at h
  have := h.1 j hj
  simp only [Bool.not_eq_true', Bool.or_eq_false_iff, decide_eq_false_iff_not] at this
  omega
theorem const_64 {c : Int} (h : -9223372036854775808 ≤ c ∧ c ≤ 9223372036854775807) (j : Nat) : -9223372036854775808 ≤ constX c j ∧ constX c j ≤ 9223372036854775807 := by
  unfold constX; split
  · exact h
  · omega
theorem const_0 : constX 0 = fun _ => 0 := by funext j; unfold constX; split <;> rfl
theorem triv_f (p : PD) (lv : Nat) (x : Nat → Int) : (fun (i k j : Nat) => if i = 0 then resI (x j) (modQ p lv k) else 0) = trivV p lv x := by
  funext i k j; unfold trivV; split <;> rfl
theorem vc_triv {p : PD} {n lv : Nat} (h : Lv p n lv) (x : Nat → Int) : Vc p lv (trivV p lv x) := fun i r j => by
  unfold trivV; split
  · exact vg_int h x r j
  · exact h.q0 r
end Go.Proofs.YtefoddjclngckaaGreat

namespace Go.Proofs.YtefoddjclngckaaGreat
open Go.RowKit
set_option maxRecDepth 20000
set_option maxHeartbeats 8000000
instance ti56 : TI Tryz.prog 56 Tryz.t56 (.array 3 42) := ⟨by kernel_rfl, by kernel_rfl⟩
instance sz56 : SZ Tryz.prog 56 9 := SZ.of ti56 rfl
instance zr56 : ZR Tryz.prog 56 [.int .i64 0, .int .i64 0, .slice none 0 0, .int .i64 0, .int .i64 0, .slice none 0 0, .int .i64 0, .int .i64 0, .slice none 0 0] := ZR.of ti56 rfl rfl rfl
instance ar56 : AR Tryz.prog 56 3 3 := AR.of ti56 ti42 rfl
instance fi7 : FI Tryz.prog 7 Tryz.f7 := ⟨Tryz.func7, Tryz.call7⟩
theorem not_true_of {x : Bool} (h : ((!x) == false) = true) : x = true := by cases x <;> simp_all
theorem aLaws_den (p : PD) (hp : PFit p) (c0 c1 c2 : CG) (d0 : Dflt c0) (d1 : Dflt c1) (d2 : Dflt c2) (m : Nat) (x : Nat → Int) (hm : m ≤ 9223372036854775807) (hx : ∀ j, -9223372036854775808 ≤ x j ∧ x j ≤ 9223372036854775807) (haw : Den Tryz.prog 23 [] (.val (.bool true))) :
    Den Tryz.prog 7 [.agg (parL true p), .agg (ciD true c0 ++ (ciD true c1 ++ ciD true c2)), intsD true m x] (.val (.bool true)) := by
  refine den_intro (fn := Tryz.f7) rfl rfl rfl rfl rfl ?_
  refine go ?_
  refine c_down (fun j => 3 - j) (fun j => j ≤ 3 ∧ (0 < j → lawV p c0 c0 = true) ∧ (1 < j → lawV p c0 c1 = true) ∧ (2 < j → lawV p c0 c2 = true)) (fun j : Nat => [(10, .val (.int .i64 (j : Int)))]) (fun _ => []) 0 (fun j ⟨hj, v0, v1, v2⟩ => ?_) ⟨by omega, fun h => by omega, fun h => by omega, fun h => by omega⟩
  refine go ?_
  refine c_if (fun h3 => ?_) (fun h3 => ?_)
  · obtain rfl | rfl | rfl : j = 0 ∨ j = 1 ∨ j = 2 := by omega
    · refine go ?_
      refine r_call (large14_den c0 d0.k d0.m d0.l) ?_
      refine go ?_
      refine g_callM (hl := fun hb => r_call (r14Check_den p hp c0 (d0.small (not_true_of hb)).1 (d0.small (not_true_of hb)).2.2 (d0.small (not_true_of hb)).2.1) (run_fin rfl)) (h := ?_)
      refine go ?_
      refine c_ifB (fun h4 => ?_) (fun h4 => ?_)
      · refine go ?_
        refine r_call haw ?_
        refine go ?_
        refine fin ?_
        exact cv
      · refine go ?_
        refine ⟨1, ⟨by omega, fun _ => congrArg not h4, fun h => by omega, fun h => by omega⟩, by omega, ?_⟩
        exact sub
    · refine go ?_
      refine r_call (large14_den c1 d1.k d1.m d1.l) ?_
      refine go ?_
      refine g_callM (hl := fun hb => r_call (r14Check_den p hp c1 (d1.small (not_true_of hb)).1 (d1.small (not_true_of hb)).2.2 (d1.small (not_true_of hb)).2.1) (run_fin rfl)) (h := ?_)
      refine go ?_
      refine c_ifB (fun h4 => ?_) (fun h4 => ?_)
      · refine go ?_
        refine r_call haw ?_
        refine go ?_
        refine fin ?_
        exact cv
      · refine go ?_
        refine ⟨2, ⟨by omega, fun _ => v0 (by omega), fun _ => congrArg not h4, fun h => by omega⟩, by omega, ?_⟩
        exact sub
    · refine go ?_
      refine r_call (large14_den c2 d2.k d2.m d2.l) ?_
      refine go ?_
      refine g_callM (hl := fun hb => r_call (r14Check_den p hp c2 (d2.small (not_true_of hb)).1 (d2.small (not_true_of hb)).2.2 (d2.small (not_true_of hb)).2.1) (run_fin rfl)) (h := ?_)
      refine go ?_
      refine c_ifB (fun h4 => ?_) (fun h4 => ?_)
      · refine go ?_
        refine r_call haw ?_
        refine go ?_
        refine fin ?_
        exact cv
      · refine go ?_
        refine ⟨3, ⟨by omega, fun _ => v0 (by omega), fun _ => v1 (by omega), fun _ => congrArg not h4⟩, by omega, ?_⟩
        exact sub
  · obtain rfl : j = 3 := by omega
    have w0 := v0 (by omega)
    have w1 := v1 (by omega)
    have w2 := v2 (by omega)
    obtain ⟨s0, o0, -, -, k0⟩ := lawV_iff.1 w0
    obtain ⟨s1, o1, l1, e1, k1⟩ := lawV_iff.1 w1
    obtain ⟨s2, o2, l2, e2, k2⟩ := lawV_iff.1 w2
    have hst := ciOk_st o0
    obtain ⟨n, hn, n4, n32⟩ := good_n hst.good
    obtain ⟨lv, hlv⟩ := Int.eq_ofNat_of_zero_le (show 0 ≤ c0.lv by have := hst.l1; omega)
    obtain ⟨ex, hex⟩ := Int.eq_ofNat_of_zero_le (show 0 ≤ c0.ex by have := hst.e1; omega)
    have hst' : St p (lv : Int) (ex : Int) := by rw [hlv, hex] at hst; exact hst
    have h : Cv p n lv ex := ⟨hp, hst', hn⟩
    have hL := h.lv
    have hA := ci_vc d0 hn hlv hL o0
    have hB := ci_vc d1 hn (l1.trans hlv) hL o1
    have hC := ci_vc d2 hn (l2.trans hlv) hL o2
    obtain ⟨A, hAe⟩ : ∃ A, partG c0 = A := ⟨_, rfl⟩
    obtain ⟨B, hBe⟩ : ∃ B, partG c1 = B := ⟨_, rfl⟩
    obtain ⟨C, hCe⟩ : ∃ C, partG c2 = C := ⟨_, rfl⟩
    have cvA := ci_cvt hn hlv k0 o0
    have cvB := ci_cvt hn (l1.trans hlv) k1 o1
    have cvC := ci_cvt hn (l2.trans hlv) k2 o2
    rw [hAe] at hA cvA
    rw [hBe] at hB cvB
    rw [hCe] at hC cvC
    refine c_lit (1000 + 7) (ciV true lv ex 2 n A) (.cons (.eq (congrArg (fun z : Int => D.val (.int .i64 z)) hlv)) (.cons (.eq (congrArg (fun z : Int => D.val (.int .i64 z)) hex)) (.cons (.cvt cvA) .nil))) ?_
    refine c_lit (1000 + 8) (ciV true lv ex 2 n B) (.cons (.eq (congrArg (fun z : Int => D.val (.int .i64 z)) (l1.trans hlv))) (.cons (.eq (congrArg (fun z : Int => D.val (.int .i64 z)) (e1.trans hex))) (.cons (.cvt cvB) .nil))) ?_
    refine c_lit (1000 + 9) (ciV true lv ex 2 n C) (.cons (.eq (congrArg (fun z : Int => D.val (.int .i64 z)) (l2.trans hlv))) (.cons (.eq (congrArg (fun z : Int => D.val (.int .i64 z)) (e2.trans hex))) (.cons (.cvt cvC) .nil))) ?_
    refine c_weak [(3, .eptr (1000 + 3) 0 0 0), (7, .eptr (1000 + 7) 0 0 0), (8, .eptr (1000 + 8) 0 0 0), (9, .eptr (1000 + 9) 0 0 0), (2, intsD true m x)] [(1000 + 9, some (.lit 42 (ciV true lv ex 2 n C))), (1000 + 8, some (.lit 42 (ciV true lv ex 2 n B))), (1000 + 7, some (.lit 42 (ciV true lv ex 2 n A))), (1000 + 3, some (.lit 25 (parL true p)))] (by repeat (first | exact EnvL.nil | (apply EnvL.cons; (focus ((repeat (first | exact Lk.here | apply Lk.there rfl)); done)); (focus ((first | (with_reducible exact SlotCv.refl _) | (with_reducible exact SlotCv.any _) | exact SlotCv.cvt inferInstance | exact SlotCv.eq (by first | rfl | (congr 2; omega) | (congr 3; omega) | simp [*])); done))))) (by repeat (first | exact BoxL.nil | (apply BoxL.cons; (focus ((repeat (first | exact Bl.here | apply Bl.there rfl)); done)); (focus (first | exact BoxCv.refl _ | exact BoxCv.gone _))))) (by kernel_rfl) ?_
    obtain ⟨b1, b2, b3⟩ := good_pow hst'.good hst'.e2
    have hx2 := good_ex b1 b2
    have hlv1 : lv ≤ 1000 := by have := hL.l2; have := hL.vp.len2; omega
    refine go ?_
    refine g_callM (hl := fun hb => r_call (r14Polynomial_den p ex b1 hx2 b3 m x (le200_of hb) hx) (run_fin rfl)) (h := ?_)
    refine go ?_
    refine c_ifB (fun h4 => ?_) (fun h4 => ?_)
    · refine go ?_
      refine r_call haw ?_
      refine go ?_
      refine fin ?_
      exact cv
    obtain ⟨hm2, hpl⟩ := pl_of h4
    obtain rfl : m = n := poly_n hn hpl
    have sB := vc_add hL A B
    have sBA := vc_add hL B A
    have sBC := vc_add hL B C
    have sM := vc_mulInt hL (-1) B
    refine go ?_
    refine r_call (arAdd_den p m lv ex h A B hA hB) ?_
    refine go ?_
    refine r_call (arAdd_den p m lv ex h B A hB hA) ?_
    refine go ?_
    refine r_call (arAdd_den p m lv ex h B C hB hC) ?_
    refine go ?_
    refine r_call (arAdd_den p m lv ex h (fun i => addV p lv (A i) (B i)) C sB hC) ?_
    refine go ?_
    refine r_call (arAdd_den p m lv ex h A (fun i => addV p lv (B i) (C i)) hA sBC) ?_
    refine go ?_
    refine r_call (arNeg_den p m lv ex 2 h (.inl rfl) B hB) ?_
    refine go ?_
    refine r_call (arSub_den p m lv ex h A B hA hB) ?_
    refine go ?_
    refine r_call (arAdd_den p m lv ex h A (fun i => mulIntV p lv (-1) (B i)) hA sM) ?_
    refine go ?_
    refine r_call (arNeg_den p m lv ex 2 h (.inl rfl) (fun i => mulIntV p lv (-1) (B i)) sM) ?_
    refine go ?_
    refine r_call (ciSameV_den lv ex 2 m hlv1 (by omega) n32 (fun i => addV p lv (A i) (B i)) (fun i => addV p lv (B i) (A i)) (fun i _ r _ j _ => by show addV p lv (A i) (B i) r j = _; rw [addV_comm])) ?_
    refine go ?_
    refine g_callM (hl := fun hb => r_call (ciSameV_den lv ex 2 m hlv1 (by omega) n32 (fun i => addV p lv (addV p lv (A i) (B i)) (C i)) (fun i => addV p lv (A i) (addV p lv (B i) (C i))) (fun i _ r _ j _ => by show addV p lv (addV p lv (A i) (B i)) (C i) r j = _; rw [addV_assoc])) (run_fin rfl)) (h := ?_)
    refine go ?_
    refine g_callM (hl := fun hb => r_call (ciSameV_den lv ex 2 m hlv1 (by omega) n32 (fun i => subV p lv (A i) (B i)) (fun i => addV p lv (A i) (mulIntV p lv (-1) (B i))) (fun i _ r _ j _ => by show subV p lv (A i) (B i) r j = _; rw [subV_eq hL (A i) (hB i)])) (run_fin rfl)) (h := ?_)
    refine go ?_
    refine g_callM (hl := fun hb => r_call (ciSameV_den lv ex 2 m hlv1 (by omega) n32 (fun i => mulIntV p lv (-1) (mulIntV p lv (-1) (B i))) B (fun i _ r _ j _ => by show mulIntV p lv (-1) (mulIntV p lv (-1) (B i)) r j = _; rw [negV_negV hL (hB i)])) (run_fin rfl)) (h := ?_)
    refine gor ?_
    refine c_weak [(202, .val (.bool false)), (3, .eptr (1000 + 3) 0 0 0), (7, .eptr (1000 + 7) 0 0 0), (8, .eptr (1000 + 8) 0 0 0), (2, intsD true m x)] [(1000 + 8, some (.lit 42 (ciV true lv ex 2 m B))), (1000 + 7, some (.lit 42 (ciV true lv ex 2 m A))), (1000 + 3, some (.lit 25 (parL true p)))] (by repeat (first | exact EnvL.nil | (apply EnvL.cons; (focus ((repeat (first | exact Lk.here | apply Lk.there rfl)); done)); (focus ((first | (with_reducible exact SlotCv.refl _) | (with_reducible exact SlotCv.any _) | exact SlotCv.cvt inferInstance | exact SlotCv.eq (by first | rfl | (congr 2; omega) | (congr 3; omega) | simp [*])); done))))) (by repeat (first | exact BoxL.nil | (apply BoxL.cons; (focus ((repeat (first | exact Bl.here | apply Bl.there rfl)); done)); (focus (first | exact BoxCv.refl _ | exact BoxCv.gone _))))) (by kernel_rfl) ?_
    refine go ?_
    have hx0 := hx 0
    have hq0 := poly_at hpl (show 0 < m by omega)
    have t3 : 3 ≤ p.prime ^ ex := pow_3 b2 (by have := hst'.e1; omega)
    have pz : polyB p (p.prime ^ ex) m (fun _ => 0) = true := by have := poly_const (p := p) (t := p.prime ^ ex) (n := m) (c := 0) hn (by omega) (by omega); rw [const_0] at this; exact this
    have p1 : polyB p (p.prime ^ ex) m (constX 1) = true := poly_const hn (by omega) (by omega)
    have px : polyB p (p.prime ^ ex) m (constX (x 0)) = true := poly_const hn hq0.1 hq0.2
    have hZ : Den Tryz.prog 42 [.agg (parL true p), .agg (ciV true lv ex 2 m A), zerosD m] (.tup [.agg (ciV false lv ex 2 m (addPlainV p lv (fun _ => 0) A)), .val (.int .i64 0)]) := arAddPlain_den p m lv ex 2 h (.inl rfl) A hA (fun _ => 0) (fun _ => by omega) pz
    have hO : Den Tryz.prog 43 [.agg (parL true p), .agg (ciV true lv ex 2 m A), oneD m 1] (.tup [.agg (ciV false lv ex 2 m (fun i => mulV p lv m (A i) (intV p lv (constX 1)))), .val (.int .i64 0)]) := by rw [one_eq]; exact arMulPlain_den p m lv ex 2 h (.inl rfl) A hA (constX 1) (const_64 (by omega)) p1
    have hT : Den Tryz.prog 43 [.agg (parL true p), .agg (ciV true lv ex 2 m A), twoD m 1 (x (Int.toNat 0))] (.tup [.agg (ciV false lv ex 2 m (fun i => mulV p lv m (A i) (intV p lv (constX (x 0))))), .val (.int .i64 0)]) := by rw [two_eq]; exact arMulPlain_den p m lv ex 2 h (.inl rfl) A hA (constX (x 0)) (const_64 hx0) px
    have hTr := ciTrivial_den p hp m lv ex hst' hn x hx hpl
    refine r_call hZ ?_
    refine go ?_
    refine r_call hO ?_
    refine go ?_
    refine r_call (arTimes_den p m lv ex 2 h (.inl rfl) A hA 1 (by omega)) ?_
    refine go ?_
    refine r_call hT ?_
    refine go ?_
    refine r_call (arTimes_den p m lv ex 2 h (.inl rfl) A hA (x 0) hx0) ?_
    refine go ?_
    refine r_call hTr ?_
    refine gor ?_
    refine c_weak [(3, .eptr (1000 + 3) 0 0 0), (7, .eptr (1000 + 7) 0 0 0), (8, .eptr (1000 + 8) 0 0 0), (2, intsD true m x), (31, .eptr (1000 + 31) 0 0 0), (33, .eptr (1000 + 33) 0 0 0), (35, .eptr (1000 + 35) 0 0 0), (37, .eptr (1000 + 37) 0 0 0), (39, .eptr (1000 + 39) 0 0 0), (41, .eptr (1000 + 41) 0 0 0)] [(1000 + 41, some (.lit 42 (ciV false lv ex 2 m (fun (i k j : Nat) => if i = 0 then resI (x j) (modQ p lv k) else 0)))), (1000 + 39, some (.lit 42 (ciV false lv ex 2 m (fun i => mulIntV p lv (x 0) (A i))))), (1000 + 37, some (.lit 42 (ciV false lv ex 2 m (fun i => mulV p lv m (A i) (intV p lv (constX (x 0))))))), (1000 + 35, some (.lit 42 (ciV false lv ex 2 m (fun i => mulIntV p lv 1 (A i))))), (1000 + 33, some (.lit 42 (ciV false lv ex 2 m (fun i => mulV p lv m (A i) (intV p lv (constX 1)))))), (1000 + 31, some (.lit 42 (ciV false lv ex 2 m (addPlainV p lv (fun _ => 0) A)))), (1000 + 8, some (.lit 42 (ciV true lv ex 2 m B))), (1000 + 7, some (.lit 42 (ciV true lv ex 2 m A))), (1000 + 3, some (.lit 25 (parL true p)))] (by repeat (first | exact EnvL.nil | (apply EnvL.cons; (focus ((repeat (first | exact Lk.here | apply Lk.there rfl)); done)); (focus ((first | (with_reducible exact SlotCv.refl _) | (with_reducible exact SlotCv.any _) | exact SlotCv.cvt inferInstance | exact SlotCv.eq (by first | rfl | (congr 2; omega) | (congr 3; omega) | simp [*])); done))))) (by repeat (first | exact BoxL.nil | (apply BoxL.cons; (focus ((repeat (first | exact Bl.here | apply Bl.there rfl)); done)); (focus (first | exact BoxCv.refl _ | exact BoxCv.gone _))))) (by kernel_rfl) ?_
    refine go ?_
    refine r_call (arTensor_den p m lv ex h A (fun (i k j : Nat) => if i = 0 then resI (x j) (modQ p lv k) else 0) hA (by rw [triv_f]; exact vc_triv hL x)) ?_
    refine go ?_
    refine r_call (arMulPlain_den p m lv ex 2 h (.inl rfl) A hA x hx hpl) ?_
    refine go ?_
    refine r_call (arTensor_den p m lv ex h A B hA hB) ?_
    refine go ?_
    refine r_call (arTensor_den p m lv ex h B A hB hA) ?_
    refine go ?_
    refine r_call (arSub_den p m lv ex h A A hA hA) ?_
    refine gor ?_
    refine c_weak [(7, .eptr (1000 + 7) 0 0 0), (31, .eptr (1000 + 31) 0 0 0), (33, .eptr (1000 + 33) 0 0 0), (35, .eptr (1000 + 35) 0 0 0), (37, .eptr (1000 + 37) 0 0 0), (39, .eptr (1000 + 39) 0 0 0), (43, .eptr (1000 + 43) 0 0 0), (45, .eptr (1000 + 45) 0 0 0), (47, .eptr (1000 + 47) 0 0 0), (49, .eptr (1000 + 49) 0 0 0), (51, .eptr (1000 + 51) 0 0 0)] [(1000 + 51, some (.lit 42 (ciV false lv ex 2 m (fun i => subV p lv (A i) (A i))))), (1000 + 49, some (.lit 42 (ciV false lv ex 3 m (tensV p lv m B A)))), (1000 + 47, some (.lit 42 (ciV false lv ex 3 m (tensV p lv m A B)))), (1000 + 45, some (.lit 42 (ciV false lv ex 2 m (fun i => mulV p lv m (A i) (intV p lv x))))), (1000 + 43, some (.lit 42 (ciV false lv ex 3 m (tensV p lv m A (fun (i k j : Nat) => if i = 0 then resI (x j) (modQ p lv k) else 0))))), (1000 + 39, some (.lit 42 (ciV false lv ex 2 m (fun i => mulIntV p lv (x 0) (A i))))), (1000 + 37, some (.lit 42 (ciV false lv ex 2 m (fun i => mulV p lv m (A i) (intV p lv (constX (x 0))))))), (1000 + 35, some (.lit 42 (ciV false lv ex 2 m (fun i => mulIntV p lv 1 (A i))))), (1000 + 33, some (.lit 42 (ciV false lv ex 2 m (fun i => mulV p lv m (A i) (intV p lv (constX 1)))))), (1000 + 31, some (.lit 42 (ciV false lv ex 2 m (addPlainV p lv (fun _ => 0) A)))), (1000 + 7, some (.lit 42 (ciV true lv ex 2 m A)))] (by repeat (first | exact EnvL.nil | (apply EnvL.cons; (focus ((repeat (first | exact Lk.here | apply Lk.there rfl)); done)); (focus ((first | (with_reducible exact SlotCv.refl _) | (with_reducible exact SlotCv.any _) | exact SlotCv.cvt inferInstance | exact SlotCv.eq (by first | rfl | (congr 2; omega) | (congr 3; omega) | simp [*])); done))))) (by repeat (first | exact BoxL.nil | (apply BoxL.cons; (focus ((repeat (first | exact Bl.here | apply Bl.there rfl)); done)); (focus (first | exact BoxCv.refl _ | exact BoxCv.gone _))))) (by kernel_rfl) ?_
    refine go ?_
    refine r_bsl0 3 (fun i => elL false lv false lv m (fun _ _ => 0)) ?_
    refine gor ?_
    refine c_arr (1000 + 303) (fun i => elL false lv false lv m (jV p lv m A x i)) (fun e _ => ?_) (fun _ => rfl) ?_
    · exact jV_app hA x _ e
    refine c_freeze (1000 + 303) ?_
    refine c_lit (1000 + 45) ([.val (.int .i64 (lv : Int)), .val (.int .i64 (ex : Int)), .fz false 4 3 (fun i => elL false lv false lv m (jV p lv m A x i))]) (.cons (.refl _) (.cons (.refl _) (.cons (.ice (ns := [1303]) (CvV.ice (t := 31) (n := 4) rfl (by omega) rfl)) .nil))) ?_
    refine c_weak [(7, .eptr (1000 + 7) 0 0 0), (31, .eptr (1000 + 31) 0 0 0), (33, .eptr (1000 + 33) 0 0 0), (35, .eptr (1000 + 35) 0 0 0), (37, .eptr (1000 + 37) 0 0 0), (39, .eptr (1000 + 39) 0 0 0), (43, .eptr (1000 + 43) 0 0 0), (45, .eptr (1000 + 45) 0 0 0), (47, .eptr (1000 + 47) 0 0 0), (49, .eptr (1000 + 49) 0 0 0)] [(1000 + 49, some (.lit 42 (ciV false lv ex 3 m (tensV p lv m B A)))), (1000 + 47, some (.lit 42 (ciV false lv ex 3 m (tensV p lv m A B)))), (1000 + 45, some (.lit 42 ([.val (.int .i64 (lv : Int)), .val (.int .i64 (ex : Int)), .fz false 4 3 (fun i => elL false lv false lv m (jV p lv m A x i))]))), (1000 + 43, some (.lit 42 (ciV false lv ex 3 m (tensV p lv m A (fun (i k j : Nat) => if i = 0 then resI (x j) (modQ p lv k) else 0))))), (1000 + 39, some (.lit 42 (ciV false lv ex 2 m (fun i => mulIntV p lv (x 0) (A i))))), (1000 + 37, some (.lit 42 (ciV false lv ex 2 m (fun i => mulV p lv m (A i) (intV p lv (constX (x 0))))))), (1000 + 35, some (.lit 42 (ciV false lv ex 2 m (fun i => mulIntV p lv 1 (A i))))), (1000 + 33, some (.lit 42 (ciV false lv ex 2 m (fun i => mulV p lv m (A i) (intV p lv (constX 1)))))), (1000 + 31, some (.lit 42 (ciV false lv ex 2 m (addPlainV p lv (fun _ => 0) A)))), (1000 + 7, some (.lit 42 (ciV true lv ex 2 m A)))] (by repeat (first | exact EnvL.nil | (apply EnvL.cons; (focus ((repeat (first | exact Lk.here | apply Lk.there rfl)); done)); (focus ((first | (with_reducible exact SlotCv.refl _) | (with_reducible exact SlotCv.any _) | exact SlotCv.cvt inferInstance | exact SlotCv.eq (by first | rfl | (congr 2; omega) | (congr 3; omega) | simp [*])); done))))) (by repeat (first | exact BoxL.nil | (apply BoxL.cons; (focus ((repeat (first | exact Bl.here | apply Bl.there rfl)); done)); (focus (first | exact BoxCv.refl _ | exact BoxCv.gone _))))) (by kernel_rfl) ?_
    generalize hg0 : addPlainV p lv (fun _ => 0) A = G0
    generalize hg1 : (fun i => mulV p lv m (A i) (intV p lv (constX 1))) = G1
    generalize hg2 : (fun i => mulIntV p lv 1 (A i)) = G2
    generalize hg3 : (fun i => mulV p lv m (A i) (intV p lv (constX (x 0)))) = G3
    generalize hg4 : (fun i => mulIntV p lv (x 0) (A i)) = G4
    generalize hg5 : tensV p lv m A (fun (i k j : Nat) => if i = 0 then resI (x j) (modQ p lv k) else 0) = G5
    generalize hg6 : jV p lv m A x = G6
    generalize hg7 : tensV p lv m A B = G7
    generalize hg8 : tensV p lv m B A = G8
    have hJ : Den Tryz.prog 41 [.agg (ciV true lv ex 3 m G5), .agg [.val (.int .i64 (lv : Int)), .val (.int .i64 (ex : Int)), .fz true (3 - 0) 3 (fun e => elL true lv false lv m (G6 (0 + e)))]] (.val (.bool true)) := ciSameV_den lv ex 3 m hlv1 (by omega) n32 G5 (fun i => G6 (0 + i)) (fun i hi r _ j hj => by
      rw [← hg5, ← hg6, triv_f, Nat.zero_add, tens_triv hL A x hi hj]
      unfold jV; split <;> rfl)
    have hS0 := ciSameV_den lv ex 2 m hlv1 (by omega) n32 G0 A (fun i hi r _ j hj => by rw [← hg0, addPlain_zero hL hA])
    have hS1 := ciSameV_den lv ex 2 m hlv1 (by omega) n32 G1 A (fun i hi r _ j hj => by rw [← hg1]; show mulV p lv m (A i) (intV p lv (constX 1)) r j = _; rw [mulV_const hL (A i) 1 hj, mulInt1 hL (hA i)])
    have hS2 := ciSameV_den lv ex 2 m hlv1 (by omega) n32 G2 A (fun i hi r _ j hj => by rw [← hg2]; show mulIntV p lv 1 (A i) r j = _; rw [mulInt1 hL (hA i)])
    have hS3 := ciSameV_den lv ex 2 m hlv1 (by omega) n32 G3 G4 (fun i hi r _ j hj => by rw [← hg3, ← hg4]; exact mulV_const hL (A i) (x 0) hj)
    have hS4 := ciSameV_den lv ex 3 m hlv1 (by omega) n32 G7 G8 (fun i hi r _ j hj => by rw [← hg7, ← hg8]; exact tensV_comm hL A B i hj)
    clear hg0 hg1 hg2 hg3 hg4 hg5 hg6 hg7 hg8
    refine go ?_
    refine r_call hS0 ?_
    refine go ?_
    refine r_call hS1 ?_
    refine r_pickY ?_
    refine go ?_
    refine r_call hS2 ?_
    refine r_pickY ?_
    refine go ?_
    refine r_call hS3 ?_
    refine r_pickY ?_
    refine go ?_
    refine r_call hJ ?_
    refine r_pickY ?_
    refine go ?_
    refine r_call hS4 ?_
    refine r_pickY ?_
    refine go ?_
    refine r_call haw ?_
    refine r_pickY ?_
    refine go ?_
    refine fin ?_
    exact cv
end Go.Proofs.YtefoddjclngckaaGreat
