/- Parameters by data: what the elder walks say of Check and Default.
The primes of good parameters are primes, and prime to one another.
Which levels, exponents, elements and ciphertexts are valid; what is too large: by data.
The reference's ring, by data: which elements are valid.
The reference's ring, by data: Check.
Which ciphertexts are valid: by data.
The program's ring, by data: alike, products, multiples of valid elements.
The program's ring, by data: sums.
The program's ring, by data: differences, products, multiples.
The reference's ring, by data: elements of integers.
The reference's ring, by data: elements of integers, rows of the call's own.
The plain modulus: by data.
Plain polynomials: by data.
Ciphertexts without a key: by data.
Ciphertexts without a key: by data.
Digits of elements, by data: which parameters have them.
The digits of a number, by data: the iterator's making.
The digits of a number: what the iterator yields.
The reference's ciphertexts without a key: memory of the call's own.
Arithmetic with ciphertexts, by data: valid ones, parts made one by one.
Arithmetic with ciphertexts, by data: multiples, plain polynomials, products.
Arithmetic with ciphertexts, by data: sums and products with plain polynomials, tensors.
Arithmetic with ciphertexts, by data: tensors.
Arithmetic with ciphertexts, by data: sums and differences.
Arithmetic with ciphertexts, by data: combine, Add, Sub.
Laws of the rings: plain. No walk. -/
import Derived.Test.YtmjildbdkecolaaPst29
import Derived.Test.YtmjildbdkecolaaPst47
import Derived.Test.YtmjildbdkecolaaPst46
import Derived.Test.YtmjildbdkecolaaPst15
import Derived.Test.YtmjildbdkecolaaPst13
import Derived.Test.YtmjildbdkecolaaPst38
import Derived.Test.YtmjildbdkecolaaPst30
import Derived.Test.YtmjildbdkecolaaPst27
import Derived.Test.YtmjildbdkecolaaPst31
import Derived.RangeFuncBox
import Derived.RangeFuncNested
import Derived.RangeFuncBound
import Derived.RangeFuncCalls
import Derived.RangeFuncLeaves
import Derived.RangeFuncWrites
import Derived.Shelf.Abstract
import Derived.Shelf.RegionOpen
import Derived.WalkKit
import Derived.OwnWalkIn
import Derived.TacticsInMore
import Derived.LoopNIn
import Derived.LoopIn
import Derived.Sort.QuietIn
import Derived.Lib.Hide
set_option linter.unusedSimpArgs false
set_option linter.unusedVariables false
set_option linter.unnecessarySimpa false
namespace Go.Proofs.Ytmjildbdkecolaa
open Go.RowKit
set_option maxRecDepth 20000
set_option maxHeartbeats 4000000
def PD.par (p : PD) : Par := ⟨p.n, p.prime, p.power, p.chain, p.special, p.weight, p.err⟩
/-- Each number fits its type. -/
structure PFit (p : PD) : Prop where
 n1 : -9223372036854775808 ≤ p.n
 n2 : p.n ≤ 9223372036854775807
 prime : p.prime ≤ 4294967295
 power1 : -9223372036854775808 ≤ p.power
 power2 : p.power ≤ 9223372036854775807
 chain : ∀ i, i < p.chain.length → p.chain.getD i 0 ≤ 4294967295
 special : p.special ≤ 4294967295
 weight1 : -9223372036854775808 ≤ p.weight
 weight2 : p.weight ≤ 9223372036854775807
 err : p.err ≤ 4294967295
theorem rep_agg {Z : Zn} {w : World} {i : Nm} {v : Value} {l : List D} (h : Rep Z w i v (.agg l)) : ∃ vs : List Value, v = .agg vs.toArray ∧ vs.length = l.length ∧ ∀ j, j < l.length → Rep Z w i (vs.getD j undef) (dl l j) := by
 cases h with | agg _ vs _ hl h1 hr => exact ⟨vs, rfl, hl, hr⟩
theorem rep_u32s {Z : Zn} {w : World} {i : Nm} {v : Value} {l : List Nat} (h : Rep Z w i v (u32sD true l)) : ∃ ao cc, v = .slice ao l.length cc ∧ l.length ≤ cc ∧ cc ≤ 9223372036854775807 ∧ Rd w ao l := by
 unfold u32sD at h
 cases h with | fz _ _ ao _ cap _ _ vs h1 h2 hl ha hr =>
 refine ⟨ao, cap, rfl, h1, h2, fun k hk => ?_⟩
 obtain ⟨b, p, e, _, _, _⟩ := ha k 0 hk (by omega)
 refine ⟨b, p, e, fun j hj => ?_⟩
 obtain ⟨b', p', e', _, hc, _⟩ := ha j 0 hj (by omega)
 rw [e] at e'; cases e'
 have := rep_val (hr j 0 hj (by omega))
 rw [this] at hc
 simpa using hc
theorem rep_par {Z : Zn} {w : World} {i : Nm} {v : Value} {p : PD} (hp : PFit p) (h : Rep Z w i v (.agg (parL true p))) : ∃ ca cc, v = .agg (p.par.cells ca cc) ∧ ParIn w p.par ca cc := by
 obtain ⟨vs, rfl, hl, hr⟩ := rep_agg h
 match vs, hl with
 | [v0, v1, v2, v3, v4, v5, v6], _ =>
  have r0 := rep_val (hr 0 (by simp [parL]))
  have r1 := rep_val (hr 1 (by simp [parL]))
  have r2 := rep_val (hr 2 (by simp [parL]))
  obtain ⟨ca, cc, r3, h1, h2, h3⟩ := rep_u32s (hr 3 (by simp [parL]))
  have r4 := rep_val (hr 4 (by simp [parL]))
  have r5 := rep_val (hr 5 (by simp [parL]))
  have r6 := rep_val (hr 6 (by simp [parL]))
  change v0 = _ at r0
  change v1 = _ at r1
  change v2 = _ at r2
  change v3 = _ at r3
  change v4 = _ at r4
  change v5 = _ at r5
  change v6 = _ at r6
  subst r0 r1 r2 r3 r4 r5 r6
  exact ⟨ca, cc, rfl, { rd := h3, n1 := hp.n1, n2 := hp.n2, prime := hp.prime, power1 := hp.power1, power2 := hp.power2, len := by show p.chain.length ≤ _; omega, room := h1, room2 := h2, chain := hp.chain, special := hp.special, weight1 := hp.weight1, weight2 := hp.weight2, err := hp.err }⟩
/-- An elder walk of a function of one argument, that makes a plain value. -/
theorem den_elder1 {P : Program} {f : FuncId} {d : D} {u : Value} (h : ∀ Z w i v, Rep Z w i v d → Calls P f #[v] w fun e w' => e = .returned u ∧ Below w.heap.size w w') : Den P f [d] (.val u) := fun Zc w i args hZ hi hH ha => by
 obtain ⟨hl, hr⟩ := ha
 match args, hl with
 | [v], _ =>
  refine (h _ w i v (hr 0 (by simp))).mono fun e w' ⟨he, hb⟩ => ?_
  have hi' : ∀ k, i k = none := fun k => hi k (by simp [Hs.keys])
  exact ⟨u, i, fun _ => False, he, Kept.of_below hb _, fun b hb => hb.elim, fun k hk => by simp [Hs.keys] at hk, fun k _ _ => hi' k, fun k B b hm => by simp at hm, fun k B hm => by simp at hm, ⟨fun k B hm => by simp at hm, fun k k' B B' b hm => by simp at hm⟩, .val _ _⟩
open Classical in
noncomputable def goodB (p : PD) : Bool := tr (Good p.par)
theorem goodB_iff {p : PD} : goodB p = true ↔ Good p.par := by
 unfold goodB
 by_cases h : Good p.par
 ·rw [tr_pos h]; simp [h]
 ·rw [tr_neg h]; simp [h]
theorem pcheck_den (p : PD) (hp : PFit p) : Den Try.prog 18 [.agg (parL true p)] (.val (.int .i64 (errI (goodB p)))) := den_elder1 fun Z w i v hv => by
 obtain ⟨ca, cc, rfl, hin⟩ := rep_par hp hv
 exact pcheck_walk p.par ca cc w hin
theorem r12check_den (p : PD) (hp : PFit p) : Den Try.prog 5 [.agg (parL true p)] (.val (.int .i64 (errI (goodB p)))) := den_elder1 fun Z w i v hv => by
 obtain ⟨ca, cc, rfl, hin⟩ := rep_par hp hv
 exact r12check_walk p.par ca cc w hin
theorem goodQ_mod {step q : Nat} (he : step % 2 = 0) (h : GoodQ step q) : modOk q = true := by
 obtain ⟨h1, h2, h3, _⟩ := h
 have h4 : q % 2 = 1 := by
  have := Nat.mod_mod_of_dvd q (Nat.dvd_of_mod_eq_zero he)
  rw [h3] at this
  omega
 unfold modOk
 rw [decide_eq_true h4, decide_eq_true h2, decide_eq_true (show 3 ≤ q by omega)]; rfl
theorem hasI_no {p : Nat → Bool} {n : Nat} (h : ∀ e, e < n → p e = false) : hasI p n = false := by
 cases q : hasI p n with
 | false => rfl
 | true => obtain ⟨e, h1, h2⟩ := hasI_spec.1 q; rw [h e h1] at h2; cases h2
theorem good_VP {p : PD} (h : Good p.par) : VP p := by
 obtain ⟨h1, h2, h3, _, _, _, _, h8, h9, h10⟩ := h
 have he : (2 * p.par.n.toNat * plainV p.par.n.toNat p.par.prime p.par.power) % 2 = 0 := by rw [Nat.mul_assoc]; exact Nat.mul_mod_right _ _
 exact { n := h1, len1 := h2, len2 := h3, mods := fun j hj => goodQ_mod he (h9 j hj).1, apart := fun j hj => hasI_no fun e he => decide_eq_false fun q => h10 e j he hj q.symm, special := .inr ⟨goodQ_mod he h8, hasI_no fun e he => decide_eq_false fun q => by have := (h9 e he).2; simp only [PD.par] at this; omega⟩ }
/-- Default parameters, as new memory. -/
theorem r12default_den (n prime lv t q0 : Nat) (power : Int) (qs : List Nat) (hn : n = 4 ∨ n = 8 ∨ n = 16 ∨ n = 32) (hp : prime ≤ 4294967295) (hw1 : -9223372036854775808 ≤ power) (hw2 : power ≤ 9223372036854775807) (hl1 : 1 ≤ lv) (hl2 : lv ≤ 24)
  (hT : plainV n prime power = t) (ht : 3 ≤ t) (ht2 : t ≤ 2147483647) (hto : t % 2 = 1) (hst : 2 * n * t ≤ 2147483647) (hch : chainOf n t (lv + 1) = q0 :: qs) (hqs : qs.length = lv) :
  Den Try.prog 24 [.val (.int .i64 (n : Int)), .val (.int .u32 (prime : Int)), .val (.int .i64 power), .val (.int .i64 (lv : Int))] (.tup [.agg (parL false ⟨n, prime, power, qs, q0, 4, 2⟩), .val (.int .i64 0)]) := fun Zc w i args hZ hi hH ha => by
 obtain ⟨hl, hr⟩ := ha
 match args, hl with
 | [v0, v1, v2, v3], _ =>
  have r0 := rep_val (hr 0 (by simp))
  have r1 := rep_val (hr 1 (by simp))
  have r2 := rep_val (hr 2 (by simp))
  have r3 := rep_val (hr 3 (by simp))
  change v0 = _ at r0
  change v1 = _ at r1
  change v2 = _ at r2
  change v3 = _ at r3
  subst r0 r1 r2 r3
  refine (r12default_own n prime lv t q0 power qs w hn hp hw1 hw2 hl1 hl2 hT ht ht2 hto hst hch hqs).mono fun e w' ⟨ca, cc, he, hin, hown, hb⟩ => ?_
  have hi' : ∀ k, i k = none := fun k => hi k (by simp [Hs.keys])
  obtain ⟨b, o, rfl, hcell⟩ := hin.rd 0 (by show 0 < qs.length; omega)
  have hge : w.heap.size ≤ b := by
   by_cases hlt : b < w.heap.size
   ·have hq := (hown (w'.setCell ⟨b, o, none⟩ (.bool true)) [b] ((Turn.refl w' [b]).setCell (p := ⟨b, o, none⟩) (.inl (by simp)) (.bool true)) (fun x hx => by simp at hx; omega)).rd 0 (by show 0 < qs.length; omega)
    obtain ⟨b', o', e', hc'⟩ := hq
    cases e'
    have h2 := hc' 0 (by show 0 < qs.length; omega)
    have h3 := hcell 0 (by show 0 < qs.length; omega)
    rw [Nat.add_zero] at h2 h3
    have h4 := World.cell?_setCell_same w' ⟨b, o, none⟩ (.bool true) h3
    rw [h4] at h2; cases h2
   ·omega
  have hlt : b < w'.heap.size := by
   have h3 := hcell 0 (by show 0 < qs.length; omega)
   unfold World.cell? at h3
   by_cases q : b < w'.heap.size
   ·exact q
   ·rw [Array.getElem?_eq_none (by show w'.heap.size ≤ b; omega)] at h3; cases h3
  refine ⟨_, i, fun x => x = b, he, Kept.of_below hb _, fun x hx => by subst hx; exact ⟨hge, hlt⟩, fun k hk => by simp [Hs.keys] at hk, fun k _ _ => hi' k, fun k B b hm => by simp at hm, fun k B hm => by simp at hm, ⟨fun k B hm => by simp at hm, fun k k' B B' b hm => by simp at hm⟩, ?_⟩
  refine .tup i [_, _] _ rfl fun j hj => ?_
  match j, hj with
  | 1, _ => exact .val _ _
  | 0, _ =>
   refine .agg i [_, _, _, _, _, _, _] _ rfl (fun j hj => ?_) fun j hj => ?_
   ·match j, hj with
    | 0, _ | 1, _ | 2, _ | 3, _ | 4, _ | 5, _ | 6, _ => rfl
   ·match j, hj with
    | 0, _ => exact .val _ _
    | 1, _ => exact .val _ _
    | 2, _ => exact .val _ _
    | 4, _ => exact .val _ _
    | 5, _ => exact .val _ _
    | 6, _ => exact .val _ _
    | 3, _ =>
     refine .fz i false (some ⟨b, o, none⟩) qs.length cc 1 _ (fun e _ => .int .u32 (qs.getD e 0)) hin.room hin.room2 (fun _ _ => rfl) (fun e c he hc => ?_) (fun e c he hc => ?_)
     ·obtain rfl : c = 0 := by omega
      exact ⟨b, o, rfl, rfl, by rw [Nat.mul_one, Nat.add_zero]; exact hcell e he, rfl⟩
     ·obtain rfl : c = 0 := by omega
      exact .val _ _
open Go.RowKit
theorem goodQ_pr {s q : Nat} (h8 : s % 8 = 0) (h : GoodQ s q) : Pr q := by
 obtain ⟨h1, h2, h3, h4⟩ := h
 have hq : q % 8 = 1 := by rw [← Nat.mod_mod_of_dvd q (Nat.dvd_of_mod_eq_zero h8), h3]
 rcases h4 with e | e | e | ⟨_, _, d7, d61, u, k, e, hu, s2, s7, s61⟩
 ·omega
 ·omega
 ·omega
 ·exact strong_prime (by omega) hq (.inr ⟨h1, by omega⟩) e hu s2 s7 s61 (by omega) (by omega)
theorem good_8 {p : Par} (h : Good p) : (2 * p.n.toNat * plainV p.n.toNat p.prime p.power) % 8 = 0 := by
 have h4 : p.n.toNat % 4 = 0 := by rcases h.1 with e | e | e | e <;> rw [e] <;> rfl
 obtain ⟨m, hm⟩ : ∃ m, p.n.toNat = 4 * m := ⟨p.n.toNat / 4, by omega⟩
 rw [hm, show 2 * (4 * m) * plainV (4 * m) p.prime p.power = 8 * (m * plainV (4 * m) p.prime p.power) from by rw [← Nat.mul_assoc, ← Nat.mul_assoc]]
 exact Nat.mul_mod_right _ _
theorem Good.pr {p : Par} (h : Good p) {i : Nat} (hi : i < p.chain.length) : Pr (p.chain.getD i 0) := goodQ_pr (good_8 h) (h.2.2.2.2.2.2.2.2.1 i hi).1
theorem eu_gcd : ∀ (f x y : Nat) (u v : Int), y < f → (eu f x y u v).1 = Nat.gcd x y
 | 0, x, y, u, v, h => by omega
 | f + 1, x, y, u, v, h => by
  unfold eu
  by_cases q : y = 0
  ·rw [if_pos q, q, Nat.gcd_zero_right]
  ·rw [if_neg q]
   have := Nat.mod_lt x (show 0 < y by omega)
   rw [eu_gcd f y (x % y) v _ (by omega), Nat.gcd_comm x y, Nat.gcd_rec y x, Nat.gcd_comm]
theorem inv_pr {a b : Nat} (ha : Pr a) (hb : Pr b) (h : a ≠ b) : invB (a % b) b = true := by
 unfold invB invE
 refine decide_eq_true ?_
 rw [eu_gcd _ _ _ _ _ (by omega), Nat.gcd_comm, ← Nat.gcd_rec]
 refine hb.coprime (fun hd => ?_)
 rcases ha.2 b hd with e | e
 ·have := hb.1; omega
 ·exact h e.symm
theorem good_apart {p : Par} (h : Good p) {i j : Nat} (hij : j < i) (hi : i < p.chain.length) : invB (p.chain.getD i 0 % p.chain.getD j 0) (p.chain.getD j 0) = true :=
 inv_pr (h.pr hi) (h.pr (by omega)) (fun e => h.2.2.2.2.2.2.2.2.2 j i hij hi e.symm)
open Go.RowKit
set_option maxRecDepth 20000
set_option maxHeartbeats 4000000
instance fi18 : FI Try.prog 18 Try.f18 := ⟨Try.func18, Try.call18⟩
instance fi5 : FI Try.prog 5 Try.f5 := ⟨Try.func5, Try.call5⟩
instance fi24 : FI Try.prog 24 Try.f24 := ⟨Try.func24, Try.call24⟩
instance fi17 : FI Try.prog 17 Try.f17 := ⟨Try.func17, Try.call17⟩
instance fi14 : FI Try.prog 14 Try.f14 := ⟨Try.func14, Try.call14⟩
instance fi15 : FI Try.prog 15 Try.f15 := ⟨Try.func15, Try.call15⟩
instance fi16 : FI Try.prog 16 Try.f16 := ⟨Try.func16, Try.call16⟩
instance fi6 : FI Try.prog 6 Try.f6 := ⟨Try.func6, Try.call6⟩
instance fi4 : FI Try.prog 4 Try.f4 := ⟨Try.func4, Try.call4⟩
structure EG where
 lv : Int
 sp : Bool
 m : Nat
 ln : Nat → Nat
 g : Nat → Nat → Nat
abbrev elD (o : Bool) (e : EG) : List D := elG o e.lv e.sp e.m e.ln e.g
structure CG where
 lv : Int
 ex : Int
 k : Nat
 P : Nat → EG
def eOk (p : PD) (e : EG) : Bool := elOk p e.lv e.sp e.m e.ln e.g
instance (p : PD) : CvtLI (parL false p) (parL true p) := by unfold parL u32sD; infer_instance
/-- What is looked at. -/
def smallE (e : EG) : Bool := decide (e.m ≤ 40) && evry (fun k => decide (e.ln k ≤ 80)) e.m
def smallC (c : CG) : Bool := decide (c.k ≤ 5) && evry (fun i => smallE (c.P i)) c.k
theorem large13_den (e : EG) (hm : e.m ≤ 9223372036854775807) (hl : ∀ k, e.ln k ≤ 9223372036854775807) : Den Try.prog 4 [.agg (elD true e)] (.val (.bool (!smallE e))) := by
 refine den_intro (fn := Try.f4) rfl rfl rfl rfl rfl ?_
 refine go ?_
 refine c_if (fun h1 => ?_) (fun h1 => ?_)
 ·refine go ?_
  refine fin ?_
  rw [show smallE e = false by unfold smallE; rw [decide_eq_false (Nat.not_le_of_lt h1)]; rfl]
  exact cv
 ·replace h1 : e.m ≤ 40 := Nat.le_of_not_lt h1
  refine go ?_
  refine c_down (fun j => e.m - j) (fun j => j ≤ e.m ∧ ∀ k, k < j → decide (e.ln k ≤ 80) = true) (fun j : Nat => [(3, .val (.int .i64 (j : Int)))]) (fun _ => []) 0 (fun j ⟨hj, hp⟩ => ?_) ⟨by omega, fun e he => by omega⟩
  refine go ?_
  refine c_if (fun h3 => ?_) (fun h3 => ?_)
  ·refine go ?_
   refine c_if (fun h4 => ?_) (fun h4 => ?_)
   ·refine go ?_
    refine fin ?_
    rw [show smallE e = false by unfold smallE; rw [evry_no h3 (decide_eq_false (Nat.not_le_of_lt h4))]; simp]
    exact cv
   ·refine go ?_
    refine ⟨j + 1, ⟨by omega, fun k hk => ?_⟩, by omega, ?_⟩
    ·by_cases q : k < j
     ·exact hp k q
     ·obtain rfl : k = j := by omega
      exact decide_eq_true (Nat.le_of_not_lt h4)
    ·exact sub
  ·refine go ?_
   obtain rfl : j = e.m := by omega
   refine fin ?_
   rw [show smallE e = true by unfold smallE; rw [decide_eq_true h1, evry_iff.2 hp]; rfl]
   exact cv
open Go.RowKit
set_option maxRecDepth 20000
set_option maxHeartbeats 4000000
theorem appF_lt {n e : Nat} {f g : Nat → List D} (h : e < n) : appF n f g e = f e := by
 unfold appF
 rw [show e.blt n = true by rw [Nat.blt_eq]; exact h]
theorem appF_ge {n e : Nat} {f g : Nat → List D} (h : n ≤ e) : appF n f g e = g (e - n) := by
 unfold appF
 rw [show e.blt n = false by cases q : e.blt n with
  | false => rfl
  | true => rw [Nat.blt_eq] at q; omega]
theorem r09place_den (p : PD) (lv : Int) (sp : Bool) : Den Try.prog 15 [.agg (parL true p), .val (.int .i64 lv), .val (.bool sp)] (.val (.bool (placeB p lv sp))) := by
 refine den_intro (fn := Try.f15) rfl rfl rfl rfl rfl ?_
 refine go ?_
 refine fin ?_
 exact cv
theorem r09Moduli_den (p : PD) (lv : Nat) (sp : Bool) (h1 : lv ≤ p.chain.length) (h2 : p.chain.length ≤ 1000) : Den Try.prog 16 [.agg (parL true p), .val (.int .i64 (lv : Int)), .val (.bool sp)] (.fz false (modN p lv sp) 1 (fun k => [.val (.int .u32 ((modQ p lv k : Nat) : Int))])) := by
 refine den_intro (fn := Try.f16) rfl rfl rfl rfl rfl ?_
 refine go ?_
 refine c_ifB (fun h3 => ?_) (fun h3 => ?_)
 ·subst h3
  refine go ?_
  refine fin_arr (1000 + 19) (fun k => [.val (.int .u32 ((modQ p lv k : Nat) : Int))]) (fun e he => ?_) (fun _ => rfl) ?_
  ·unfold modQ
   by_cases q : e < lv
   ·rw [appF_lt (by omega), if_pos q, Nat.zero_add]
   ·rw [appF_ge (by omega), if_neg q, show e - (lv - 0) = 0 by omega]; rfl
  refine fin_freeze (1000 + 19) ?_
  refine fin ?_
  exact cv
 ·subst h3
  refine go ?_
  refine fin_arr (1000 + 13) (fun k => [.val (.int .u32 ((modQ p lv k : Nat) : Int))]) (fun e he => ?_) (fun _ => rfl) ?_
  ·unfold modQ
   rw [if_pos (by omega), Nat.zero_add]
  refine fin_freeze (1000 + 13) ?_
  refine fin ?_
  exact cv
theorem VP.all {p : PD} (h : VP p) (hs : p.special ≠ 0) : ∃ a : Nat → Nat, a = modQ p p.chain.length ∧ (∀ i, i < p.chain.length + 1 → 3 ≤ a i ∧ a i ≤ 2147483647 ∧ a i % 2 = 1) ∧ ∀ k i, k < i → i < p.chain.length + 1 → a k ≠ a i := by
 refine ⟨_, rfl, fun i hi => ?_, fun k i hk hi e => ?_⟩
 ·have q : modOk (modQ p p.chain.length i) = true := by
   unfold modQ
   split
   ·exact h.mods i ‹_›
   ·rcases h.special with q | q
    ·exact absurd q hs
    ·exact q.1
  unfold modOk at q
  simp only [Bool.and_eq_true, decide_eq_true_eq] at q
  exact ⟨q.1.1, q.1.2, q.2⟩
 ·unfold modQ at e
  rw [if_pos (by omega)] at e
  by_cases q : i < p.chain.length
  ·rw [if_pos q] at e
   have := h.apart i q
   have h2 := hasI_spec (p := fun e => decide (p.chain.getD i 0 = p.chain.getD e 0)) |>.2 ⟨k, hk, decide_eq_true e.symm⟩
   rw [this] at h2; cases h2
  ·rw [if_neg q] at e
   rcases h.special with q2 | q2
   ·exact absurd q2 hs
   ·have h2 := hasI_spec (p := fun e => decide (p.special = p.chain.getD e 0)) |>.2 ⟨k, (by omega : k < p.chain.length), decide_eq_true e.symm⟩
    rw [q2.2] at h2; cases h2
theorem r09Valid_den (p : PD) (h : VP p) (hs : p.special ≠ 0) : Den Try.prog 14 [.agg (parL true p)] (.val (.bool true)) := by
 refine den_intro (fn := Try.f14) rfl rfl rfl rfl rfl ?_
 have l2 := h.len2
 refine go ?_
 refine c_ifB (fun h1 => absurd h1 ?_) (fun _ => ?_)
 ·rcases h.n with q | q | q | q <;> rw [q] <;> decide
 ·refine go ?_
  refine c_ifB (fun h1 => absurd h1 ?_) (fun _ => ?_)
  ·have l1 := h.len1
   rw [decide_eq_false (show ¬ p.chain.length < 1 by omega), decide_eq_false (show ¬ 24 < p.chain.length by omega)]; decide
  ·refine go ?_
   obtain ⟨a, ha, hA1, hA2⟩ := h.all hs
   refine c_arr (1000 + 45) (fun k => [.val (.int .u32 ((a k : Nat) : Int))]) (fun e he => ?_) (fun _ => rfl) ?_
   ·rw [ha]; unfold modQ
    by_cases q : e < p.chain.length
    ·rw [appF_lt q, if_pos q]
    ·rw [appF_ge (by omega), if_neg q, show e - p.chain.length = 0 by omega]; rfl
   obtain ⟨M, hM⟩ : ∃ M, M = p.chain.length + 1 := ⟨_, rfl⟩
   rw [← hM] at hA1 hA2 ⊢
   refine c_freeze (1000 + 45) ?_
   refine c_slot 3 (.fz false M 1 (fun k => [.val (.int .u32 ((a k : Nat) : Int))])) ?_
   refine c_up M (fun j => [(4, .val (.int .i64 (j : Nat)))]) (fun _ => []) (fun i hi => ?_)
   refine go ?_
   refine c_if (fun h3 => ?_) (fun h3 => ?_)
   ·obtain ⟨b1, b2, b3⟩ := hA1 i h3
    refine go ?_
    refine c_ifB (fun h4 => absurd h4 ?_) (fun _ => ?_)
    ·rw [decide_eq_false (show ¬ a i < 3 by omega), decide_eq_false (show ¬ 2147483647 < a i by omega), decide_eq_false (show ¬ a i % 2 = 0 by omega)]; decide
    ·refine go ?_
     refine c_up i (fun j => [(5, .val (.int .i64 (j : Nat)))]) (fun _ => []) (fun k hk => ?_)
     refine go ?_
     refine c_if (fun h5 => ?_) (fun h5 => ?_)
     ·refine go ?_
      refine c_if (fun h6 => absurd h6 (hA2 k i h5 h3)) (fun _ => ?_)
      refine go ?_
      exact ⟨h5, sub⟩
     ·refine go ?_
      exact ⟨h3, sub⟩
   ·refine go ?_
    refine fin ?_
    exact cv
open Go.RowKit
set_option maxRecDepth 20000
set_option maxHeartbeats 4000000
theorem rowOk_eq {p : PD} {n : Nat} {lv k : Nat} {ln : Nat → Nat} {g : Nat → Nat → Nat} (hn : p.n = n) : rowOk p lv ln g k = !(decide (ln k ≠ n) || hasI (fun j => decide (modQ p lv k ≤ g k j)) (ln k)) := by
 unfold rowOk
 rw [hn]
 by_cases q : ln k = n
 ·simp [q]
 ·have q2 : ¬ ((ln k : Nat) : Int) = (n : Int) := fun e => q (by omega)
  simp [q, q2]
theorem r09Check_den0 (p : PD) (h : VP p) (hs : p.special ≠ 0) (lv : Int) (sp : Bool) (m : Nat) (ln : Nat → Nat) (g : Nat → Nat → Nat) (hln : ∀ k, ln k ≤ 1000000) (hm : m ≤ 1000000) : Den Try.prog 6 [.agg (parL true p), .agg (elG true lv sp m ln g)] (.val (.int .i64 (errI (elOk p lv sp m ln g)))) := by
 refine den_intro (fn := Try.f6) rfl rfl rfl rfl rfl ?_
 have l2 := h.len2
 refine go ?_
 refine r_call (r09Valid_den p h hs) ?_
 refine go ?_
 refine g_callM (hl := fun hb => r_call (r09place_den p lv sp) (run_fin rfl)) (h := ?_)
 refine go ?_
 refine c_ifB (fun h1 => ?_) (fun h1 => ?_)
 ·refine go ?_
  refine fin ?_
  rw [elOk_1 (show placeB p lv sp = false from b_no h1)]
  exact cv
 ·have hp : placeB p lv sp = true := b_ok h1
  have hlv : 1 ≤ lv ∧ lv ≤ (p.chain.length : Int) := by
   simp only [placeB, Bool.and_eq_true, decide_eq_true_eq] at hp
   exact hp.1
  obtain ⟨lv, rfl⟩ := Int.eq_ofNat_of_zero_le (show 0 ≤ lv by omega)
  have hM : modN p lv sp ≤ 1001 := by unfold modN; split <;> omega
  refine go ?_
  refine r_call (r09Moduli_den p lv sp (by omega) (by omega)) ?_
  refine go ?_
  refine c_if (fun h3 => ?_) (fun h3 => ?_)
  ·refine go ?_
   refine fin ?_
   rw [elOk_2 (show m ≠ modN p (lv : Int).toNat sp from fun e => h3 (by rw [e]; simp))]
   exact cv
  ·obtain rfl : m = modN p lv sp := by omega
   obtain ⟨n, hn, hn32⟩ : ∃ n : Nat, p.n = n ∧ n ≤ 32 := by
    rcases h.n with q | q | q | q
    ·exact ⟨4, by rw [q]; rfl, by omega⟩
    ·exact ⟨8, by rw [q]; rfl, by omega⟩
    ·exact ⟨16, by rw [q]; rfl, by omega⟩
    ·exact ⟨32, by rw [q]; rfl, by omega⟩
   obtain ⟨M, hMM⟩ : ∃ M, M = modN p lv sp := ⟨_, rfl⟩
   rw [← hMM] at hM h3 ⊢
   refine go ?_
   refine c_down (fun j => M - j) (fun j => j ≤ M ∧ ∀ k, k < j → rowOk p lv ln g k = true) (fun j : Nat => [(6, .val (.int .i64 (j : Int)))]) (fun _ => []) 0 (fun k ⟨hk, hF⟩ => ?_) ⟨by omega, fun e he => by omega⟩
   refine go ?_
   refine c_if (fun h4 => ?_) (fun h4 => ?_)
   ·have hrow := rowOk_eq (lv := lv) (ln := ln) (g := g) (k := k) hn
    refine go ?_
    refine c_if (fun h5 => ?_) (fun h5 => ?_)
    ·refine go ?_
     refine fin ?_
     rw [elOk_3 h4 (by rw [Int.toNat_natCast, hrow, decide_eq_true h5]; rfl)]
     exact cv
    ·have hlk : ln k = n := by omega
     refine go ?_
     refine c_down (fun j => n - j) (fun j => j ≤ n ∧ ∀ e, e < j → decide (modQ p lv k ≤ g k e) = false) (fun j : Nat => [(7, .val (.int .i64 (j : Int)))]) (fun _ => []) 0 (fun j ⟨hj, hG⟩ => ?_) ⟨by omega, fun e he => by omega⟩
     refine go ?_
     refine c_if (fun h6 => ?_) (fun h6 => ?_)
     ·have h6' : j < n := by omega
      refine go ?_
      refine c_if (fun h7 => ?_) (fun h7 => ?_)
      ·refine go ?_
       refine fin ?_
       rw [elOk_3 h4 (by rw [Int.toNat_natCast, hrow, hasI_spec.2 ⟨j, by omega, decide_eq_true h7⟩]; simp)]
       exact cv
      ·refine go ?_
       refine ⟨j + 1, ⟨by omega, fun e he => ?_⟩, by omega, ?_⟩
       ·by_cases q : e < j
        ·exact hG e q
        ·obtain rfl : e = j := by omega
         exact decide_eq_false h7
       ·exact sub
     ·obtain rfl : j = n := by omega
      refine go ?_
      refine ⟨k + 1, ⟨by omega, fun e he => ?_⟩, by omega, ?_⟩
      ·by_cases q : e < k
       ·exact hF e q
       ·obtain rfl : e = k := by omega
        rw [hrow, hasI_no (by rw [hlk]; exact hG), decide_eq_false h5]; rfl
      ·exact sub
   ·obtain rfl : k = M := by omega
    refine go ?_
    refine fin ?_
    rw [elOk_4 hp hMM hF]
    exact cv
theorem r09Check_den (p : PD) (h : VP p) (hs : p.special ≠ 0) (e : EG) (hln : ∀ k, e.ln k ≤ 1000000) (hm : e.m ≤ 1000000) : Den Try.prog 6 [.agg (parL true p), .agg (elD true e)] (.val (.int .i64 (errI (eOk p e)))) := r09Check_den0 p h hs e.lv e.sp e.m e.ln e.g hln hm
open Go.RowKit
set_option maxRecDepth 20000
set_option maxHeartbeats 4000000
structure St (p : PD) (lv ex : Int) : Prop where
 good : Good p.par
 l1 : 1 ≤ lv
 l2 : lv ≤ (p.chain.length : Int)
 e1 : 1 ≤ ex
 e2 : ex ≤ p.power
theorem good_special {p : PD} (h : Good p.par) : p.special ≠ 0 := fun e => by
 have := h.2.2.2.2.2.2.2.1.1
 simp only [PD.par] at this
 omega
open Go.RowKit
set_option maxRecDepth 20000
set_option maxHeartbeats 4000000
/-- Residues. -/
def Vg (p : PD) (lv : Nat) (g : Nat → Nat → Nat) : Prop := ∀ i j, g i j < modQ p lv i
theorem elOk_valid {p : PD} {n lv : Nat} {sp : Bool} {g : Nat → Nat → Nat} (h : Lv p n lv) (hg : Vg p lv g) : elOk p (lv : Int) sp (modN p lv sp) (fun _ => n) g = true :=
 elOk_4 (h.place sp) rfl fun k hk => by
  unfold rowOk
  rw [decide_eq_true h.n.symm, hasI_no (fun e he => decide_eq_false (Nat.not_le_of_lt (hg k e)))]; rfl
open Go.RowKit
set_option maxRecDepth 20000
set_option maxHeartbeats 4000000
open Go.RowKit
set_option maxRecDepth 20000
set_option maxHeartbeats 4000000
open Go.RowKit
set_option maxRecDepth 20000
set_option maxHeartbeats 4000000
open Go.RowKit
set_option maxRecDepth 20000
set_option maxHeartbeats 4000000
open Go.RowKit
set_option maxRecDepth 20000
set_option maxHeartbeats 4000000
open Go.RowKit
set_option maxRecDepth 20000
set_option maxHeartbeats 4000000
open Go.RowKit
set_option maxRecDepth 20000
set_option maxHeartbeats 4000000
theorem st_Lv {p : PD} {lv ex : Int} (h : St p lv ex) {n l : Nat} (hn : p.n = (n : Int)) (hl : lv = (l : Int)) : Lv p n l := ⟨good_VP h.good, good_special h.good, hn, by have := h.l1; omega, by have := h.l2; omega⟩
theorem good_n {p : PD} (h : Good p.par) : ∃ n : Nat, p.n = (n : Int) ∧ 4 ≤ n ∧ n ≤ 32 := by
 rcases h.1 with q | q | q | q
 ·exact ⟨4, q, by omega, by omega⟩
 ·exact ⟨8, q, by omega, by omega⟩
 ·exact ⟨16, q, by omega, by omega⟩
 ·exact ⟨32, q, by omega, by omega⟩
open Go.RowKit
set_option maxRecDepth 20000
set_option maxHeartbeats 4000000
noncomputable abbrev zerosD (n : Nat) : D := .fz true n Try.t2.size (fun _ => valL (Value.int .i64 0).cells.toList)
instance (n : Nat) : OldD (zerosD n) := (inferInstance : OldD (intsD true n (fun _ => 0)))
theorem resI_0 (q : Nat) : resI 0 q = 0 := by unfold resI; simp
theorem resI_f (q : Nat → Nat) : (fun k (j : Nat) => resI ((fun _ : Nat => (0 : Int)) j) (q k)) = fun _ _ => 0 := by funext k j; exact resI_0 _
theorem rgZero_den (p : PD) (n lv : Nat) (sp : Bool) (h : Lv p n lv) : Den Try.prog 21 [.agg (parL true p), .val (.int .i64 (lv : Int)), .val (.bool sp), zerosD n] (.tup [.agg (elL false lv sp (modN p lv sp) n (fun _ _ => 0)), .val (.int .i64 0)]) := by
 have := rgFromInts_den p n lv sp h (fun _ => 0) (fun _ => by omega)
 rw [resI_f] at this
 exact this
open Go.RowKit
set_option maxRecDepth 20000
set_option maxHeartbeats 4000000
instance fi85 : FI Try.prog 85 Try.f85 := ⟨Try.func85, Try.call85⟩
instance fi76 : FI Try.prog 76 Try.f76 := ⟨Try.func76, Try.call76⟩
instance fi57 : FI Try.prog 57 Try.f57 := ⟨Try.func57, Try.call57⟩
instance fi58 : FI Try.prog 58 Try.f58 := ⟨Try.func58, Try.call58⟩
instance fi45 : FI Try.prog 45 Try.f45 := ⟨Try.func45, Try.call45⟩
instance fi59 : FI Try.prog 59 Try.f59 := ⟨Try.func59, Try.call59⟩
instance fi77 : FI Try.prog 77 Try.f77 := ⟨Try.func77, Try.call77⟩
instance ti85 : TI Try.prog 85 Try.t85 (.pointer 90) := ⟨by kernel_rfl, by kernel_rfl⟩
instance ti90 : TI Try.prog 90 Try.t90 Try.t89.desc := ⟨by kernel_rfl, by kernel_rfl⟩
instance sz85 : SZ Try.prog 85 1 := SZ.of ti85 rfl
instance zr85 : ZR Try.prog 85 [.pointer none] := ZR.of ti85 rfl rfl rfl
instance sz90 : SZ Try.prog 90 3 := SZ.of ti90 rfl
instance zr90 : ZR Try.prog 90 [.pointer none, .int .i64 0, .int .i64 0] := ZR.of ti90 rfl rfl rfl
instance bt90 : BT Try.prog 90 [(0, 1), (1, 1), (2, 1)] [.pointer none, .int .i64 0, .int .i64 0] := BT.of (ns := [1, 1, 1]) ti90 rfl zr90.zr ⟨sz62.sz, ⟨sz3.sz, ⟨sz3.sz, trivial⟩⟩⟩ (by intro j; repeat (first | rfl | cases j with | zero => rfl | succ j => ?_))
instance ft90_0 : FT Try.prog 90 0 0 := FT.of ti90 rfl ti62 rfl rfl
instance fv90_0 : FV Try.prog 90 0 0 1 false := FV.one ti90 rfl ti62 rfl rfl
instance ft90_1 : FT Try.prog 90 1 1 := FT.of ti90 rfl ti3 rfl rfl
instance fv90_1 : FV Try.prog 90 1 1 1 false := FV.one ti90 rfl ti3 rfl rfl
instance ft90_2 : FT Try.prog 90 2 2 := FT.of ti90 rfl ti3 rfl rfl
instance fv90_2 : FV Try.prog 90 2 2 1 false := FV.one ti90 rfl ti3 rfl rfl
theorem gdapart_den (a b : Nat) (ha : a ≤ 4294967295) (h2 : 2 ≤ b) (hb : b ≤ 2147483647) (h : invB (a % b) b = true) : Den Try.prog 85 [.val (.int .u32 (a : Int)), .val (.int .u32 (b : Int))] (.val (.bool true)) := by
 refine den_intro (fn := Try.f85) rfl rfl rfl rfl rfl ?_
 have hm := Nat.mod_lt a (show 0 < b by omega)
 have hi := mInverse_den (a % b) b h2 hb hm
 rw [h] at hi
 refine go ?_
 refine r_call hi ?_
 refine go ?_
 refine fin ?_
 exact cv
theorem gdmade_den (p : PD) (n : Nat) (hp : PFit p) (hg : Good p.par) (hn : p.n = (n : Int)) : Den Try.prog 76 [.fptr true (parL true p), .val (.int .i64 31)] (.tup [.fptr false [.fptr true (parL true p), .val (.int .i64 31), .val (.int .i64 1)], .val (.bool true)]) := by
 refine den_intro (fn := Try.f76) rfl rfl rfl rfl rfl ?_
 have hL : Lv p n 1 := ⟨good_VP hg, good_special hg, hn, by omega, hg.2.1⟩
 have h32 := hL.n32
 have hN : NatIs p.n n := hn
 have hM : NatIs (max 0 (min p.n 32)) n := by show _ = _; omega
 have hv : p.chain.length ≤ 24 := hg.2.2.1
 have hch := hp.chain
 refine go ?_
 refine c_no ?_
 refine go ?_
 refine r_call (rgZero_den p n 1 false hL) ?_
 refine go ?_
 refine c_up p.chain.length (fun i => [(39, .val (.int .i64 (i : Nat)))]) (fun i => []) (fun i hi => ?_)
 refine go ?_
 refine c_if (fun h3 => ?_) (fun h3 => ?_)
 ·have hci := hch i h3
  refine go ?_
  refine c_up i (fun j => [(51, .val (.int .i64 (j : Nat)))]) (fun j => []) (fun j hj => ?_)
  refine go ?_
  refine c_if (fun h4 => ?_) (fun h4 => ?_)
  ·have h5 := hL.vp.mods j (by omega)
   simp only [modOk, Bool.and_eq_true, decide_eq_true_eq] at h5
   refine go ?_
   refine r_call (gdapart_den (p.chain.getD i 0) (p.chain.getD (0 + j) 0) hci (by rw [Nat.zero_add]; omega) (by rw [Nat.zero_add]; omega) (by rw [Nat.zero_add]; exact good_apart hg (by omega) h3)) ?_
   refine go ?_
   refine c_no ?_
   refine go ?_
   refine ⟨by omega, ?_⟩
   exact sub
  ·refine go ?_
   refine ⟨h3, ?_⟩
   exact sub
 ·refine go ?_
  refine fin_frz 1069 ?_
  refine fin ?_
  exact cv
theorem gdlevel_den (p : PD) (lv : Int) : Den Try.prog 58 [.fptr true [.fptr true (parL true p), .val (.int .i64 31), .val (.int .i64 1)], .val (.int .i64 lv)] (.val (.bool (decide (1 ≤ lv) && decide (lv ≤ (p.chain.length : Int))))) := by
 refine den_intro (fn := Try.f58) rfl rfl rfl rfl rfl ?_
 refine go ?_
 refine fin ?_
 exact cv
theorem gdasked_den (p : PD) (n : Nat) (hp : PFit p) (hg : Good p.par) (hn : p.n = (n : Int)) (lv : Int) : Den Try.prog 57 [.fptr true (parL true p), .val (.int .i64 31), .val (.int .i64 lv), .val (.func (.func 58) #[] #[])] (.tup [.fptr false [.fptr true (parL true p), .val (.int .i64 31), .val (.int .i64 1)], .val (.bool (decide (1 ≤ lv) && decide (lv ≤ (p.chain.length : Int))))]) := by
 refine den_intro (fn := Try.f57) rfl rfl rfl rfl rfl ?_
 refine go ?_
 refine r_callO (gdmade_den p n hp hg hn) ?_
 refine go ?_
 refine r_callO (gdlevel_den p lv) ?_
 refine go ?_
 refine fin ?_
 exact cv
open Go.RowKit
set_option maxRecDepth 20000
set_option maxHeartbeats 4000000
/-- A cutter of whole residues. -/
abbrev cutL (p : PD) : List D := [.fptr true (parL true p), .val (.int .i64 31), .val (.int .i64 1)]
theorem SlotCv.clo {H : Nat → Option Box} {fn : FuncId} {l l' : List D} (h : SlotCvL H l l') : SlotCv H (.clo fn l) (.clo fn l') := fun S E a w Z i v hF hv => by
 cases hv with | clo _ _ vs _ hl hr => exact .clo _ fn vs _ (hl.trans h.len) (fun j hj => h.at j S E a w Z i _ hF (hr j (by rw [h.len]; exact hj)))
section
variable {P : Program} {fn : Func} {r : D} {hs rs : Hs} {env : List (Nat × D)} {box : List (Nat × Option Box)}
theorem fin_slot (t : Nat) (d : D) {d0 : D} (hc : SlotCv (hk box) d0 d) (h : FinS P fn r hs rs (lk ((t, d) :: env)) (hk box)) (ht : Lk env t d0 := by (repeat (first | exact Lk.here | apply Lk.there rfl))) : FinS P fn r hs rs (lk env) (hk box) := h.sub (sub_conv t d ht.eq hc)
end
theorem gddigits_den (p : PD) (x : Int) : DenH Try.prog 59 [.fptr true (cutL p), .val (.int .i64 x)] [] (.clo 77 [.fptr false [.fptr true (cutL p)], .eptr 1003 0 0 0]) [] [(1003, .lit 2 [.val (.int .i64 x)])] := by
 refine den_intro (fn := Try.f59) rfl rfl rfl rfl rfl ?_
 refine go ?_
 refine fin_frz 1002 ?_
 refine fin_slot 4 (.clo 77 [.fptr false [.fptr true (cutL p)], .eptr 1003 0 0 0]) (.clo (.cons (.ice (ns := [1002]) (CvV.icel (t := 85) (n := 1) rfl rfl rfl rfl)) (.cons (.refl _) .nil))) ?_
 exact finN
open Go.RowKit Go.Shelf
attribute [local go_sem] Oper.semAt_some
set_option maxRecDepth 100000 in
set_option maxHeartbeats 2000000 in
theorem gddigits1_itr (p : PD) (x : Int) (hx1 : -1073741824 ≤ x) (hx2 : x ≤ 1073741824) : ItrDM Try.prog 77 (.fptr true [.fptr true (cutL p)]) 2 (fun z : Int => .int .i64 z) x [[.val (.int .i64 0), .val (.int .i64 x)]] := fun l C0 Z0 W0 v0 bx J Jx hJ hJx hJ0 hv hY => by
 obtain ⟨b1, o1, rfl, h1⟩ := rep_fptr hv
 obtain ⟨u1, c1, z1, r1⟩ := h1 0 (by simp)
 obtain ⟨bc, oc, rfl, hc⟩ := rep_fptr r1
 obtain ⟨u2, c2, z2, r2⟩ := hc 1 (by simp)
 obtain ⟨u3, c3, z3, r3⟩ := hc 2 (by simp)
 obtain rfl := rep_val r2
 obtain rfl := rep_val r3
 simp only [Nat.add_zero] at c1 c2 c3
 replace z1 := z1.2
 replace z2 := z2.2
 have HJ := Lib.hid hJ
 have round : ∀ C Z W (wm : KZ Z0 W0 W) (hz : ∀ b, Z0 b → Z b), J 0 x C Z W → W0.heap.size ≤ W.heap.size → YieldAt (Fw none) 0 Try.prog l #[.int .i64 0, .int .i64 x] W fun e W' =>
   (e = .returned (.bool true) ∧ ∃ C' Z', J 1 x C' Z' W' ∧ KZ Z0 W0 W' ∧ (∀ b, Z0 b → Z' b) ∧ W0.heap.size ≤ W'.heap.size) ∨ (e = .returned (.bool false) ∧ ∃ k' C' Z', Jx k' C' Z' W') := fun C Z W wm hz hJk hsz => by
  refine (hY 0 x C Z W _ [.int .i64 0, .int .i64 x] (fun _ => False) rfl hJk (fun _ h => h.elim) ⟨rfl, fun j hj => ?_⟩ hsz).mono ?_
  ·match j, hj with
   | 0, _ => exact .val _ _
   | 1, _ => exact .val _ _
  ·rintro e W' (⟨rfl, C', Z', q1, q2, q3, q4⟩ | q)
   ·exact .inl ⟨rfl, C', Z', q1, fun b hb => (q2.block b ((hJ.lt hJk).2 b (hz b hb)) (fun hc => ((hJ.lt hJk).1 b hc).2 (hz b hb))).trans (wm b hb), fun b hb => q4 b (.inl (hz b hb)), Nat.le_trans hsz q2.size⟩
   ·exact .inr q
 have HR := Lib.hid round
 clear hJ hY round hv h1 hc r1 r2 r3
 refine callsIn_of_wp Try.func77 rfl trivial ?_ rfl
 simp only [Try.ntmps77, List.size_toArray, List.length_cons, List.length_nil, Nat.reduceAdd, Nat.reduceSub, Array.replicate_succ, Array.replicate_zero, List.push_toArray, List.append_toArray, List.nil_append, List.cons_append]
 gi_wp2
 gi_loopw [17] (fun i wr => ∃ (k : Nat) (y : Int) (C Z : Nat → Prop), k ≤ 1 ∧ (k = 0 → y = x) ∧ i = .int .i64 k ∧ J k y C Z wr ∧ KZ Z0 W0 wr ∧ (∀ b, Z0 b → Z b) ∧ W0.heap.size ≤ wr.heap.size)
  (fun i _ => 1 - (intOf i).toNat)
 case atStart => exact ⟨0, x, C0, Z0, Nat.zero_le _, fun _ => rfl, rfl, HJ.out.stable hJ0 ⟨rfl, rfl, rfl, Nat.le_refl _⟩ (fun _ _ _ => rfl), fun _ _ => rfl, fun _ h => h, Nat.le_refl _⟩
 case round =>
  obtain ⟨k, y, C, Z, hk, hy0, rfl, hJs, hnx, hzz, hsz⟩ := hrel
  by_cases hlt : k < 1
  ·obtain rfl : k = 0 := by omega
   obtain rfl := hy0 rfl
   obtain ⟨fn, tmps, assign, body, hy, hR⟩ := HR.out C Z wr hnx hzz hJs hsz
   have d1 := hnx.cell c1 z1
   have d2 := hnx.cell c2 z2
   have d3 := hnx.cell c3 z2
   have dx : wr.cell? ⟨bx, 0, none⟩ = some (.int .i64 y) := (HJ.out.peek hJs).1.cell 0 (by simp)
   gi_wp2
   refine ⟨rfl, hR.mono ?_⟩
   rintro e W3 (⟨rfl, C', Z', hJ3, hk3, hz3, hs3⟩ | ⟨rfl, hJx3⟩)
   ·clear d1 d2 d3 dx
    have d1 := hk3.cell c1 z1
    have d2 := hk3.cell c2 z2
    have d3 := hk3.cell c3 z2
    have dx : W3.cell? ⟨bx, 0, none⟩ = some (.int .i64 y) := (HJ.out.peek hJ3).1.cell 0 (by simp)
    have fx : W3.frozen? ⟨bx, 0, none⟩ = false := by
     have := (HJ.out.peek hJ3).1
     unfold Bk at this
     simp [World.frozen?, this]
    gi_wp2
    gi_region
    gi_wp2
    go_roundw
    case rel =>
     have hb := (HJ.out.peek hJ3).1
     have hX : ∀ b, b ≠ bx → (W3.setCell ⟨bx, 0, none⟩ (.int .i64 0)).drew.heap[b]? = W3.heap[b]? := fun b hb => by
      show (W3.setCell ⟨bx, 0, none⟩ (.int .i64 0)).heap[b]? = _
      simp [World.setCell, Array.getElem?_modify, Ne.symm hb]
     have hsz3 : (W3.setCell ⟨bx, 0, none⟩ (.int .i64 0)).drew.heap.size = W3.heap.size := by show (W3.setCell ⟨bx, 0, none⟩ (.int .i64 0)).heap.size = _; simp
     refine ⟨1, 0, C', Z', Nat.le_refl _, fun h => absurd h (by omega), rfl, HJ.out.poke (W' := (W3.setCell ⟨bx, 0, none⟩ (.int .i64 0)).drew) hJ3 ⟨rfl, rfl, rfl, hsz3⟩ hX ?_, fun b hzb => (hX b (fun e => ?_)).trans (hk3 b hzb), hz3, by rw [hsz3]; exact hs3⟩
     ·unfold Bk at hb ⊢
      show (W3.setCell ⟨bx, 0, none⟩ (.int .i64 0)).heap[bx]? = _
      simp [World.setCell, Array.getElem?_modify, hb]
     ·subst e
      exact (HJ.out.peek hJ3).2.1 (hz3 _ hzb)
    case measure => simp [intOf]
   ·gi_wp2
    refine bodyPost_ret (results_none rfl _ _ _) rfl ?_
    exact ⟨⟨_, rfl⟩, .inr hJx3⟩
  ·obtain rfl : k = 1 := by omega
   gi_wp2
   go_end0
   exact ⟨⟨_, rfl⟩, .inl ⟨y, C, Z, hJs⟩⟩
open Go.RowKit
set_option maxRecDepth 20000
set_option maxHeartbeats 4000000
open Go.RowKit
set_option maxRecDepth 20000
set_option maxHeartbeats 4000000
structure Cv (p : PD) (n lv ex : Nat) : Prop where
 fit : PFit p
 st : St p (lv : Int) (ex : Int)
 n : p.n = (n : Int)
theorem Cv.lv {p : PD} {n lv ex : Nat} (h : Cv p n lv ex) : Lv p n lv := st_Lv h.st h.n rfl
open Go.RowKit
set_option maxRecDepth 20000
set_option maxHeartbeats 4000000
section
variable {p : PD} {n lv : Nat}
theorem Lv.q0 (h : Lv p n lv) (r : Nat) : 0 < modQ p lv r := by have := modQ_in h.vp h.sp h.l2 r; omega
end
open Go.RowKit
set_option maxRecDepth 20000
set_option maxHeartbeats 4000000
open Go.RowKit
set_option maxRecDepth 20000
set_option maxHeartbeats 4000000
open Go.RowKit
set_option maxRecDepth 20000
set_option maxHeartbeats 4000000
/-- The three parts of a ciphertext with two. -/
abbrev partsL (lv n : Nat) (A : Nat → Nat → Nat → Nat) : List D := elL true lv false lv n (A 0) ++ (elL true lv false lv n (A 1) ++ elL true lv false lv n (fun _ _ => 0))
section
variable {ro : Option Nat} {P : Program} {N : Nat} {Q : Post} {c : Code} {env : List (Nat × D)} {box : List (Nat × Option Box)}
/-- A variable's cells, said otherwise. -/
theorem c_lit (k : Nat) {t : TypeId} {l : List D} (l' : List D) (hc : SlotCvL (hk box) l l') (h : AWp ro P N c (lk env) (hk ((k, some (.lit t l')) :: box)) Q) (hf : (Box.lit t l').free (fun k => (hk box k).isSome) = true := by kernel_rfl) (hb : Bl box k (.lit t l) := by (repeat (first | exact Bl.here | apply Bl.there rfl))) : AWp ro P N c (lk env) (hk box) Q := awp_sub (sub_box k _ (by rw [hb.eq]; exact BoxCv.lit hc) hf) h
end
open Go.RowKit
set_option maxRecDepth 20000
set_option maxHeartbeats 4000000
instance (lv n : Nat) (A : Nat → Nat → Nat → Nat) : OldDL (partsL lv n A) := (inferInstance : OldDL [.val (.int .i64 (lv : Int)), .val (.bool false), rowsD true lv n (A 0), .val (.int .i64 (lv : Int)), .val (.bool false), rowsD true lv n (A 1), .val (.int .i64 (lv : Int)), .val (.bool false), rowsD true lv n (fun _ _ => 0)])
open Go.RowKit
end Go.Proofs.Ytmjildbdkecolaa
