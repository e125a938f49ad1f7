/- Parameters by data: what the elder walks say of Check and Default.
The primes of good parameters are primes, and prime to one another.
Which levels, exponents, elements and ciphertexts are valid; what is too large: by data.
The reference's ring, by data: which elements are valid.
The reference's ring, by data: Check.
Which ciphertexts are valid: by data.
The program's ring, by data: alike, products, multiples of valid elements.
The program's ring, by data: sums.
The program's ring, by data: differences, products, multiples.
The reference's ring, by data: elements of integers.
The reference's ring, by data: elements of integers, rows of the call's own.
The plain modulus: by data.
Plain polynomials: by data.
Ciphertexts without a key: by data.
Ciphertexts without a key: by data.
Digits of elements, by data: which parameters have them.
The digits of a number, by data: the iterator's making.
The reference's ciphertexts without a key: memory of the call's own.
Arithmetic with ciphertexts, by data: valid ones, parts made one by one.
Arithmetic with ciphertexts, by data: multiples, plain polynomials, products.
Arithmetic with ciphertexts, by data: sums and products with plain polynomials, tensors.
Arithmetic with ciphertexts, by data: tensors. -/
import Derived.Test.YtefoddjclngckaaGreatPsf29
import Derived.Test.YtefoddjclngckaaGreatPsf46
import Derived.Test.YtefoddjclngckaaGreatPsf45
import Derived.Test.YtefoddjclngckaaGreatPsf15
import Derived.Test.YtefoddjclngckaaGreatPsf13
import Derived.Test.YtefoddjclngckaaGreatPsf38
import Derived.Test.YtefoddjclngckaaGreatPsf30
import Derived.Test.YtefoddjclngckaaGreatPsf27
import Derived.Test.YtefoddjclngckaaGreatPsf31
set_option linter.unusedSimpArgs false
set_option linter.unusedVariables false
set_option linter.unnecessarySimpa false
namespace Go.Proofs.YtefoddjclngckaaGreat
open Go.RowKit
set_option maxRecDepth 20000
set_option maxHeartbeats 4000000
def PD.par (p : PD) : Par := ⟨p.n, p.prime, p.power, p.chain, p.special, p.weight, p.err⟩
/-- Each number fits its type. -/
structure PFit (p : PD) : Prop where
  n1 : -9223372036854775808 ≤ p.n
  n2 : p.n ≤ 9223372036854775807
  prime : p.prime ≤ 4294967295
  power1 : -9223372036854775808 ≤ p.power
  power2 : p.power ≤ 9223372036854775807
  chain : ∀ i, i < p.chain.length → p.chain.getD i 0 ≤ 4294967295
  special : p.special ≤ 4294967295
  weight1 : -9223372036854775808 ≤ p.weight
  weight2 : p.weight ≤ 9223372036854775807
  err : p.err ≤ 4294967295
theorem rep_agg {Z : Zn} {w : World} {i : Nm} {v : Value} {l : List D} (h : Rep Z w i v (.agg l)) : ∃ vs : List Value, v = .agg vs.toArray ∧ vs.length = l.length ∧ ∀ j, j < l.length → Rep Z w i (vs.getD j undef) (dl l j) := by
  cases h with | agg _ vs _ hl h1 hr => exact ⟨vs, rfl, hl, hr⟩
theorem rep_u32s {Z : Zn} {w : World} {i : Nm} {v : Value} {l : List Nat} (h : Rep Z w i v (u32sD true l)) : ∃ ao cc, v = .slice ao l.length cc ∧ l.length ≤ cc ∧ cc ≤ 9223372036854775807 ∧ Rd w ao l := by
  unfold u32sD at h
  cases h with | fz _ _ ao _ cap _ _ vs h1 h2 hl ha hr =>
  refine ⟨ao, cap, rfl, h1, h2, fun k hk => ?_⟩
  obtain ⟨b, p, e, _, _, _⟩ := ha k 0 hk (by omega)
  refine ⟨b, p, e, fun j hj => ?_⟩
  obtain ⟨b', p', e', _, hc, _⟩ := ha j 0 hj (by omega)
  rw [e] at e'; cases e'
  have := rep_val (hr j 0 hj (by omega))
  rw [this] at hc
  simpa using hc
theorem rep_par {Z : Zn} {w : World} {i : Nm} {v : Value} {p : PD} (hp : PFit p) (h : Rep Z w i v (.agg (parL true p))) : ∃ ca cc, v = .agg (p.par.cells ca cc) ∧ ParIn w p.par ca cc := by
  obtain ⟨vs, rfl, hl, hr⟩ := rep_agg h
  match vs, hl with
  | [v0, v1, v2, v3, v4, v5, v6], _ =>
    have r0 := rep_val (hr 0 (by simp [parL]))
    have r1 := rep_val (hr 1 (by simp [parL]))
    have r2 := rep_val (hr 2 (by simp [parL]))
    obtain ⟨ca, cc, r3, h1, h2, h3⟩ := rep_u32s (hr 3 (by simp [parL]))
    have r4 := rep_val (hr 4 (by simp [parL]))
    have r5 := rep_val (hr 5 (by simp [parL]))
    have r6 := rep_val (hr 6 (by simp [parL]))
    change v0 = _ at r0
    change v1 = _ at r1
    change v2 = _ at r2
    change v3 = _ at r3
    change v4 = _ at r4
    change v5 = _ at r5
    change v6 = _ at r6
    subst r0 r1 r2 r3 r4 r5 r6
    exact ⟨ca, cc, rfl, { rd := h3, n1 := hp.n1, n2 := hp.n2, prime := hp.prime, power1 := hp.power1, power2 := hp.power2, len := by show p.chain.length ≤ _; omega, room := h1, room2 := h2, chain := hp.chain, special := hp.special, weight1 := hp.weight1, weight2 := hp.weight2, err := hp.err }⟩
/-- An elder walk of a function of one argument, that makes a plain value. -/
theorem den_elder1 {P : Program} {f : FuncId} {d : D} {u : Value} (h : ∀ Z w i v, Rep Z w i v d → Calls P f #[v] w fun e w' => e = .returned u ∧ Below w.heap.size w w') : Den P f [d] (.val u) := fun Zc w i args hZ hi hH ha => by
  obtain ⟨hl, hr⟩ := ha
  match args, hl with
  | [v], _ =>
    refine (h _ w i v (hr 0 (by simp))).mono fun e w' ⟨he, hb⟩ => ?_
    have hi' : ∀ k, i k = none := fun k => hi k (by simp [Hs.keys])
    exact ⟨u, i, fun _ => False, he, Kept.of_below hb _, fun b hb => hb.elim, fun k hk => by simp [Hs.keys] at hk, fun k _ _ => hi' k, fun k B b hm => by simp at hm, fun k B hm => by simp at hm, ⟨fun k B hm => by simp at hm, fun k k' B B' b hm => by simp at hm⟩, .val _ _⟩
open Classical in
noncomputable def goodB (p : PD) : Bool := tr (Good p.par)
theorem goodB_iff {p : PD} : goodB p = true ↔ Good p.par := by
  unfold goodB
  by_cases h : Good p.par
  · rw [tr_pos h]; simp [h]
  · rw [tr_neg h]; simp [h]
theorem pcheck_den (p : PD) (hp : PFit p) : Den Tryz.prog 48 [.agg (parL true p)] (.val (.int .i64 (errI (goodB p)))) := den_elder1 fun Z w i v hv => by
  obtain ⟨ca, cc, rfl, hin⟩ := rep_par hp hv
  exact pcheck_walk p.par ca cc w hin
theorem r12check_den (p : PD) (hp : PFit p) : Den Tryz.prog 52 [.agg (parL true p)] (.val (.int .i64 (errI (goodB p)))) := den_elder1 fun Z w i v hv => by
  obtain ⟨ca, cc, rfl, hin⟩ := rep_par hp hv
  exact r12check_walk p.par ca cc w hin
theorem goodQ_mod {step q : Nat} (he : step % 2 = 0) (h : GoodQ step q) : modOk q = true := by
  obtain ⟨h1, h2, h3, _⟩ := h
  have h4 : q % 2 = 1 := by
    have := Nat.mod_mod_of_dvd q (Nat.dvd_of_mod_eq_zero he)
    rw [h3] at this
    omega
  unfold modOk
  rw [decide_eq_true h4, decide_eq_true h2, decide_eq_true (show 3 ≤ q by omega)]; rfl
theorem hasI_no {p : Nat → Bool} {n : Nat} (h : ∀ e, e < n → p e = false) : hasI p n = false := by
  cases q : hasI p n with
  | false => rfl
  | true => obtain ⟨e, h1, h2⟩ := hasI_spec.1 q; rw [h e h1] at h2; cases h2
theorem good_VP {p : PD} (h : Good p.par) : VP p := by
  obtain ⟨h1, h2, h3, _, _, _, _, h8, h9, h10⟩ := h
  have he : (2 * p.par.n.toNat * plainV p.par.n.toNat p.par.prime p.par.power) % 2 = 0 := by rw [Nat.mul_assoc]; exact Nat.mul_mod_right _ _
  exact { n := h1, len1 := h2, len2 := h3, mods := fun j hj => goodQ_mod he (h9 j hj).1, apart := fun j hj => hasI_no fun e he => decide_eq_false fun q => h10 e j he hj q.symm, special := .inr ⟨goodQ_mod he h8, hasI_no fun e he => decide_eq_false fun q => by have := (h9 e he).2; simp only [PD.par] at this; omega⟩ }
/-- Default parameters, as new memory. -/
theorem r12default_den (n prime lv t q0 : Nat) (power : Int) (qs : List Nat) (hn : n = 4 ∨ n = 8 ∨ n = 16 ∨ n = 32) (hp : prime ≤ 4294967295) (hw1 : -9223372036854775808 ≤ power) (hw2 : power ≤ 9223372036854775807) (hl1 : 1 ≤ lv) (hl2 : lv ≤ 24)
    (hT : plainV n prime power = t) (ht : 3 ≤ t) (ht2 : t ≤ 2147483647) (hto : t % 2 = 1) (hst : 2 * n * t ≤ 2147483647) (hch : chainOf n t (lv + 1) = q0 :: qs) (hqs : qs.length = lv) :
    Den Tryz.prog 122 [.val (.int .i64 (n : Int)), .val (.int .u32 (prime : Int)), .val (.int .i64 power), .val (.int .i64 (lv : Int))] (.tup [.agg (parL false ⟨n, prime, power, qs, q0, 4, 2⟩), .val (.int .i64 0)]) := fun Zc w i args hZ hi hH ha => by
  obtain ⟨hl, hr⟩ := ha
  match args, hl with
  | [v0, v1, v2, v3], _ =>
    have r0 := rep_val (hr 0 (by simp))
    have r1 := rep_val (hr 1 (by simp))
    have r2 := rep_val (hr 2 (by simp))
    have r3 := rep_val (hr 3 (by simp))
    change v0 = _ at r0
    change v1 = _ at r1
    change v2 = _ at r2
    change v3 = _ at r3
    subst r0 r1 r2 r3
    refine (r12default_own n prime lv t q0 power qs w hn hp hw1 hw2 hl1 hl2 hT ht ht2 hto hst hch hqs).mono fun e w' ⟨ca, cc, he, hin, hown, hb⟩ => ?_
    have hi' : ∀ k, i k = none := fun k => hi k (by simp [Hs.keys])
    obtain ⟨b, o, rfl, hcell⟩ := hin.rd 0 (by show 0 < qs.length; omega)
    have hge : w.heap.size ≤ b := by
      by_cases hlt : b < w.heap.size
      · have hq := (hown (w'.setCell ⟨b, o, none⟩ (.bool true)) [b] ((Turn.refl w' [b]).setCell (p := ⟨b, o, none⟩) (.inl (by simp)) (.bool true)) (fun x hx => by simp at hx; omega)).rd 0 (by show 0 < qs.length; omega)
        obtain ⟨b', o', e', hc'⟩ := hq
        cases e'
        have h2 := hc' 0 (by show 0 < qs.length; omega)
        have h3 := hcell 0 (by show 0 < qs.length; omega)
        rw [Nat.add_zero] at h2 h3
        have h4 := World.cell?_setCell_same w' ⟨b, o, none⟩ (.bool true) h3
        rw [h4] at h2; cases h2
      · omega
    have hlt : b < w'.heap.size := by
      have h3 := hcell 0 (by show 0 < qs.length; omega)
      unfold World.cell? at h3
      by_cases q : b < w'.heap.size
      · exact q
      · rw [Array.getElem?_eq_none (by show w'.heap.size ≤ b; omega)] at h3; cases h3
    refine ⟨_, i, fun x => x = b, he, Kept.of_below hb _, fun x hx => by subst hx; exact ⟨hge, hlt⟩, fun k hk => by simp [Hs.keys] at hk, fun k _ _ => hi' k, fun k B b hm => by simp at hm, fun k B hm => by simp at hm, ⟨fun k B hm => by simp at hm, fun k k' B B' b hm => by simp at hm⟩, ?_⟩
    refine .tup i [_, _] _ rfl fun j hj => ?_
    match j, hj with
    | 1, _ => exact .val _ _
    | 0, _ =>
      refine .agg i [_, _, _, _, _, _, _] _ rfl (fun j hj => ?_) fun j hj => ?_
      · match j, hj with
        | 0, _ | 1, _ | 2, _ | 3, _ | 4, _ | 5, _ | 6, _ => rfl
      · match j, hj with
        | 0, _ => exact .val _ _
        | 1, _ => exact .val _ _
        | 2, _ => exact .val _ _
        | 4, _ => exact .val _ _
        | 5, _ => exact .val _ _
        | 6, _ => exact .val _ _
        | 3, _ =>
          refine .fz i false (some ⟨b, o, none⟩) qs.length cc 1 _ (fun e _ => .int .u32 (qs.getD e 0)) hin.room hin.room2 (fun _ _ => rfl) (fun e c he hc => ?_) (fun e c he hc => ?_)
          · obtain rfl : c = 0 := by omega
            exact ⟨b, o, rfl, rfl, by rw [Nat.mul_one, Nat.add_zero]; exact hcell e he, rfl⟩
          · obtain rfl : c = 0 := by omega
            exact .val _ _
end Go.Proofs.YtefoddjclngckaaGreat

namespace Go.Proofs.YtefoddjclngckaaGreat
open Go.RowKit
theorem goodQ_pr {s q : Nat} (h8 : s % 8 = 0) (h : GoodQ s q) : Pr q := by
  obtain ⟨h1, h2, h3, h4⟩ := h
  have hq : q % 8 = 1 := by rw [← Nat.mod_mod_of_dvd q (Nat.dvd_of_mod_eq_zero h8), h3]
  rcases h4 with e | e | e | ⟨_, _, d7, d61, u, k, e, hu, s2, s7, s61⟩
  · omega
  · omega
  · omega
  · exact strong_prime (by omega) hq (.inr ⟨h1, by omega⟩) e hu s2 s7 s61 (by omega) (by omega)
theorem good_8 {p : Par} (h : Good p) : (2 * p.n.toNat * plainV p.n.toNat p.prime p.power) % 8 = 0 := by
  have h4 : p.n.toNat % 4 = 0 := by rcases h.1 with e | e | e | e <;> rw [e] <;> rfl
  obtain ⟨m, hm⟩ : ∃ m, p.n.toNat = 4 * m := ⟨p.n.toNat / 4, by omega⟩
  rw [hm, show 2 * (4 * m) * plainV (4 * m) p.prime p.power = 8 * (m * plainV (4 * m) p.prime p.power) from by rw [← Nat.mul_assoc, ← Nat.mul_assoc]]
  exact Nat.mul_mod_right _ _
theorem Good.pr {p : Par} (h : Good p) {i : Nat} (hi : i < p.chain.length) : Pr (p.chain.getD i 0) := goodQ_pr (good_8 h) (h.2.2.2.2.2.2.2.2.1 i hi).1
theorem eu_gcd : ∀ (f x y : Nat) (u v : Int), y < f → (eu f x y u v).1 = Nat.gcd x y
  | 0, x, y, u, v, h => by omega
  | f + 1, x, y, u, v, h => by
    unfold eu
    by_cases q : y = 0
    · rw [if_pos q, q, Nat.gcd_zero_right]
    · rw [if_neg q]
      have := Nat.mod_lt x (show 0 < y by omega)
      rw [eu_gcd f y (x % y) v _ (by omega), Nat.gcd_comm x y, Nat.gcd_rec y x, Nat.gcd_comm]
theorem inv_pr {a b : Nat} (ha : Pr a) (hb : Pr b) (h : a ≠ b) : invB (a % b) b = true := by
  unfold invB invE
  refine decide_eq_true ?_
  rw [eu_gcd _ _ _ _ _ (by omega), Nat.gcd_comm, ← Nat.gcd_rec]
  refine hb.coprime (fun hd => ?_)
  rcases ha.2 b hd with e | e
  · have := hb.1; omega
  · exact h e.symm
theorem good_apart {p : Par} (h : Good p) {i j : Nat} (hij : j < i) (hi : i < p.chain.length) : invB (p.chain.getD i 0 % p.chain.getD j 0) (p.chain.getD j 0) = true :=
  inv_pr (h.pr hi) (h.pr (by omega)) (fun e => h.2.2.2.2.2.2.2.2.2 j i hij hi e.symm)
end Go.Proofs.YtefoddjclngckaaGreat

namespace Go.Proofs.YtefoddjclngckaaGreat
open Go.RowKit
set_option maxRecDepth 20000
set_option maxHeartbeats 4000000
instance fi116 : FI Tryz.prog 116 Tryz.f116 := ⟨Tryz.func116, Tryz.call116⟩
instance fi119 : FI Tryz.prog 119 Tryz.f119 := ⟨Tryz.func119, Tryz.call119⟩
instance fi48 : FI Tryz.prog 48 Tryz.f48 := ⟨Tryz.func48, Tryz.call48⟩
instance fi52 : FI Tryz.prog 52 Tryz.f52 := ⟨Tryz.func52, Tryz.call52⟩
instance fi122 : FI Tryz.prog 122 Tryz.f122 := ⟨Tryz.func122, Tryz.call122⟩
instance fi47 : FI Tryz.prog 47 Tryz.f47 := ⟨Tryz.func47, Tryz.call47⟩
instance fi105 : FI Tryz.prog 105 Tryz.f105 := ⟨Tryz.func105, Tryz.call105⟩
instance fi36 : FI Tryz.prog 36 Tryz.f36 := ⟨Tryz.func36, Tryz.call36⟩
instance fi37 : FI Tryz.prog 37 Tryz.f37 := ⟨Tryz.func37, Tryz.call37⟩
instance fi80 : FI Tryz.prog 80 Tryz.f80 := ⟨Tryz.func80, Tryz.call80⟩
instance fi149 : FI Tryz.prog 149 Tryz.f149 := ⟨Tryz.func149, Tryz.call149⟩
instance fi150 : FI Tryz.prog 150 Tryz.f150 := ⟨Tryz.func150, Tryz.call150⟩
instance fi151 : FI Tryz.prog 151 Tryz.f151 := ⟨Tryz.func151, Tryz.call151⟩
instance fi53 : FI Tryz.prog 53 Tryz.f53 := ⟨Tryz.func53, Tryz.call53⟩
instance fi9 : FI Tryz.prog 9 Tryz.f9 := ⟨Tryz.func9, Tryz.call9⟩
instance fi16 : FI Tryz.prog 16 Tryz.f16 := ⟨Tryz.func16, Tryz.call16⟩
structure EG where
  lv : Int
  sp : Bool
  m : Nat
  ln : Nat → Nat
  g : Nat → Nat → Nat
abbrev elD (o : Bool) (e : EG) : List D := elG o e.lv e.sp e.m e.ln e.g
structure CG where
  lv : Int
  ex : Int
  k : Nat
  P : Nat → EG
def eOk (p : PD) (e : EG) : Bool := elOk p e.lv e.sp e.m e.ln e.g
instance (p : PD) : CvtLI (parL false p) (parL true p) := by unfold parL u32sD; infer_instance
theorem errI_0 (b : Bool) : decide (errI b = 0) = b := by cases b <;> rfl
/-- What is looked at. -/
def smallE (e : EG) : Bool := decide (e.m ≤ 40) && evry (fun k => decide (e.ln k ≤ 80)) e.m
def smallC (c : CG) : Bool := decide (c.k ≤ 5) && evry (fun i => smallE (c.P i)) c.k
theorem large13_den (e : EG) (hm : e.m ≤ 9223372036854775807) (hl : ∀ k, e.ln k ≤ 9223372036854775807) : Den Tryz.prog 9 [.agg (elD true e)] (.val (.bool (!smallE e))) := by
  refine den_intro (fn := Tryz.f9) rfl rfl rfl rfl rfl ?_
  refine go ?_
  refine c_if (fun h1 => ?_) (fun h1 => ?_)
  · refine go ?_
    refine fin ?_
    rw [show smallE e = false by unfold smallE; rw [decide_eq_false (Nat.not_le_of_lt h1)]; rfl]
    exact cv
  · replace h1 : e.m ≤ 40 := Nat.le_of_not_lt h1
    refine go ?_
    refine c_down (fun j => e.m - j) (fun j => j ≤ e.m ∧ ∀ k, k < j → decide (e.ln k ≤ 80) = true) (fun j : Nat => [(3, .val (.int .i64 (j : Int)))]) (fun _ => []) 0 (fun j ⟨hj, hp⟩ => ?_) ⟨by omega, fun e he => by omega⟩
    refine go ?_
    refine c_if (fun h3 => ?_) (fun h3 => ?_)
    · refine go ?_
      refine c_if (fun h4 => ?_) (fun h4 => ?_)
      · refine go ?_
        refine fin ?_
        rw [show smallE e = false by unfold smallE; rw [evry_no h3 (decide_eq_false (Nat.not_le_of_lt h4))]; simp]
        exact cv
      · refine go ?_
        refine ⟨j + 1, ⟨by omega, fun k hk => ?_⟩, by omega, ?_⟩
        · by_cases q : k < j
          · exact hp k q
          · obtain rfl : k = j := by omega
            exact decide_eq_true (Nat.le_of_not_lt h4)
        · exact sub
    · refine go ?_
      obtain rfl : j = e.m := by omega
      refine fin ?_
      rw [show smallE e = true by unfold smallE; rw [decide_eq_true h1, evry_iff.2 hp]; rfl]
      exact cv
end Go.Proofs.YtefoddjclngckaaGreat

namespace Go.Proofs.YtefoddjclngckaaGreat
open Go.RowKit
set_option maxRecDepth 20000
set_option maxHeartbeats 4000000
theorem appF_lt {n e : Nat} {f g : Nat → List D} (h : e < n) : appF n f g e = f e := by
  unfold appF
  rw [show e.blt n = true by rw [Nat.blt_eq]; exact h]
theorem appF_ge {n e : Nat} {f g : Nat → List D} (h : n ≤ e) : appF n f g e = g (e - n) := by
  unfold appF
  rw [show e.blt n = false by cases q : e.blt n with
    | false => rfl
    | true => rw [Nat.blt_eq] at q; omega]
theorem r09place_den (p : PD) (lv : Int) (sp : Bool) : Den Tryz.prog 150 [.agg (parL true p), .val (.int .i64 lv), .val (.bool sp)] (.val (.bool (placeB p lv sp))) := by
  refine den_intro (fn := Tryz.f150) rfl rfl rfl rfl rfl ?_
  refine go ?_
  refine fin ?_
  exact cv
theorem r09Moduli_den (p : PD) (lv : Nat) (sp : Bool) (h1 : lv ≤ p.chain.length) (h2 : p.chain.length ≤ 1000) : Den Tryz.prog 151 [.agg (parL true p), .val (.int .i64 (lv : Int)), .val (.bool sp)] (.fz false (modN p lv sp) 1 (fun k => [.val (.int .u32 ((modQ p lv k : Nat) : Int))])) := by
  refine den_intro (fn := Tryz.f151) rfl rfl rfl rfl rfl ?_
  refine go ?_
  refine c_ifB (fun h3 => ?_) (fun h3 => ?_)
  · subst h3
    refine go ?_
    refine fin_arr (1000 + 19) (fun k => [.val (.int .u32 ((modQ p lv k : Nat) : Int))]) (fun e he => ?_) (fun _ => rfl) ?_
    · unfold modQ
      by_cases q : e < lv
      · rw [appF_lt (by omega), if_pos q, Nat.zero_add]
      · rw [appF_ge (by omega), if_neg q, show e - (lv - 0) = 0 by omega]; rfl
    refine fin_freeze (1000 + 19) ?_
    refine fin ?_
    exact cv
  · subst h3
    refine go ?_
    refine fin_arr (1000 + 13) (fun k => [.val (.int .u32 ((modQ p lv k : Nat) : Int))]) (fun e he => ?_) (fun _ => rfl) ?_
    · unfold modQ
      rw [if_pos (by omega), Nat.zero_add]
    refine fin_freeze (1000 + 13) ?_
    refine fin ?_
    exact cv
theorem VP.all {p : PD} (h : VP p) (hs : p.special ≠ 0) : ∃ a : Nat → Nat, a = modQ p p.chain.length ∧ (∀ i, i < p.chain.length + 1 → 3 ≤ a i ∧ a i ≤ 2147483647 ∧ a i % 2 = 1) ∧ ∀ k i, k < i → i < p.chain.length + 1 → a k ≠ a i := by
  refine ⟨_, rfl, fun i hi => ?_, fun k i hk hi e => ?_⟩
  · have q : modOk (modQ p p.chain.length i) = true := by
      unfold modQ
      split
      · exact h.mods i ‹_›
      · rcases h.special with q | q
        · exact absurd q hs
        · exact q.1
    unfold modOk at q
    simp only [Bool.and_eq_true, decide_eq_true_eq] at q
    exact ⟨q.1.1, q.1.2, q.2⟩
  · unfold modQ at e
    rw [if_pos (by omega)] at e
    by_cases q : i < p.chain.length
    · rw [if_pos q] at e
      have := h.apart i q
      have h2 := hasI_spec (p := fun e => decide (p.chain.getD i 0 = p.chain.getD e 0)) |>.2 ⟨k, hk, decide_eq_true e.symm⟩
      rw [this] at h2; cases h2
    · rw [if_neg q] at e
      rcases h.special with q2 | q2
      · exact absurd q2 hs
      · have h2 := hasI_spec (p := fun e => decide (p.special = p.chain.getD e 0)) |>.2 ⟨k, (by omega : k < p.chain.length), decide_eq_true e.symm⟩
        rw [q2.2] at h2; cases h2
theorem r09Valid_den (p : PD) (h : VP p) (hs : p.special ≠ 0) : Den Tryz.prog 149 [.agg (parL true p)] (.val (.bool true)) := by
  refine den_intro (fn := Tryz.f149) rfl rfl rfl rfl rfl ?_
  have l2 := h.len2
  refine go ?_
  refine c_ifB (fun h1 => absurd h1 ?_) (fun _ => ?_)
  · rcases h.n with q | q | q | q <;> rw [q] <;> decide
  · refine go ?_
    refine c_ifB (fun h1 => absurd h1 ?_) (fun _ => ?_)
    · have l1 := h.len1
      rw [decide_eq_false (show ¬ p.chain.length < 1 by omega), decide_eq_false (show ¬ 24 < p.chain.length by omega)]; decide
    · refine go ?_
      obtain ⟨a, ha, hA1, hA2⟩ := h.all hs
      refine c_arr (1000 + 45) (fun k => [.val (.int .u32 ((a k : Nat) : Int))]) (fun e he => ?_) (fun _ => rfl) ?_
      · rw [ha]; unfold modQ
        by_cases q : e < p.chain.length
        · rw [appF_lt q, if_pos q]
        · rw [appF_ge (by omega), if_neg q, show e - p.chain.length = 0 by omega]; rfl
      obtain ⟨M, hM⟩ : ∃ M, M = p.chain.length + 1 := ⟨_, rfl⟩
      rw [← hM] at hA1 hA2 ⊢
      refine c_freeze (1000 + 45) ?_
      refine c_slot 3 (.fz false M 1 (fun k => [.val (.int .u32 ((a k : Nat) : Int))])) ?_
      refine c_up M (fun j => [(4, .val (.int .i64 (j : Nat)))]) (fun _ => []) (fun i hi => ?_)
      refine go ?_
      refine c_if (fun h3 => ?_) (fun h3 => ?_)
      · obtain ⟨b1, b2, b3⟩ := hA1 i h3
        refine go ?_
        refine c_ifB (fun h4 => absurd h4 ?_) (fun _ => ?_)
        · rw [decide_eq_false (show ¬ a i < 3 by omega), decide_eq_false (show ¬ 2147483647 < a i by omega), decide_eq_false (show ¬ a i % 2 = 0 by omega)]; decide
        · refine go ?_
          refine c_up i (fun j => [(5, .val (.int .i64 (j : Nat)))]) (fun _ => []) (fun k hk => ?_)
          refine go ?_
          refine c_if (fun h5 => ?_) (fun h5 => ?_)
          · refine go ?_
            refine c_if (fun h6 => absurd h6 (hA2 k i h5 h3)) (fun _ => ?_)
            refine go ?_
            exact ⟨h5, sub⟩
          · refine go ?_
            exact ⟨h3, sub⟩
      · refine go ?_
        refine fin ?_
        exact cv
end Go.Proofs.YtefoddjclngckaaGreat

namespace Go.Proofs.YtefoddjclngckaaGreat
open Go.RowKit
set_option maxRecDepth 20000
set_option maxHeartbeats 4000000
theorem rowOk_eq {p : PD} {n : Nat} {lv k : Nat} {ln : Nat → Nat} {g : Nat → Nat → Nat} (hn : p.n = n) : rowOk p lv ln g k = !(decide (ln k ≠ n) || hasI (fun j => decide (modQ p lv k ≤ g k j)) (ln k)) := by
  unfold rowOk
  rw [hn]
  by_cases q : ln k = n
  · simp [q]
  · have q2 : ¬ ((ln k : Nat) : Int) = (n : Int) := fun e => q (by omega)
    simp [q, q2]
theorem r09Check_den0 (p : PD) (h : VP p) (hs : p.special ≠ 0) (lv : Int) (sp : Bool) (m : Nat) (ln : Nat → Nat) (g : Nat → Nat → Nat) (hln : ∀ k, ln k ≤ 1000000) (hm : m ≤ 1000000) : Den Tryz.prog 53 [.agg (parL true p), .agg (elG true lv sp m ln g)] (.val (.int .i64 (errI (elOk p lv sp m ln g)))) := by
  refine den_intro (fn := Tryz.f53) rfl rfl rfl rfl rfl ?_
  have l2 := h.len2
  refine go ?_
  refine r_call (r09Valid_den p h hs) ?_
  refine go ?_
  refine g_callM (hl := fun hb => r_call (r09place_den p lv sp) (run_fin rfl)) (h := ?_)
  refine go ?_
  refine c_ifB (fun h1 => ?_) (fun h1 => ?_)
  · refine go ?_
    refine fin ?_
    rw [elOk_1 (show placeB p lv sp = false from b_no h1)]
    exact cv
  · have hp : placeB p lv sp = true := b_ok h1
    have hlv : 1 ≤ lv ∧ lv ≤ (p.chain.length : Int) := by
      simp only [placeB, Bool.and_eq_true, decide_eq_true_eq] at hp
      exact hp.1
    obtain ⟨lv, rfl⟩ := Int.eq_ofNat_of_zero_le (show 0 ≤ lv by omega)
    have hM : modN p lv sp ≤ 1001 := by unfold modN; split <;> omega
    refine go ?_
    refine r_call (r09Moduli_den p lv sp (by omega) (by omega)) ?_
    refine go ?_
    refine c_if (fun h3 => ?_) (fun h3 => ?_)
    · refine go ?_
      refine fin ?_
      rw [elOk_2 (show m ≠ modN p (lv : Int).toNat sp from fun e => h3 (by rw [e]; simp))]
      exact cv
    · obtain rfl : m = modN p lv sp := by omega
      obtain ⟨n, hn, hn32⟩ : ∃ n : Nat, p.n = n ∧ n ≤ 32 := by
        rcases h.n with q | q | q | q
        · exact ⟨4, by rw [q]; rfl, by omega⟩
        · exact ⟨8, by rw [q]; rfl, by omega⟩
        · exact ⟨16, by rw [q]; rfl, by omega⟩
        · exact ⟨32, by rw [q]; rfl, by omega⟩
      obtain ⟨M, hMM⟩ : ∃ M, M = modN p lv sp := ⟨_, rfl⟩
      rw [← hMM] at hM h3 ⊢
      refine go ?_
      refine c_down (fun j => M - j) (fun j => j ≤ M ∧ ∀ k, k < j → rowOk p lv ln g k = true) (fun j : Nat => [(6, .val (.int .i64 (j : Int)))]) (fun _ => []) 0 (fun k ⟨hk, hF⟩ => ?_) ⟨by omega, fun e he => by omega⟩
      refine go ?_
      refine c_if (fun h4 => ?_) (fun h4 => ?_)
      · have hrow := rowOk_eq (lv := lv) (ln := ln) (g := g) (k := k) hn
        refine go ?_
        refine c_if (fun h5 => ?_) (fun h5 => ?_)
        · refine go ?_
          refine fin ?_
          rw [elOk_3 h4 (by rw [Int.toNat_natCast, hrow, decide_eq_true h5]; rfl)]
          exact cv
        · have hlk : ln k = n := by omega
          refine go ?_
          refine c_down (fun j => n - j) (fun j => j ≤ n ∧ ∀ e, e < j → decide (modQ p lv k ≤ g k e) = false) (fun j : Nat => [(7, .val (.int .i64 (j : Int)))]) (fun _ => []) 0 (fun j ⟨hj, hG⟩ => ?_) ⟨by omega, fun e he => by omega⟩
          refine go ?_
          refine c_if (fun h6 => ?_) (fun h6 => ?_)
          · have h6' : j < n := by omega
            refine go ?_
            refine c_if (fun h7 => ?_) (fun h7 => ?_)
            · refine go ?_
              refine fin ?_
              rw [elOk_3 h4 (by rw [Int.toNat_natCast, hrow, hasI_spec.2 ⟨j, by omega, decide_eq_true h7⟩]; simp)]
              exact cv
            · refine go ?_
              refine ⟨j + 1, ⟨by omega, fun e he => ?_⟩, by omega, ?_⟩
              · by_cases q : e < j
                · exact hG e q
                · obtain rfl : e = j := by omega
                  exact decide_eq_false h7
              · exact sub
          · obtain rfl : j = n := by omega
            refine go ?_
            refine ⟨k + 1, ⟨by omega, fun e he => ?_⟩, by omega, ?_⟩
            · by_cases q : e < k
              · exact hF e q
              · obtain rfl : e = k := by omega
                rw [hrow, hasI_no (by rw [hlk]; exact hG), decide_eq_false h5]; rfl
            · exact sub
      · obtain rfl : k = M := by omega
        refine go ?_
        refine fin ?_
        rw [elOk_4 hp hMM hF]
        exact cv
theorem r09Check_den (p : PD) (h : VP p) (hs : p.special ≠ 0) (e : EG) (hln : ∀ k, e.ln k ≤ 1000000) (hm : e.m ≤ 1000000) : Den Tryz.prog 53 [.agg (parL true p), .agg (elD true e)] (.val (.int .i64 (errI (eOk p e)))) := r09Check_den0 p h hs e.lv e.sp e.m e.ln e.g hln hm
end Go.Proofs.YtefoddjclngckaaGreat

namespace Go.Proofs.YtefoddjclngckaaGreat
open Go.RowKit
set_option maxRecDepth 20000
set_option maxHeartbeats 4000000
structure St (p : PD) (lv ex : Int) : Prop where
  good : Good p.par
  l1 : 1 ≤ lv
  l2 : lv ≤ (p.chain.length : Int)
  e1 : 1 ≤ ex
  e2 : ex ≤ p.power
theorem good_special {p : PD} (h : Good p.par) : p.special ≠ 0 := fun e => by
  have := h.2.2.2.2.2.2.2.1.1
  simp only [PD.par] at this
  omega
end Go.Proofs.YtefoddjclngckaaGreat

namespace Go.Proofs.YtefoddjclngckaaGreat
open Go.RowKit
set_option maxRecDepth 20000
set_option maxHeartbeats 4000000
/-- Residues. -/
def Vg (p : PD) (lv : Nat) (g : Nat → Nat → Nat) : Prop := ∀ i j, g i j < modQ p lv i
theorem elOk_valid {p : PD} {n lv : Nat} {sp : Bool} {g : Nat → Nat → Nat} (h : Lv p n lv) (hg : Vg p lv g) : elOk p (lv : Int) sp (modN p lv sp) (fun _ => n) g = true :=
  elOk_4 (h.place sp) rfl fun k hk => by
    unfold rowOk
    rw [decide_eq_true h.n.symm, hasI_no (fun e he => decide_eq_false (Nat.not_le_of_lt (hg k e)))]; rfl
end Go.Proofs.YtefoddjclngckaaGreat

namespace Go.Proofs.YtefoddjclngckaaGreat
open Go.RowKit
set_option maxRecDepth 20000
set_option maxHeartbeats 4000000
end Go.Proofs.YtefoddjclngckaaGreat

namespace Go.Proofs.YtefoddjclngckaaGreat
open Go.RowKit
set_option maxRecDepth 20000
set_option maxHeartbeats 4000000
end Go.Proofs.YtefoddjclngckaaGreat

namespace Go.Proofs.YtefoddjclngckaaGreat
open Go.RowKit
set_option maxRecDepth 20000
set_option maxHeartbeats 4000000
instance fi152 : FI Tryz.prog 152 Tryz.f152 := ⟨Tryz.func152, Tryz.call152⟩
instance fi193 : FI Tryz.prog 193 Tryz.f193 := ⟨Tryz.func193, Tryz.call193⟩
instance fi54 : FI Tryz.prog 54 Tryz.f54 := ⟨Tryz.func54, Tryz.call54⟩
theorem r09residue_den (x : Int) (q : Nat) (hq : 0 < q) (hq2 : q ≤ 2147483647) (hx : -9223372036854775808 ≤ x ∧ x ≤ 9223372036854775807) : Den Tryz.prog 193 [.val (.int .i64 x), .val (.int .u32 (q : Int))] (.val (.int .u64 ((resI x q : Nat) : Int))) := by
  refine den_intro (fn := Tryz.f193) rfl rfl rfl rfl rfl ?_
  have h1 : x.tmod q < q := Int.tmod_lt_of_pos _ (by omega)
  have h2 : -(q : Int) < x.tmod q := by have := Int.tmod_lt_of_pos (-x) (show (0 : Int) < q by omega); rw [Int.neg_tmod] at this; omega
  have h3 := resI_tmod (x := x) hq
  have h4 := resI_lt (x := x) hq
  refine go ?_
  refine c_cut0 [(5, .val (.int .i64 ((resI x q : Nat) : Int)))] ?_ ?_
  · refine c_if (fun h5 => ?_) (fun h5 => ?_)
    · rw [if_pos h5] at h3
      refine go ?_
      exact sub
    · rw [if_neg h5] at h3
      refine go ?_
      exact sub
  · refine go ?_
    refine fin ?_
    exact cv
theorem r09FromInts_den (p : PD) (n lv : Nat) (sp : Bool) (h : Lv p n lv) (x : Nat → Int) (hx : ∀ j, -9223372036854775808 ≤ x j ∧ x j ≤ 9223372036854775807) : Den Tryz.prog 152 [.agg (parL true p), .val (.int .i64 (lv : Int)), .val (.bool sp), intsD true n x] (.tup [.agg (elL false lv sp (modN p lv sp) n (fun k j => resI (x j) (modQ p lv k))), .val (.int .i64 0)]) := by
  refine den_intro (fn := Tryz.f152) rfl rfl rfl rfl rfl ?_
  have hN : NatIs p.n n := h.n
  have h32 := h.n32
  have l1 := h.l1
  have l2 := h.l2
  have l24 := h.vp.len2
  have hpl : placeB p (lv : Int) sp = true := h.place sp
  have hm := modQ_in h.vp h.sp h.l2
  have hm' : ∀ k, 0 < modQ p lv k := fun k => by have := hm k; omega
  have hM : modN p lv sp ≤ 1001 := by unfold modN; split <;> omega
  obtain ⟨M, hMM⟩ : ∃ M, M = modN p lv sp := ⟨_, rfl⟩
  refine go ?_
  refine r_call (r09Valid_den p h.vp h.sp) ?_
  refine go ?_
  refine g_callM (hl := fun hb => r_call (r09place_den p lv sp) (run_fin rfl)) (h := ?_)
  rw [hpl]
  refine go ?_
  refine r_call (r09Moduli_den p lv sp h.l2 (by omega)) ?_
  rw [← hMM] at hM ⊢
  refine go ?_
  refine c_nilcell 1010 2 1900 23 1 (fun k => [.fz false n 1 (fun j => [.val (.int .u32 ((resI (x j) (modQ p lv k) : Nat) : Int))])]) ?_
  refine c_up M (fun i => [(12, .val (.int .i64 (i : Nat)))]) (fun i => [(1010, some (.lit 31 [.val (.int .i64 (lv : Int)), .val (.bool sp), .sl 1900 1 i])), (1900, some (.arr 23 i 1 (fun k => [.fz false n 1 (fun j => [.val (.int .u32 ((resI (x j) (modQ p lv k) : Nat) : Int))])])))]) (fun i hi => ?_)
  refine go ?_
  have hq := hm i
  refine c_if (fun h3 => ?_) (fun h3 => ?_)
  · refine go ?_
    refine c_nil 13 1901 22 1 (fun j => [.val (.int .u32 ((resI (x j) (modQ p lv i) : Nat) : Int))]) ?_
    refine c_up n (fun j => [(13, .sl 1901 1 j), (14, .val (.int .i64 (j : Nat)))]) (fun j => [(1901, some (.arr 22 j 1 (fun j => [.val (.int .u32 ((resI (x j) (modQ p lv i) : Nat) : Int))])))]) (fun j hj => ?_)
    have hr := resI_lt (x := x j) (hm' i)
    refine go ?_
    refine c_if (fun h4 => ?_) (fun h4 => ?_)
    · refine go ?_
      refine r_callO (r09residue_den (x j) (modQ p lv i) (hm' i) (by omega) (hx j)) ?_
      refine go ?_
      refine ⟨h4, ?_⟩
      refine sub_arr (1000 + 64) (fun j => [.val (.int .u32 ((resI (x j) (modQ p lv i) : Nat) : Int))]) (appF_snoc rfl) (fun _ => rfl) ?_
      refine sub_toL [52] (1000 + 64) 1901 ?_
      exact sub
    · obtain rfl : j = n := by omega
      refine c_freeze 1901 ?_
      refine c_slot 13 (.fz false j 1 (fun j => [.val (.int .u32 ((resI (x j) (modQ p lv i) : Nat) : Int))])) ?_
      refine go ?_
      refine ⟨h3, ?_⟩
      refine sub_arr (1000 + 69) (fun k => [.fz false j 1 (fun j => [.val (.int .u32 ((resI (x j) (modQ p lv k) : Nat) : Int))])]) (appF_snoc rfl) (fun _ => rfl) ?_
      refine sub_toL [66] (1000 + 69) 1900 ?_
      exact sub
  · obtain rfl : i = M := by omega
    refine go ?_
    refine fin_freeze 1900 ?_
    refine fin ?_
    exact cv
end Go.Proofs.YtefoddjclngckaaGreat

namespace Go.Proofs.YtefoddjclngckaaGreat
open Go.RowKit
set_option maxRecDepth 20000
set_option maxHeartbeats 4000000
end Go.Proofs.YtefoddjclngckaaGreat

namespace Go.Proofs.YtefoddjclngckaaGreat
open Go.RowKit
set_option maxRecDepth 20000
set_option maxHeartbeats 4000000
end Go.Proofs.YtefoddjclngckaaGreat

namespace Go.Proofs.YtefoddjclngckaaGreat
open Go.RowKit
set_option maxRecDepth 20000
set_option maxHeartbeats 4000000
end Go.Proofs.YtefoddjclngckaaGreat

namespace Go.Proofs.YtefoddjclngckaaGreat
open Go.RowKit
set_option maxRecDepth 20000
set_option maxHeartbeats 4000000
instance fi156 : FI Tryz.prog 156 Tryz.f156 := ⟨Tryz.func156, Tryz.call156⟩
instance fi62 : FI Tryz.prog 62 Tryz.f62 := ⟨Tryz.func62, Tryz.call62⟩
instance fi45 : FI Tryz.prog 45 Tryz.f45 := ⟨Tryz.func45, Tryz.call45⟩
theorem st_Lv {p : PD} {lv ex : Int} (h : St p lv ex) {n l : Nat} (hn : p.n = (n : Int)) (hl : lv = (l : Int)) : Lv p n l := ⟨good_VP h.good, good_special h.good, hn, by have := h.l1; omega, by have := h.l2; omega⟩
theorem good_n {p : PD} (h : Good p.par) : ∃ n : Nat, p.n = (n : Int) ∧ 4 ≤ n ∧ n ≤ 32 := by
  rcases h.1 with q | q | q | q
  · exact ⟨4, q, by omega, by omega⟩
  · exact ⟨8, q, by omega, by omega⟩
  · exact ⟨16, q, by omega, by omega⟩
  · exact ⟨32, q, by omega, by omega⟩
theorem r13Of_den (p : PD) (n lv : Nat) (sp : Bool) (h : Lv p n lv) (r0 : D) [OldD r0] (hr0 : r0.one = true) (x : Nat → Int) (hx : ∀ j, -9223372036854775808 ≤ x j ∧ x j ≤ 9223372036854775807) : Den Tryz.prog 54 [.agg (parL true p), .agg [.val (.int .i64 (lv : Int)), .val (.bool sp), r0], intsD true n x] (.agg (elL false lv sp (modN p lv sp) n (fun k j => resI (x j) (modQ p lv k)))) := by
  refine den_intro (fn := Tryz.f54) rfl rfl rfl rfl rfl ?_
  refine go ?_
  refine r_call (r09FromInts_den p n lv sp h x hx) ?_
  refine go ?_
  refine fin ?_
  exact cv
end Go.Proofs.YtefoddjclngckaaGreat

namespace Go.Proofs.YtefoddjclngckaaGreat
open Go.RowKit
set_option maxRecDepth 20000
set_option maxHeartbeats 4000000
noncomputable abbrev zerosD (n : Nat) : D := .fz true n Tryz.t2.size (fun _ => valL (Value.int .i64 0).cells.toList)
instance (n : Nat) : OldD (zerosD n) := (inferInstance : OldD (intsD true n (fun _ => 0)))
theorem resI_0 (q : Nat) : resI 0 q = 0 := by unfold resI; simp
theorem resI_f (q : Nat → Nat) : (fun k (j : Nat) => resI ((fun _ : Nat => (0 : Int)) j) (q k)) = fun _ _ => 0 := by funext k j; exact resI_0 _
theorem rgZero_den (p : PD) (n lv : Nat) (sp : Bool) (h : Lv p n lv) : Den Tryz.prog 51 [.agg (parL true p), .val (.int .i64 (lv : Int)), .val (.bool sp), zerosD n] (.tup [.agg (elL false lv sp (modN p lv sp) n (fun _ _ => 0)), .val (.int .i64 0)]) := by
  have := rgFromInts_den p n lv sp h (fun _ => 0) (fun _ => by omega)
  rw [resI_f] at this
  exact this
end Go.Proofs.YtefoddjclngckaaGreat

namespace Go.Proofs.YtefoddjclngckaaGreat
open Go.RowKit
set_option maxRecDepth 20000
set_option maxHeartbeats 4000000
instance fi224 : FI Tryz.prog 224 Tryz.f224 := ⟨Tryz.func224, Tryz.call224⟩
instance fi212 : FI Tryz.prog 212 Tryz.f212 := ⟨Tryz.func212, Tryz.call212⟩
instance fi189 : FI Tryz.prog 189 Tryz.f189 := ⟨Tryz.func189, Tryz.call189⟩
instance fi190 : FI Tryz.prog 190 Tryz.f190 := ⟨Tryz.func190, Tryz.call190⟩
instance fi143 : FI Tryz.prog 143 Tryz.f143 := ⟨Tryz.func143, Tryz.call143⟩
instance fi191 : FI Tryz.prog 191 Tryz.f191 := ⟨Tryz.func191, Tryz.call191⟩
instance fi213 : FI Tryz.prog 213 Tryz.f213 := ⟨Tryz.func213, Tryz.call213⟩
instance ti163 : TI Tryz.prog 163 Tryz.t163 (.pointer 168) := ⟨by kernel_rfl, by kernel_rfl⟩
instance ti168 : TI Tryz.prog 168 Tryz.t168 Tryz.t167.desc := ⟨by kernel_rfl, by kernel_rfl⟩
instance sz163 : SZ Tryz.prog 163 1 := SZ.of ti163 rfl
instance zr163 : ZR Tryz.prog 163 [.pointer none] := ZR.of ti163 rfl rfl rfl
instance sz168 : SZ Tryz.prog 168 3 := SZ.of ti168 rfl
instance zr168 : ZR Tryz.prog 168 [.pointer none, .int .i64 0, .int .i64 0] := ZR.of ti168 rfl rfl rfl
instance bt168 : BT Tryz.prog 168 [(0, 1), (1, 1), (2, 1)] [.pointer none, .int .i64 0, .int .i64 0] := BT.of (ns := [1, 1, 1]) ti168 rfl zr168.zr ⟨sz125.sz, ⟨sz3.sz, ⟨sz3.sz, trivial⟩⟩⟩ (by intro j; repeat (first | rfl | cases j with | zero => rfl | succ j => ?_))
instance ft168_0 : FT Tryz.prog 168 0 0 := FT.of ti168 rfl ti125 rfl rfl
instance fv168_0 : FV Tryz.prog 168 0 0 1 false := FV.one ti168 rfl ti125 rfl rfl
instance ft168_1 : FT Tryz.prog 168 1 1 := FT.of ti168 rfl ti3 rfl rfl
instance fv168_1 : FV Tryz.prog 168 1 1 1 false := FV.one ti168 rfl ti3 rfl rfl
instance ft168_2 : FT Tryz.prog 168 2 2 := FT.of ti168 rfl ti3 rfl rfl
instance fv168_2 : FV Tryz.prog 168 2 2 1 false := FV.one ti168 rfl ti3 rfl rfl
theorem gdapart_den (a b : Nat) (ha : a ≤ 4294967295) (h2 : 2 ≤ b) (hb : b ≤ 2147483647) (h : invB (a % b) b = true) : Den Tryz.prog 224 [.val (.int .u32 (a : Int)), .val (.int .u32 (b : Int))] (.val (.bool true)) := by
  refine den_intro (fn := Tryz.f224) rfl rfl rfl rfl rfl ?_
  have hm := Nat.mod_lt a (show 0 < b by omega)
  have hi := mInverse_den (a % b) b h2 hb hm
  rw [h] at hi
  refine go ?_
  refine r_call hi ?_
  refine go ?_
  refine fin ?_
  exact cv
theorem gdmade_den (p : PD) (n : Nat) (hp : PFit p) (hg : Good p.par) (hn : p.n = (n : Int)) : Den Tryz.prog 212 [.fptr true (parL true p), .val (.int .i64 31)] (.tup [.fptr false [.fptr true (parL true p), .val (.int .i64 31), .val (.int .i64 1)], .val (.bool true)]) := by
  refine den_intro (fn := Tryz.f212) rfl rfl rfl rfl rfl ?_
  have hL : Lv p n 1 := ⟨good_VP hg, good_special hg, hn, by omega, hg.2.1⟩
  have h32 := hL.n32
  have hN : NatIs p.n n := hn
  have hM : NatIs (max 0 (min p.n 32)) n := by show _ = _; omega
  have hv : p.chain.length ≤ 24 := hg.2.2.1
  have hch := hp.chain
  refine go ?_
  refine c_no ?_
  refine go ?_
  refine r_call (rgZero_den p n 1 false hL) ?_
  refine go ?_
  refine c_up p.chain.length (fun i => [(39, .val (.int .i64 (i : Nat)))]) (fun i => []) (fun i hi => ?_)
  refine go ?_
  refine c_if (fun h3 => ?_) (fun h3 => ?_)
  · have hci := hch i h3
    refine go ?_
    refine c_up i (fun j => [(51, .val (.int .i64 (j : Nat)))]) (fun j => []) (fun j hj => ?_)
    refine go ?_
    refine c_if (fun h4 => ?_) (fun h4 => ?_)
    · have h5 := hL.vp.mods j (by omega)
      simp only [modOk, Bool.and_eq_true, decide_eq_true_eq] at h5
      refine go ?_
      refine r_call (gdapart_den (p.chain.getD i 0) (p.chain.getD (0 + j) 0) hci (by rw [Nat.zero_add]; omega) (by rw [Nat.zero_add]; omega) (by rw [Nat.zero_add]; exact good_apart hg (by omega) h3)) ?_
      refine go ?_
      refine c_no ?_
      refine go ?_
      refine ⟨by omega, ?_⟩
      exact sub
    · refine go ?_
      refine ⟨h3, ?_⟩
      exact sub
  · refine go ?_
    refine fin_frz 1069 ?_
    refine fin ?_
    exact cv
theorem gdlevel_den (p : PD) (lv : Int) : Den Tryz.prog 190 [.fptr true [.fptr true (parL true p), .val (.int .i64 31), .val (.int .i64 1)], .val (.int .i64 lv)] (.val (.bool (decide (1 ≤ lv) && decide (lv ≤ (p.chain.length : Int))))) := by
  refine den_intro (fn := Tryz.f190) rfl rfl rfl rfl rfl ?_
  refine go ?_
  refine fin ?_
  exact cv
theorem gdasked_den (p : PD) (n : Nat) (hp : PFit p) (hg : Good p.par) (hn : p.n = (n : Int)) (lv : Int) : Den Tryz.prog 189 [.fptr true (parL true p), .val (.int .i64 31), .val (.int .i64 lv), .val (.func (.func 190) #[] #[])] (.tup [.fptr false [.fptr true (parL true p), .val (.int .i64 31), .val (.int .i64 1)], .val (.bool (decide (1 ≤ lv) && decide (lv ≤ (p.chain.length : Int))))]) := by
  refine den_intro (fn := Tryz.f189) rfl rfl rfl rfl rfl ?_
  refine go ?_
  refine r_callO (gdmade_den p n hp hg hn) ?_
  refine go ?_
  refine r_callO (gdlevel_den p lv) ?_
  refine go ?_
  refine fin ?_
  exact cv
end Go.Proofs.YtefoddjclngckaaGreat

namespace Go.Proofs.YtefoddjclngckaaGreat
open Go.RowKit
set_option maxRecDepth 20000
set_option maxHeartbeats 4000000
/-- A cutter of whole residues. -/
abbrev cutL (p : PD) : List D := [.fptr true (parL true p), .val (.int .i64 31), .val (.int .i64 1)]
theorem SlotCv.clo {H : Nat → Option Box} {fn : FuncId} {l l' : List D} (h : SlotCvL H l l') : SlotCv H (.clo fn l) (.clo fn l') := fun S E a w Z i v hF hv => by
  cases hv with | clo _ _ vs _ hl hr => exact .clo _ fn vs _ (hl.trans h.len) (fun j hj => h.at j S E a w Z i _ hF (hr j (by rw [h.len]; exact hj)))
section
variable {P : Program} {fn : Func} {r : D} {hs rs : Hs} {env : List (Nat × D)} {box : List (Nat × Option Box)}
theorem fin_slot (t : Nat) (d : D) {d0 : D} (hc : SlotCv (hk box) d0 d) (h : FinS P fn r hs rs (lk ((t, d) :: env)) (hk box)) (ht : Lk env t d0 := by (repeat (first | exact Lk.here | apply Lk.there rfl))) : FinS P fn r hs rs (lk env) (hk box) := h.sub (sub_conv t d ht.eq hc)
end
theorem gddigits_den (p : PD) (x : Int) : DenH Tryz.prog 191 [.fptr true (cutL p), .val (.int .i64 x)] [] (.clo 213 [.fptr false [.fptr true (cutL p)], .eptr 1003 0 0 0]) [] [(1003, .lit 2 [.val (.int .i64 x)])] := by
  refine den_intro (fn := Tryz.f191) rfl rfl rfl rfl rfl ?_
  refine go ?_
  refine fin_frz 1002 ?_
  refine fin_slot 4 (.clo 213 [.fptr false [.fptr true (cutL p)], .eptr 1003 0 0 0]) (.clo (.cons (.ice (ns := [1002]) (CvV.icel (t := 163) (n := 1) rfl rfl rfl rfl)) (.cons (.refl _) .nil))) ?_
  exact finN
end Go.Proofs.YtefoddjclngckaaGreat

namespace Go.Proofs.YtefoddjclngckaaGreat
open Go.RowKit
set_option maxRecDepth 20000
set_option maxHeartbeats 4000000
end Go.Proofs.YtefoddjclngckaaGreat

namespace Go.Proofs.YtefoddjclngckaaGreat
open Go.RowKit
set_option maxRecDepth 20000
set_option maxHeartbeats 4000000
instance fi120 : FI Tryz.prog 120 Tryz.f120 := ⟨Tryz.func120, Tryz.call120⟩
instance fi111 : FI Tryz.prog 111 Tryz.f111 := ⟨Tryz.func111, Tryz.call111⟩
instance fi44 : FI Tryz.prog 44 Tryz.f44 := ⟨Tryz.func44, Tryz.call44⟩
instance fi117 : FI Tryz.prog 117 Tryz.f117 := ⟨Tryz.func117, Tryz.call117⟩
instance fi110 : FI Tryz.prog 110 Tryz.f110 := ⟨Tryz.func110, Tryz.call110⟩
instance fi42 : FI Tryz.prog 42 Tryz.f42 := ⟨Tryz.func42, Tryz.call42⟩
instance fi112 : FI Tryz.prog 112 Tryz.f112 := ⟨Tryz.func112, Tryz.call112⟩
instance fi43 : FI Tryz.prog 43 Tryz.f43 := ⟨Tryz.func43, Tryz.call43⟩
instance fi114 : FI Tryz.prog 114 Tryz.f114 := ⟨Tryz.func114, Tryz.call114⟩
instance fi46 : FI Tryz.prog 46 Tryz.f46 := ⟨Tryz.func46, Tryz.call46⟩
instance fi121 : FI Tryz.prog 121 Tryz.f121 := ⟨Tryz.func121, Tryz.call121⟩
instance fi39 : FI Tryz.prog 39 Tryz.f39 := ⟨Tryz.func39, Tryz.call39⟩
instance fi38 : FI Tryz.prog 38 Tryz.f38 := ⟨Tryz.func38, Tryz.call38⟩
instance fi40 : FI Tryz.prog 40 Tryz.f40 := ⟨Tryz.func40, Tryz.call40⟩
instance fi107 : FI Tryz.prog 107 Tryz.f107 := ⟨Tryz.func107, Tryz.call107⟩
instance fi174 : FI Tryz.prog 174 Tryz.f174 := ⟨Tryz.func174, Tryz.call174⟩
instance fi173 : FI Tryz.prog 173 Tryz.f173 := ⟨Tryz.func173, Tryz.call173⟩
structure Cv (p : PD) (n lv ex : Nat) : Prop where
  fit : PFit p
  st : St p (lv : Int) (ex : Int)
  n : p.n = (n : Int)
theorem Cv.lv {p : PD} {n lv ex : Nat} (h : Cv p n lv ex) : Lv p n lv := st_Lv h.st h.n rfl
end Go.Proofs.YtefoddjclngckaaGreat

namespace Go.Proofs.YtefoddjclngckaaGreat
open Go.RowKit
set_option maxRecDepth 20000
set_option maxHeartbeats 4000000
section
variable {p : PD} {n lv : Nat}
theorem Lv.q0 (h : Lv p n lv) (r : Nat) : 0 < modQ p lv r := by have := modQ_in h.vp h.sp h.l2 r; omega
end
end Go.Proofs.YtefoddjclngckaaGreat

namespace Go.Proofs.YtefoddjclngckaaGreat
open Go.RowKit
set_option maxRecDepth 20000
set_option maxHeartbeats 4000000
end Go.Proofs.YtefoddjclngckaaGreat

namespace Go.Proofs.YtefoddjclngckaaGreat
open Go.RowKit
set_option maxRecDepth 20000
set_option maxHeartbeats 4000000
end Go.Proofs.YtefoddjclngckaaGreat
