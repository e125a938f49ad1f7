/- The laws on rescaling, by data.
The small parameters with two primes: by data.
Whether some results of rescaling are as the document says: by data. -/
import Derived.Test.YtefoddjclngckaaGreatPrd49
import Derived.Test.YtefoddjclngckaaGreatPrd43
import Derived.Test.YtefoddjclngckaaGreatPrd45
set_option linter.unusedSimpArgs false
set_option linter.unusedVariables false
set_option linter.unnecessarySimpa false
namespace Go.Proofs.YtefoddjclngckaaGreat
open Go.RowKit
set_option maxRecDepth 20000
set_option maxHeartbeats 4000000
theorem Alike.of {f g : FuncId} {ds : List D} {n : Nat} {o : Bool} (h : Alike f g ds n o) : ∃ (l x k : Nat) (e : Int) (G H : Nat → Nat → Nat → Nat),
  Den Tryz.prog f ds (.tup [.agg (ciV false l x k n G), .val (.int .i64 e)]) ∧ Den Tryz.prog g ds (.tup [.agg (ciV o l x k n H), .val (.int .i64 e)]) ∧ Den Tryz.prog 20 [.agg (ciV true l x k n G), .agg (ciV true l x k n H)] (.val (.bool true)) := h
/-- A valid ciphertext among any. -/
theorem valid_of {p : PD} (hp : PFit p) {c : CG} (hd : Dflt c) (h : ciOk p c = true) : ∃ (n lv ex : Nat) (A : Nat → Nat → Nat → Nat), Cv p n lv ex ∧ Vc p lv A ∧ c.lv = (lv : Int) ∧ c.ex = (ex : Int) ∧ ∀ l : List D, CvtL l l → CvtL (.agg (parL true p) :: .agg (ciD true c) :: l) (.agg (parL true p) :: .agg (ciV true lv ex c.k n A) :: l) := by
  have hst := ciOk_st h
  obtain ⟨n, hn, n4, n32⟩ := good_n hst.good
  obtain ⟨lv, hlv⟩ := Int.eq_ofNat_of_zero_le (show 0 ≤ c.lv by have := hst.l1; omega)
  obtain ⟨ex, hex⟩ := Int.eq_ofNat_of_zero_le (show 0 ≤ c.ex by have := hst.e1; omega)
  have hst' : St p (lv : Int) (ex : Int) := by rw [hlv, hex] at hst; exact hst
  have hC : Cv p n lv ex := ⟨hp, hst', hn⟩
  have cvA := ci_cvt hn hlv rfl h
  exact ⟨n, lv, ex, partG c, hC, ci_vc hd hn hlv hC.lv h, hlv, hex, fun l hl => .cons (.of_eq rfl) (.cons (Cvt.agg (.cons (.of_eq (congrArg (fun z : Int => D.val (.int .i64 z)) hlv)) (.cons (.of_eq (congrArg (fun z : Int => D.val (.int .i64 z)) hex)) (.cons cvA .nil)))) hl)⟩
theorem rsExponents_den (p : PD) (hp : PFit p) (c : CG) (hd : Dflt c) (x : Int) (haw : Den Tryz.prog 17 [] (.val (.bool true))) : Den Tryz.prog 6 [.agg (parL true p), .agg (ciD true c), .val (.int .i64 x)] (.val (.bool true)) := by
  have key : smallC c = true → ∃ n, Alike 30 31 [.agg (parL true p), .agg (ciD true c)] n false ∧ Alike 32 33 [.agg (parL true p), .agg (ciD true c)] n false ∧ Alike 34 35 [.agg (parL true p), .agg (ciD true c), .val (.int .i64 x)] n true := fun hs => by
    obtain ⟨q1, q2, q3⟩ := hd.small hs
    cases q : ciOk p c with
    | false => exact ⟨0, .zero (by omega) (rsDivide_bad p hp c q1 q3 q2 q) (r20Divide_bad p hp c q1 q3 q2 q), .zero (by omega) (rsRaise_bad p hp c q1 q3 q2 q) (r20Raise_bad p hp c q1 q3 q2 q), .zero (by omega) (rsExponent_bad p hp c q1 q3 q2 x (by rw [q]; rfl)) (r20Exponent_bad p hp c q1 q3 q2 x (by rw [q]; rfl))⟩
    | true =>
      obtain ⟨n, lv, ex, A, hC, hA, hlv, hex, hcv⟩ := valid_of hp hd q
      have hk := ciOk_k q
      refine ⟨n, (alike_divide hC hk hA).arg (hcv [] .nil), (alike_raise hC hk hA).arg (hcv [] .nil), ?_⟩
      by_cases hx : 1 ≤ x ∧ x ≤ p.power
      · obtain ⟨m, rfl⟩ := Int.eq_ofNat_of_zero_le (show 0 ≤ x by omega)
        exact (alike_exponent hC hk hA m ⟨by omega, hx.2⟩).arg (hcv _ (.cons (.of_eq rfl) .nil))
      · have hb : (ciOk p c && (decide (1 ≤ x) && decide (x ≤ p.power))) = false := by
          rw [q]
          by_cases h1 : 1 ≤ x
          · rw [decide_eq_false (show ¬ x ≤ p.power by omega)]; simp
          · rw [decide_eq_false h1]; simp
        exact .zero hC.lv.n32 (rsExponent_bad p hp c q1 q3 q2 x hb) (r20Exponent_bad p hp c q1 q3 q2 x hb)
  by_cases hs : smallC c = true
  · obtain ⟨n, a1, a2, a3⟩ := key hs
    obtain ⟨l1, x1, k1, e1, G1, H1, d1, r1, s1⟩ := a1.of
    obtain ⟨l2, x2, k2, e2, G2, H2, d2, r2, s2⟩ := a2.of
    obtain ⟨l3, x3, k3, e3, G3, H3, d3, r3, s3⟩ := a3.of
    exact rsExponents_gen p c hd x haw n l1 x1 k1 l2 x2 k2 l3 x3 k3 e1 e2 e3 G1 H1 G2 H2 G3 H3 (fun _ => d1) (fun _ => r1) s1 (fun _ => d2) (fun _ => r2) s2 (fun _ => d3) (fun _ => r3) s3
  · have s0 := r14SameV_den 0 0 0 0 (by omega) (by omega) (by omega) (fun _ _ _ => 0) (fun _ _ _ => 0) (fun _ h => absurd h (by omega))
    exact rsExponents_gen p c hd x haw 0 0 0 0 0 0 0 0 0 0 0 0 0 _ _ _ _ _ _ (fun h => absurd h hs) (fun h => absurd h hs) s0 (fun h => absurd h hs) (fun h => absurd h hs) s0 (fun h => absurd h hs) (fun h => absurd h hs) s0
theorem rsDowns_den (p : PD) (hp : PFit p) (c : CG) (hd : Dflt c) (x : Int) (haw : Den Tryz.prog 17 [] (.val (.bool true))) : Den Tryz.prog 4 [.agg (parL true p), .agg (ciD true c), .val (.int .i64 x)] (.val (.bool true)) := by
  have key : smallC c = true → ∃ n, Alike 18 19 [.agg (parL true p), .agg (ciD true c)] n false ∧ Alike 21 22 [.agg (parL true p), .agg (ciD true c), .val (.int .i64 x)] n false := fun hs => by
    obtain ⟨q1, q2, q3⟩ := hd.small hs
    cases q : ciOk p c with
    | false => exact ⟨0, .zero (by omega) (rsDown_bad p hp c q1 q3 q2 (by rw [q]; rfl)) (r20Down_bad p hp c q1 q3 q2 (by rw [q]; rfl)), .zero (by omega) (rsDrop_bad p hp c q1 q3 q2 x (by rw [q]; rfl)) (r20Drop_bad p hp c q1 q3 q2 x (by rw [q]; rfl))⟩
    | true =>
      obtain ⟨n, lv, ex, A, hC, hA, hlv, hex, hcv⟩ := valid_of hp hd q
      have hk := ciOk_k q
      refine ⟨n, ?_, ?_⟩
      · by_cases h2 : c.k = 2
        · have hcv2 := hcv [] .nil
          rw [h2] at hcv2
          exact (alike_down hC hA).arg hcv2
        · have hb : (ciOk p c && decide (c.k = 2)) = false := by rw [decide_eq_false h2]; simp
          exact .zero hC.lv.n32 (rsDown_bad p hp c q1 q3 q2 hb) (r20Down_bad p hp c q1 q3 q2 hb)
      · by_cases hx : 1 ≤ x ∧ x ≤ c.lv
        · obtain ⟨m, rfl⟩ := Int.eq_ofNat_of_zero_le (show 0 ≤ x by omega)
          exact (alike_drop hC hk hA m (by omega) (by omega)).arg (hcv _ (.cons (.of_eq rfl) .nil))
        · have hb : (ciOk p c && (decide (1 ≤ x) && decide (x ≤ c.lv))) = false := by
            rw [q]
            by_cases h1 : 1 ≤ x
            · rw [decide_eq_false (show ¬ x ≤ c.lv by omega)]; simp
            · rw [decide_eq_false h1]; simp
          exact .zero hC.lv.n32 (rsDrop_bad p hp c q1 q3 q2 x hb) (r20Drop_bad p hp c q1 q3 q2 x hb)
  by_cases hs : smallC c = true
  · obtain ⟨n, a1, a2⟩ := key hs
    obtain ⟨l1, x1, k1, e1, G1, H1, d1, r1, s1⟩ := a1.of
    obtain ⟨l2, x2, k2, e2, G2, H2, d2, r2, s2⟩ := a2.of
    exact rsDowns_gen p c hd x haw n l1 x1 k1 l2 x2 k2 e1 e2 G1 H1 G2 H2 (fun _ => d1) (fun _ => r1) s1 (fun _ => d2) (fun _ => r2) s2
  · have s0 := r14SameV_den 0 0 0 0 (by omega) (by omega) (by omega) (fun _ _ _ => 0) (fun _ _ _ => 0) (fun _ h => absurd h (by omega))
    exact rsDowns_gen p c hd x haw 0 0 0 0 0 0 0 0 0 _ _ _ _ (fun h => absurd h hs) (fun h => absurd h hs) s0 (fun h => absurd h hs) (fun h => absurd h hs) s0
end Go.Proofs.YtefoddjclngckaaGreat

namespace Go.Proofs.YtefoddjclngckaaGreat
open Go.RowKit
set_option maxRecDepth 20000
set_option maxHeartbeats 4000000
theorem chain5 : chainOf 4 17 3 = [2147483249, 2147481209, 2147477809] := chainF_eq 136 3 60 (2147483646 / 136) [] _ (by decide +kernel)
def p5 : PD := ⟨4, 17, 1, [2147481209, 2147477809], 2147483249, 4, 2⟩
theorem p5_good : Good p5.par := by
  refine ⟨.inl rfl, by decide, by decide, by decide, by decide, by decide, plain417, ?_, ?_, ?_⟩
  · show GoodQ (2 * 4 * plainV 4 17 1) 2147483249
    rw [plainV_pos plain417]
    exact goodQ_of (by omega) (by omega) (by decide +kernel) (by decide +kernel)
  · intro i hi
    have : i = 0 ∨ i = 1 := by simp [PD.par, p5] at hi; omega
    rcases this with rfl | rfl
    · refine ⟨?_, by decide⟩
      show GoodQ (2 * 4 * plainV 4 17 1) 2147481209
      rw [plainV_pos plain417]
      exact goodQ_of (by omega) (by omega) (by decide +kernel) (by decide +kernel)
    · refine ⟨?_, by decide⟩
      show GoodQ (2 * 4 * plainV 4 17 1) 2147477809
      rw [plainV_pos plain417]
      exact goodQ_of (by omega) (by omega) (by decide +kernel) (by decide +kernel)
  · intro i j hij hj
    have : i = 0 ∧ j = 1 := by simp [PD.par, p5] at hj; omega
    obtain ⟨rfl, rfl⟩ := this
    decide
theorem p5_fit : PFit p5 := ⟨by decide, by decide, by decide, by decide, by decide, fun i hi => by
  have : i = 0 ∨ i = 1 := by simp [p5] at hi; omega
  rcases this with rfl | rfl <;> decide, by decide, by decide, by decide, by decide⟩
theorem p5_st (lv : Nat) (h1 : 1 ≤ lv) (h2 : lv ≤ 2) : St p5 (lv : Int) (1 : Nat) := ⟨p5_good, by omega, by show (lv : Int) ≤ 2; omega, by decide, by decide⟩
theorem p5_n : p5.n = ((4 : Nat) : Int) := rfl
theorem p5_cv (lv : Nat) (h1 : 1 ≤ lv) (h2 : lv ≤ 2) : Cv p5 4 lv 1 := ⟨p5_fit, p5_st lv h1 h2, p5_n⟩
theorem small13_2_den : Den Tryz.prog 47 [.val (.int .i64 2)] (.agg (parL false p5)) := by
  refine den_intro (fn := Tryz.f47) rfl rfl rfl rfl rfl ?_
  refine go ?_
  refine r_call (r12default_den 4 17 2 17 2147483249 1 [2147481209, 2147477809] (by omega) (by omega) (by omega) (by omega) (by omega) (by omega) (plainV_pos plain417) (by omega) (by omega) (by omega) (by omega) chain5 rfl) ?_
  refine go ?_
  refine fin ?_
  exact cv
theorem poly_iff5 {x : Nat → Int} (hx : ∀ j, -8 ≤ x j ∧ x j ≤ 8) : polyB p5 (p5.prime ^ 1) 4 x = true := by
  rw [polyB_2 (fun j hj => ?_)]
  · exact decide_eq_true rfl
  · have := hx j
    show (!(decide (x j < -8) || decide (8 < x j))) = true
    rw [decide_eq_false (by omega), decide_eq_false (by omega)]; rfl
end Go.Proofs.YtefoddjclngckaaGreat

namespace Go.Proofs.YtefoddjclngckaaGreat
open Go.RowKit
set_option maxRecDepth 20000
set_option maxHeartbeats 4000000
/-- The example's residues. -/
def A5 (i k j : Nat) : Nat := if i = 0 then (if k = 0 then (if j = 0 then 2147477809 else 0) else 0) else 0
theorem A5_vc : Vc p5 2 A5 := fun i r j => by
  have h : 0 < modQ p5 2 r := by
    unfold modQ
    split
    · have : r = 0 ∨ r = 1 := by omega
      rcases this with rfl | rfl <;> decide
    · decide
  unfold A5
  split
  · split
    · split
      · rename_i h1 h2 h3
        subst h2
        decide
      · exact h
    · exact h
  · exact h
def c5 : Nat → List D := fun i => [.val (.int .u32 (p5.chain.getD i 0))]
theorem c5_to : Cvt (u32sD false p5.chain) (.fz false 2 1 c5) := .of_eq rfl
theorem c5_fro : Cvt (.fz false 2 1 c5) (u32sD false p5.chain) := .of_eq rfl
theorem r14Trivial_lit5 : DenH Tryz.prog 62 [.agg (parL true p5), litA Tryz.t2.size 4 [.val (.int .i64 0), .val (.int .i64 0), .val (.int .i64 0), .val (.int .i64 0)], .val (.int .i64 2), .val (.int .i64 1)] []
    (.tup [.agg [.val (.int .i64 2), .val (.int .i64 1), .sl 1038 3 2], .val (.int .i64 0)]) [] [(1038, .lit 31 [.val (.int .i64 2), .val (.bool false), .sl 1031 1 2, .val (.int .i64 2), .val (.bool false), .sl 1037 1 2]), (1031, u32M 2 4 (fun k _ => resI 0 (modQ p5 2 k))), (1037, u32M 2 4 (fun _ _ => 0))] :=
  (r14Trivial_own p5 p5_fit 4 2 1 (p5_st 2 (by omega) (by omega)) p5_n (fun _ => 0) (fun j => by omega) (poly_iff5 (fun j => by omega))).arg (.cons (.of_eq rfl) (.cons (Cvt.litA (fun e he => by
    match e, he with
    | 0, _ => rfl
    | 1, _ => rfl
    | 2, _ => rfl
    | 3, _ => rfl) (fun _ _ => rfl)) (.cons (.of_eq rfl) (.cons (.of_eq rfl) .nil))))
section
variable {P : Program} {N : Nat} {ops : Array Oper} {rest : List Oper} {env : List (Nat × D)} {box : List (Nat × Option Box)} {done : List Rec} {K : List Rec → List (Nat × D) → List (Nat × Option Box) → Prop}
/-- A slot, said otherwise, within a region. -/
theorem r_eq (t : Nat) (d' : D) {d : D} (he : d = d') (h : RunK P N ops rest ((t, d') :: env) box done K) (ht : Lk env t d := by (repeat (first | exact Lk.here | apply Lk.there rfl))) : RunK P N ops rest env box done K := by
  have e : lk ((t, d') :: env) = lk env := by
    funext s
    simp only [lk]
    by_cases q : t = s
    · subst q; simp; rw [← he]; exact ht.eq.symm
    · rw [beq_ne q]
  obtain ⟨Rs, env', box', h1, h2, h3, h4⟩ := h
  rw [e] at h1 h2
  exact ⟨Rs, env', box', h1, h2, h3, h4⟩
end
theorem sameWords_lit (g y : Nat → Nat) (a b c d : Int) (h0 : (y 0 : Int) = a) (h1 : (y 1 : Int) = b) (h2 : (y 2 : Int) = c) (h3 : (y 3 : Int) = d) (h : sameW 4 4 g y = true) : Den Tryz.prog 63 [u32sF true 4 g, litA Tryz.t22.size 4 [.val (.int .u32 a), .val (.int .u32 b), .val (.int .u32 c), .val (.int .u32 d)]] (.val (.bool true)) := by
  have := sameWords_den 4 4 g y (by omega) (by omega)
  rw [h] at this
  exact this.arg (.cons (.of_eq rfl) (.cons (Cvt.litA (fun e he => by
    match e, he with
    | 0, _ => rw [h0]; rfl
    | 1, _ => rw [h1]; rfl
    | 2, _ => rw [h2]; rfl
    | 3, _ => rw [h3]; rfl) (fun _ _ => rfl)) .nil))
theorem aw20 : sameW 4 4 (dnV p5 1 1 (A5 0) 0) (l4 1 0 0 0) = true := by decide +kernel
theorem aw20v : Vc p5 1 (fun i => dnV p5 1 1 (A5 i)) := fun i r j => Nat.mod_lt _ ((p5_cv 1 (by omega) (by omega)).lv.q0 r)
theorem awake20_den : Den Tryz.prog 17 [] (.val (.bool true)) := by
  refine den_intro (fn := Tryz.f17) rfl rfl rfl rfl rfl ?_
  refine go ?_
  refine r_call small13_2_den ?_
  refine go ?_
  refine r_callN3 r14Trivial_lit5 (r' := .tup [.agg [.val (.int .i64 2), .val (.int .i64 1), .sl 151038 3 2], .val (.int .i64 0)]) (l' := [.val (.int .i64 2), .val (.bool false), .sl 151031 1 2, .val (.int .i64 2), .val (.bool false), .sl 151037 1 2]) rfl rfl ?_
  refine gor ?_
  refine c_lit 1001 [.val (.int .i64 p5.n), .val (.int .u32 p5.prime), .val (.int .i64 p5.power), .fz false 2 1 c5, .val (.int .u32 p5.special), .val (.int .i64 p5.weight), .val (.int .u32 p5.err)] (.cons (.refl _) (.cons (.refl _) (.cons (.refl _) (.cons (.cvt c5_to) (.cons (.refl _) (.cons (.refl _) (.cons (.refl _) .nil))))))) ?_
  have q0 : p5.chain.getD (Int.toNat 0) 0 = 2147481209 := rfl
  have q1 : p5.chain.getD (Int.toNat 1) 0 = 2147477809 := rfl
  refine c_sreg ?_
  refine gor ?_
  refine c_mat 151031 (fun k j => [.val (.int .u32 ((A5 0 k j : Nat) : Int))]) (fun e x he hx => ?_) (fun _ _ => rfl) ?_
  · match e, he, x, hx with
    | 0, _, 0, _ => rfl
    | 0, _, 1, _ => rfl
    | 0, _, 2, _ => rfl
    | 0, _, 3, _ => rfl
    | 1, _, 0, _ => rfl
    | 1, _, 1, _ => rfl
    | 1, _, 2, _ => rfl
    | 1, _, 3, _ => rfl
  refine c_freezeM 151031 ?_
  refine c_freezeM 151037 ?_
  refine c_lit 151038 (elL false 2 false 2 4 (A5 0) ++ elL false 2 false 2 4 (A5 1)) (.cons (.refl _) (.cons (.refl _) (.cons (.ice (ns := [151031]) (CvV.ice (t := 23) (n := 2) rfl (by omega) rfl)) (.cons (.refl _) (.cons (.refl _) (.cons (.ice (ns := [151037]) (CvV.ice (t := 23) (n := 2) rfl (by omega) rfl)) .nil)))))) ?_
  refine c_frzN 151038 2 3 (fun i => elL false 2 false 2 4 (A5 i)) rfl (fun e he => ⟨rfl, fun c hc => ?_⟩) ?_
  · match e, he, c, hc with
    | 0, _, 0, _ => rfl
    | 0, _, 1, _ => rfl
    | 0, _, 2, _ => rfl
    | 1, _, 0, _ => rfl
    | 1, _, 1, _ => rfl
    | 1, _, 2, _ => rfl
  refine c_lit 1001 (parL false p5) (.cons (.refl _) (.cons (.refl _) (.cons (.refl _) (.cons (.cvt c5_fro) (.cons (.refl _) (.cons (.refl _) (.cons (.refl _) .nil))))))) ?_
  refine c_lit 1002 (ciV false 2 1 2 4 A5) (.cons (.refl _) (.cons (.refl _) (.cons (.ice (ns := [151038]) (CvV.ice (t := 31) (n := 2) rfl (by omega) rfl)) .nil))) ?_
  refine go ?_
  refine r_call (rsDown_ok p5 4 1 1 (p5_cv 2 (by omega) (by omega)) (by omega) A5 A5_vc) ?_
  refine go ?_
  refine r_call (rsDown_no p5 4 1 (p5_cv 1 (by omega) (by omega)) (fun i => dnV p5 1 1 (A5 i)) aw20v) ?_
  refine go ?_
  refine r_call (rsDrop_ok p5 4 2 1 2 (p5_cv 2 (by omega) (by omega)) (.inl rfl) A5 A5_vc 1 (by omega) (by omega)) ?_
  refine go ?_
  refine r_eq 74 (.val (.bool true)) rfl ?_
  refine r_eq 81 (u32sF false 4 (dnV p5 1 1 (A5 0) 0)) rfl ?_
  refine go ?_
  refine r_call (sameWords_lit (dnV p5 1 1 (A5 0) 0) (l4 1 0 0 0) 1 0 0 0 rfl rfl rfl rfl aw20) ?_
  refine go ?_
  refine fin ?_
  exact cv
end Go.Proofs.YtefoddjclngckaaGreat
