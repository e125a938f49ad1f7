/- The reference's rescaling, by data: the exponent, fewer primes.
The reference's rescaling, by data: division by the plain prime.
The reference's division by a prime, by data.
The reference's Down, by data.
Rescaling: the reference's results are the program's. Plain.
Equal ciphertexts, the reference's, of equal data: by data.
The law on exponents, by data: for any results that are alike on both sides.
The law on lower levels, by data: for any results that are alike on both sides.
Rescaling: what both sides make is alike, by data. -/
import Derived.Test.YtefoddjclngckaaGreatPrd48
import Derived.Test.YtefoddjclngckaaGreatPrd46
set_option linter.unusedSimpArgs false
set_option linter.unusedVariables false
set_option linter.unnecessarySimpa false
namespace Go.Proofs.YtefoddjclngckaaGreat
open Go.RowKit
set_option maxRecDepth 20000
set_option maxHeartbeats 4000000
instance fi33 : FI Tryz.prog 33 Tryz.f33 := ⟨Tryz.func33, Tryz.call33⟩
instance fi22 : FI Tryz.prog 22 Tryz.f22 := ⟨Tryz.func22, Tryz.call22⟩
instance fi35 : FI Tryz.prog 35 Tryz.f35 := ⟨Tryz.func35, Tryz.call35⟩
instance fi31 : FI Tryz.prog 31 Tryz.f31 := ⟨Tryz.func31, Tryz.call31⟩
instance fi19 : FI Tryz.prog 19 Tryz.f19 := ⟨Tryz.func19, Tryz.call19⟩
instance fi79 : FI Tryz.prog 79 Tryz.f79 := ⟨Tryz.func79, Tryz.call79⟩
theorem r14CheckV_den (p : PD) (n lv ex k : Nat) (h : Cv p n lv ex) (hk : k = 2 ∨ k = 3) (A : Nat → Nat → Nat → Nat) (hA : Vc p lv A) : Den Tryz.prog 36 [.agg (parL true p), .agg (ciV true lv ex k n A)] (.val (.int .i64 0)) := by
  have h32 := h.lv.n32
  have l2 := h.lv.l2
  have l24 := h.lv.vp.len2
  have := r14Check_den p h.fit (cgR lv ex k n A) (by show k ≤ _; omega) (fun _ _ => by show n ≤ _; omega) (fun _ => by show lv ≤ _; omega)
  rw [ciOk_V h hk hA] at this
  exact this
theorem r20Raise_bad (p : PD) (hp : PFit p) (c : CG) (hk : c.k ≤ 1000000) (hl : ∀ i k, (c.P i).ln k ≤ 1000000) (hm : ∀ i, (c.P i).m ≤ 1000000) (h : ciOk p c = false) : Den Tryz.prog 33 [.agg (parL true p), .agg (ciD true c)] (.tup [.agg zeroC, .val (.int .i64 2)]) := by
  refine den_intro (fn := Tryz.f33) rfl rfl rfl rfl rfl ?_
  have hc := r14Check_den p hp c hk hl hm
  rw [h] at hc
  refine go ?_
  refine r_call hc ?_
  refine go ?_
  refine fin ?_
  exact cv
theorem r20Divide_bad (p : PD) (hp : PFit p) (c : CG) (hk : c.k ≤ 1000000) (hl : ∀ i k, (c.P i).ln k ≤ 1000000) (hm : ∀ i, (c.P i).m ≤ 1000000) (h : ciOk p c = false) : Den Tryz.prog 31 [.agg (parL true p), .agg (ciD true c)] (.tup [.agg zeroC, .val (.int .i64 2)]) := by
  refine den_intro (fn := Tryz.f31) rfl rfl rfl rfl rfl ?_
  have hc := r14Check_den p hp c hk hl hm
  rw [h] at hc
  refine go ?_
  refine r_call hc ?_
  refine go ?_
  refine fin ?_
  exact cv
theorem r20Exponent_bad (p : PD) (hp : PFit p) (c : CG) (hk : c.k ≤ 1000000) (hl : ∀ i k, (c.P i).ln k ≤ 1000000) (hm : ∀ i, (c.P i).m ≤ 1000000) (x : Int) (h : (ciOk p c && (decide (1 ≤ x) && decide (x ≤ p.power))) = false) : Den Tryz.prog 35 [.agg (parL true p), .agg (ciD true c), .val (.int .i64 x)] (.tup [.agg zeroC, .val (.int .i64 2)]) := by
  refine den_intro (fn := Tryz.f35) rfl rfl rfl rfl rfl ?_
  refine go ?_
  refine r_call (r14Check_den p hp c hk hl hm) ?_
  refine go ?_
  refine g_callM (hl := fun hb => r_call (r14State_den p hp c.lv x) (run_fin rfl)) (h := ?_)
  refine go ?_
  refine c_ifB (fun h1 => ?_) (fun h1 => ?_)
  · refine go ?_
    refine fin ?_
    exact cv
  · exfalso
    cases q : ciOk p c with
    | false => rw [q] at h1; simp [errI] at h1
    | true =>
      rw [q] at h1 h
      have hst := ciOk_st q
      have : stB p c.lv x = true := by
        cases q2 : stB p c.lv x with
        | true => rfl
        | false => rw [q2] at h1; simp at h1
      have hs := stB_iff.1 this
      rw [decide_eq_true hs.e1, decide_eq_true hs.e2] at h
      cases h
theorem r20Drop_bad (p : PD) (hp : PFit p) (c : CG) (hk : c.k ≤ 1000000) (hl : ∀ i k, (c.P i).ln k ≤ 1000000) (hm : ∀ i, (c.P i).m ≤ 1000000) (x : Int) (h : (ciOk p c && (decide (1 ≤ x) && decide (x ≤ c.lv))) = false) : Den Tryz.prog 22 [.agg (parL true p), .agg (ciD true c), .val (.int .i64 x)] (.tup [.agg zeroC, .val (.int .i64 2)]) := by
  refine den_intro (fn := Tryz.f22) rfl rfl rfl rfl rfl ?_
  refine go ?_
  refine r_call (r14Check_den p hp c hk hl hm) ?_
  refine go ?_
  refine c_ifB (fun h1 => ?_) (fun h1 => ?_)
  · refine go ?_
    refine fin ?_
    exact cv
  · exfalso
    cases q : ciOk p c with
    | false => rw [q] at h1; simp [errI] at h1
    | true =>
      rw [q] at h1 h
      simp [errI] at h1
      rw [decide_eq_true (show 1 ≤ x by omega), decide_eq_true (show x ≤ c.lv by omega)] at h
      cases h
theorem r20Raise_no (p : PD) (n lv ex k : Nat) (h : Cv p n lv ex) (hk : k = 2 ∨ k = 3) (A : Nat → Nat → Nat → Nat) (hA : Vc p lv A) (hx : decide ((ex : Int) < p.power) = false) : Den Tryz.prog 33 [.agg (parL true p), .agg (ciV true lv ex k n A)] (.tup [.agg zeroC, .val (.int .i64 9)]) := by
  refine den_intro (fn := Tryz.f33) rfl rfl rfl rfl rfl ?_
  have e2 := h.st.e2
  have e : (ex : Int) = p.power := by have := of_decide_eq_false hx; omega
  refine go ?_
  refine r_call (r14CheckV_den p n lv ex k h hk A hA) ?_
  refine go ?_
  refine fin ?_
  exact cv
theorem r20Divide_no (p : PD) (n lv ex k : Nat) (h : Cv p n lv ex) (hk : k = 2 ∨ k = 3) (A : Nat → Nat → Nat → Nat) (hA : Vc p lv A) (hx : decide (1 < (ex : Int)) = false) : Den Tryz.prog 31 [.agg (parL true p), .agg (ciV true lv ex k n A)] (.tup [.agg zeroC, .val (.int .i64 9)]) := by
  refine den_intro (fn := Tryz.f31) rfl rfl rfl rfl rfl ?_
  have e1 := h.st.e1
  have e : ex = 1 := by have := of_decide_eq_false hx; omega
  refine go ?_
  refine r_call (r14CheckV_den p n lv ex k h hk A hA) ?_
  refine go ?_
  refine fin ?_
  exact cv
theorem r20Exponent_ok (p : PD) (n lv ex k : Nat) (h : Cv p n lv ex) (hk : k = 2 ∨ k = 3) (A : Nat → Nat → Nat → Nat) (hA : Vc p lv A) (x : Nat) (hx : 1 ≤ x ∧ (x : Int) ≤ p.power) : Den Tryz.prog 35 [.agg (parL true p), .agg (ciV true lv ex k n A), .val (.int .i64 (x : Int))] (.tup [.agg (ciV true lv x k n A), .val (.int .i64 0)]) := by
  refine den_intro (fn := Tryz.f35) rfl rfl rfl rfl rfl ?_
  have hs := r14State_den p h.fit (lv : Int) (x : Int)
  rw [stB_iff.2 ⟨h.st.good, h.st.l1, h.st.l2, by omega, hx.2⟩] at hs
  refine go ?_
  refine r_call (r14CheckV_den p n lv ex k h hk A hA) ?_
  refine go ?_
  refine g_callM (hl := fun hb => r_call hs (run_fin rfl)) (h := ?_)
  refine go ?_
  refine c_no ?_
  refine go ?_
  refine fin ?_
  exact cv
theorem r20Raise_ok (p : PD) (n lv ex k : Nat) (h : Cv p n lv ex) (hk : k = 2 ∨ k = 3) (A : Nat → Nat → Nat → Nat) (hA : Vc p lv A) (hx : (ex : Int) < p.power) : Den Tryz.prog 33 [.agg (parL true p), .agg (ciV true lv ex k n A)] (.tup [.agg (ciV false lv (ex + 1) k n (fun i => mulIntV p lv (p.prime : Int) (A i))), .val (.int .i64 0)]) := by
  refine den_intro (fn := Tryz.f33) rfl rfl rfl rfl rfl ?_
  have hp2 := h.fit.power2
  have e : ¬ (ex : Int) = p.power := by omega
  have hpr := prime_lt h 0
  have hsc : ∀ i, Den Tryz.prog 101 [.agg (parL true p), .agg (elL true lv false lv n (A i)), .val (.int .i64 (p.prime : Int))] (.agg (elL false lv false lv n (mulIntV p lv (p.prime : Int) (A i)))) := fun i => r13Scale_den p n lv false h.lv (A i) (p.prime : Int) (by omega) (hA i)
  refine go ?_
  refine r_call (r14CheckV_den p n lv ex k h hk A hA) ?_
  refine go ?_
  refine c_nilcell 1006 2 1900 31 3 (fun i => elL false lv false lv n (mulIntV p lv (p.prime : Int) (A i))) ?_
  refine c_up k (fun i => [(7, .val (.int .i64 (i : Nat)))]) (fun i => [(1006, some (.lit 42 [.val (.int .i64 (lv : Int)), .val (.int .i64 ((ex + 1 : Nat) : Int)), .sl 1900 3 i])), (1900, some (.arr 31 i 3 (fun i => elL false lv false lv n (mulIntV p lv (p.prime : Int) (A i)))))]) (fun i hi => ?_)
  refine go ?_
  refine c_if (fun h3 => ?_) (fun h3 => ?_)
  · refine go ?_
    refine r_callO (hsc i) ?_
    refine go ?_
    refine ⟨h3, ?_⟩
    refine sub_arr (1000 + 45) (fun i => elL false lv false lv n (mulIntV p lv (p.prime : Int) (A i))) (appF_snoc rfl) (fun _ => rfl) ?_
    refine sub_toL [33] (1000 + 45) 1900 ?_
    exact sub
  · obtain rfl : i = k := by omega
    refine go ?_
    refine fin_freeze 1900 ?_
    refine fin ?_
    exact cv
theorem r20Drop_ok (p : PD) (n lv ex k : Nat) (h : Cv p n lv ex) (hk : k = 2 ∨ k = 3) (A : Nat → Nat → Nat → Nat) (hA : Vc p lv A) (x : Nat) (h1 : 1 ≤ x) (hx : x ≤ lv) : Den Tryz.prog 22 [.agg (parL true p), .agg (ciV true lv ex k n A), .val (.int .i64 (x : Int))] (.tup [.agg (ciV false x ex k n A), .val (.int .i64 0)]) := by
  refine den_intro (fn := Tryz.f22) rfl rfl rfl rfl rfl ?_
  refine go ?_
  refine r_call (r14CheckV_den p n lv ex k h hk A hA) ?_
  refine go ?_
  refine c_ifB (fun h1' => ?_) (fun h1' => ?_)
  · exfalso
    simp at h1'
    omega
  refine go ?_
  refine c_nilcell 1008 2 1900 31 3 (fun i => elL false x false x n (A i)) ?_
  refine c_up k (fun i => [(9, .val (.int .i64 (i : Nat)))]) (fun i => [(1008, some (.lit 42 [.val (.int .i64 (x : Int)), .val (.int .i64 (ex : Int)), .sl 1900 3 i])), (1900, some (.arr 31 i 3 (fun i => elL false x false x n (A i))))]) (fun i hi => ?_)
  refine go ?_
  refine c_if (fun h3 => ?_) (fun h3 => ?_)
  · refine go ?_
    refine r_callO (r09Restrict_den p n lv ex x h h1 hx (A i) (hA i)) ?_
    refine go ?_
    refine ⟨h3, ?_⟩
    refine sub_arr (1000 + 53) (fun i => elL false x false x n (A i)) (appF_snoc rfl) (fun _ => rfl) ?_
    refine sub_toL [50, 10] (1000 + 53) 1900 ?_
    exact sub
  · obtain rfl : i = k := by omega
    refine go ?_
    refine fin_freeze 1900 ?_
    refine fin ?_
    exact cv
end Go.Proofs.YtefoddjclngckaaGreat

namespace Go.Proofs.YtefoddjclngckaaGreat
open Go.RowKit
set_option maxRecDepth 20000
set_option maxHeartbeats 4000000
theorem r20Divide_ok (p : PD) (n lv ex k : Nat) (h : Cv p n lv ex) (hk : k = 2 ∨ k = 3) (A : Nat → Nat → Nat → Nat) (hA : Vc p lv A) (hx : 1 < ex) : Den Tryz.prog 31 [.agg (parL true p), .agg (ciV true lv ex k n A)] (.tup [.agg (ciV false lv (ex - 1) k n (fun i => sclV p lv (fun k => invV p.prime (modQ p lv k)) (A i))), .val (.int .i64 0)]) := by
  refine den_intro (fn := Tryz.f31) rfl rfl rfl rfl rfl ?_
  have hN : NatIs p.n n := h.n
  have h32 := h.lv.n32
  have h4 := h.lv.n4
  have l1 := h.lv.l1
  have l2 := h.lv.l2
  have l24 := h.lv.vp.len2
  have hm := modQ_in h.lv.vp h.lv.sp h.lv.l2
  have hp2 := h.fit.power2
  obtain ⟨b1, b2, b3⟩ := good_pow h.st.good h.st.e2
  have hx2 := good_ex b1 b2
  refine go ?_
  refine r_call (r14CheckV_den p n lv ex k h hk A hA) ?_
  refine go ?_
  refine c_nilcell 1006 2 1900 31 3 (fun i => elL false lv false lv n (sclV p lv (fun k => invV p.prime (modQ p lv k)) (A i))) ?_
  refine c_up k (fun i => [(7, .val (.int .i64 (i : Nat)))]) (fun i => [(1006, some (.lit 42 [.val (.int .i64 (lv : Int)), .val (.int .i64 ((ex - 1 : Nat) : Int)), .sl 1900 3 i])), (1900, some (.arr 31 i 3 (fun i => elL false lv false lv n (sclV p lv (fun k => invV p.prime (modQ p lv k)) (A i)))))]) (fun i hi => ?_)
  refine go ?_
  refine c_if (fun h3 => ?_) (fun h3 => ?_)
  · refine go ?_
    refine c_nilcell 1008 2 1901 23 1 (fun j => [.fz false n 1 (fun e => [.val (.int .u32 ((sclV p lv (fun k => invV p.prime (modQ p lv k)) (A i) j e : Nat) : Int))])]) ?_
    refine c_up lv (fun j => [(9, .val (.int .i64 (j : Nat)))]) (fun j => [(1008, some (.lit 31 [.val (.int .i64 (lv : Int)), .val (.bool false), .sl 1901 1 j])), (1901, some (.arr 23 j 1 (fun j => [.fz false n 1 (fun e => [.val (.int .u32 ((sclV p lv (fun k => invV p.prime (modQ p lv k)) (A i) j e : Nat) : Int))])])))]) (fun j hj => ?_)
    refine go ?_
    have hq := hm j
    have hpr := prime_lt h j
    refine c_if (fun h5 => ?_) (fun h5 => ?_)
    · have e : modQ p lv j = p.chain.getD j 0 := by unfold modQ; rw [if_pos h5]
      have hinv := r01Inverse_den p.prime (modQ p lv j) (by omega) (by omega) hpr.2.1
      have hlt := invV_lt (a := p.prime) (show 0 < modQ p lv j by omega)
      rw [e] at hinv
      refine go ?_
      refine r_callO hinv ?_
      refine go ?_
      refine c_nil 12 1902 22 1 (fun x => [.val (.int .u32 ((sclV p lv (fun k => invV p.prime (modQ p lv k)) (A i) j x : Nat) : Int))]) ?_
      refine c_up n (fun x => [(12, .sl 1902 1 x), (13, .val (.int .i64 (x : Nat)))]) (fun x => [(1902, some (.arr 22 x 1 (fun x => [.val (.int .u32 ((sclV p lv (fun k => invV p.prime (modQ p lv k)) (A i) j x : Nat) : Int))])))]) (fun x hx => ?_)
      refine go ?_
      refine c_if (fun h6 => ?_) (fun h6 => ?_)
      · have hmul := r01Mul_den (A i j x) (invV p.prime (modQ p lv j)) (modQ p lv j) (by omega) (by omega) (hA i j x) hlt
        have es : A i j x * invV p.prime (p.chain.getD j 0) % p.chain.getD j 0 = sclV p lv (fun k => invV p.prime (modQ p lv k)) (A i) j x := by rw [← e]; rfl
        rw [e, es] at hmul
        refine go ?_
        refine r_callO hmul ?_
        refine go ?_
        refine ⟨h6, ?_⟩
        refine sub_arr (1000 + 89) (fun x => [.val (.int .u32 ((sclV p lv (fun k => invV p.prime (modQ p lv k)) (A i) j x : Nat) : Int))]) (appF_snoc rfl) (fun _ => rfl) ?_
        refine sub_toL [86] (1000 + 89) 1902 ?_
        exact sub
      · obtain rfl : x = n := by omega
        refine c_freeze 1902 ?_
        refine c_slot 12 (.fz false x 1 (fun x => [.val (.int .u32 ((sclV p lv (fun k => invV p.prime (modQ p lv k)) (A i) j x : Nat) : Int))])) ?_
        refine go ?_
        refine ⟨h5, ?_⟩
        refine sub_arr (1000 + 94) (fun j => [.fz false x 1 (fun e => [.val (.int .u32 ((sclV p lv (fun k => invV p.prime (modQ p lv k)) (A i) j e : Nat) : Int))])]) (appF_snoc rfl) (fun _ => rfl) ?_
        refine sub_toL [91] (1000 + 94) 1901 ?_
        exact sub
    · obtain rfl : j = lv := by omega
      refine c_freeze 1901 ?_
      refine c_lit 1008 (elL false j false j n (sclV p j (fun k => invV p.prime (modQ p j k)) (A i))) (.cons (.refl _) (.cons (.refl _) (.cons (.ice (ns := [1901]) (CvV.ice (t := 23) (n := j) rfl (by omega) rfl)) .nil))) ?_
      refine go ?_
      refine ⟨h3, ?_⟩
      refine sub_arr (1000 + 100) (fun i => elL false j false j n (sclV p j (fun k => invV p.prime (modQ p j k)) (A i))) (appF_snoc rfl) (fun _ => rfl) ?_
      refine sub_toL [97, 8] (1000 + 100) 1900 ?_
      exact sub
  · obtain rfl : i = k := by omega
    refine go ?_
    refine fin_freeze 1900 ?_
    refine fin ?_
    exact cv
end Go.Proofs.YtefoddjclngckaaGreat

namespace Go.Proofs.YtefoddjclngckaaGreat
open Go.RowKit
set_option maxRecDepth 20000
set_option maxHeartbeats 4000000
/-- What the reference's division makes of a part of level lv + 1. -/
def pre18 (p : PD) (lv b q t : Nat) (g : Nat → Nat → Nat) : Nat → Nat → Nat := sumV p lv (-1) g (mulIntV p lv (t : Int) (intV p lv (fun j => balI (g lv j * b % q) q)))
def div18 (p : PD) (lv b q t : Nat) (g : Nat → Nat → Nat) : Nat → Nat → Nat := sclV p lv (lowB p lv q) (pre18 p lv b q t g)
/-- Rows that are made up to a place. -/
def fill2 (F G : Nat → Nat → Nat) (j i r x : Nat) : Nat := if r < j ∨ (r = j ∧ x < i) then F r x else G r x
theorem fill2_0 {F G : Nat → Nat → Nat} {r x : Nat} : fill2 F G 0 0 r x = G r x := by unfold fill2; rw [if_neg (by omega)]
theorem fill2_at {F G : Nat → Nat → Nat} {i x : Nat} : fill2 F G i x i x = G i x := by unfold fill2; rw [if_neg (by omega)]
theorem fill2_all {F G : Nat → Nat → Nat} {i r x : Nat} (h : r < i) : fill2 F G i 0 r x = F r x := by unfold fill2; rw [if_pos (by omega)]
theorem fill2_row {F G : Nat → Nat → Nat} {i n r x : Nat} (h : x < n) : fill2 F G i n r x = fill2 F G (i + 1) 0 r x := by
  unfold fill2
  by_cases q : r < i ∨ (r = i ∧ x < n)
  · rw [if_pos q, if_pos (by omega)]
  · rw [if_neg q, if_neg (by omega)]
theorem fill2_set {F G : Nat → Nat → Nat} {i x v : Nat} (hv : v = F i x) (r y : Nat) : setG (fun k j => [.val (.int .u32 ((fill2 F G i x k j : Nat) : Int))]) i (setE (fun j => [.val (.int .u32 ((fill2 F G i x i j : Nat) : Int))]) x 0 [.val (.int .u32 ((v : Nat) : Int))]) r y = [.val (.int .u32 ((fill2 F G i (x + 1) r y : Nat) : Int))] := by
  subst hv
  unfold setG
  by_cases q : r = i
  · subst q
    rw [if_pos rfl]
    unfold setE
    by_cases q2 : y = x
    · subst q2
      rw [if_pos rfl]
      unfold fill2
      rw [if_pos (by omega)]; rfl
    · rw [if_neg q2]
      have : fill2 F G r x r y = fill2 F G r (x + 1) r y := by
        unfold fill2
        by_cases q3 : y < x
        · rw [if_pos (by omega), if_pos (by omega)]
        · rw [if_neg (by omega), if_neg (by omega)]
      show [D.val (.int .u32 ((fill2 F G r x r y : Nat) : Int))] = _
      rw [this]
  · rw [if_neg q]
    have : fill2 F G i x r y = fill2 F G i (x + 1) r y := by
      unfold fill2
      by_cases q3 : r < i
      · rw [if_pos (by omega), if_pos (by omega)]
      · rw [if_neg (by omega), if_neg (by omega)]
    show [D.val (.int .u32 ((fill2 F G i x r y : Nat) : Int))] = _
    rw [this]
theorem r18Divided_den (p : PD) (n lv ex t : Nat) (h : Cv p n (lv + 1) ex) (h1 : 1 ≤ lv) (ht : t ≤ 2147483647) (g : Nat → Nat → Nat) (hg : Vg p (lv + 1) g) (q b : Nat) (hq : q = modQ p (lv + 1) lv) (hb : b = invV (resI (t : Int) q) q) :
    Den Tryz.prog 79 [.agg (parL true p), .agg (elL true (lv + 1) false (lv + 1) n g), .val (.int .u32 (q : Int)), .val (.int .i64 (t : Int))] (.agg (elL false lv false lv n (div18 p lv b q t g))) := by
  refine den_intro (fn := Tryz.f79) rfl rfl rfl rfl rfl ?_
  have hN : NatIs p.n n := h.n
  have h32 := h.lv.n32
  have h4 := h.lv.n4
  have l2 := h.lv.l2
  have l24 := h.lv.vp.len2
  have hC := h.less (lv' := lv) h1 (by omega)
  have hL := hC.lv
  have hm := modQ_in h.lv.vp h.lv.sp h.lv.l2
  have hm' := modQ_in hL.vp hL.sp hL.l2
  have hq2 := hm lv
  rw [← hq] at hq2
  have hgl := hg lv
  rw [← hq] at hgl
  have hvg := vg_less h (show lv ≤ lv + 1 by omega) hg
  have hblt : b < q := by rw [hb]; exact invV_lt (by omega)
  have htl := resI_lt (x := (t : Int)) (show 0 < q by omega)
  have hbal := r18Balanced_den n q (fun j => g lv j * b % q) (by omega) (by omega) hq2.2.1 (fun j => Nat.mod_lt _ (by omega))
  have hbi : ∀ j, -9223372036854775808 ≤ balI (g lv j * b % q) q ∧ balI (g lv j * b % q) q ≤ 9223372036854775807 := fun j => by
    have := balI_in hq2.2.1 (Nat.mod_lt (g lv j * b) (show 0 < q by omega))
    omega
  have hinv := r01Inverse_den (resI (t : Int) q) q (by omega) hq2.2.1 htl
  rw [← hb] at hinv
  have hof : Den Tryz.prog 54 [.agg (parL true p), .agg [.val (.int .i64 (lv : Int)), .val (.bool false), .val (.slice none 0 0)], intsD true n (fun j => balI (g lv j * b % q) q)] (.agg (elL false lv false lv n (intV p lv (fun j => balI (g lv j * b % q) q)))) := r13Of_den p n lv false hL (.val (.slice none 0 0)) rfl _ hbi
  have hsc : Den Tryz.prog 101 [.agg (parL true p), .agg (elL true lv false lv n (intV p lv (fun j => balI (g lv j * b % q) q))), .val (.int .i64 (t : Int))] (.agg (elL false lv false lv n (mulIntV p lv (t : Int) (intV p lv (fun j => balI (g lv j * b % q) q))))) := r13Scale_den p n lv false hL _ (t : Int) (by omega) (vg_int hL _)
  have hsu : DenH Tryz.prog 166 [.agg (parL true p), .agg (elL true lv false lv n (fun k j => g (0 + k) j)), .agg (elL true lv false lv n (mulIntV p lv (t : Int) (intV p lv (fun j => balI (g lv j * b % q) q))))] [] (.agg (elM lv false 1013 lv)) [] [(1013, u32M lv n (pre18 p lv b q t g))] := by
    rw [show (fun k j => g (0 + k) j) = g by funext k j; rw [Nat.zero_add]]
    exact r13Sub_own p n lv false hL g _ hvg (vg_mulInt hL _ _)
  refine go ?_
  refine r_call (r01Of_den (t : Int) q (by omega) hq2.2.1 (by omega)) ?_
  refine go ?_
  refine r_call hinv ?_
  refine go ?_
  refine c_nil 14 1900 22 1 (fun j => [.val (.int .u32 ((g lv j * b % q : Nat) : Int))]) ?_
  refine c_up n (fun j => [(14, .sl 1900 1 j), (15, .val (.int .i64 (j : Nat)))]) (fun j => [(1900, some (.arr 22 j 1 (fun j => [.val (.int .u32 ((g lv j * b % q : Nat) : Int))])))]) (fun j hj => ?_)
  refine go ?_
  refine c_if (fun h3 => ?_) (fun h3 => ?_)
  · refine go ?_
    refine r_callO (r01Mul_den (g lv j) b q (by omega) hq2.2.1 (hgl j) hblt) ?_
    refine go ?_
    refine ⟨h3, ?_⟩
    refine sub_arr (1000 + 67) (fun j => [.val (.int .u32 ((g lv j * b % q : Nat) : Int))]) (appF_snoc rfl) (fun _ => rfl) ?_
    refine sub_toL [64] (1000 + 67) 1900 ?_
    exact sub
  obtain rfl : j = n := by omega
  refine c_freeze 1900 ?_
  refine c_slot 14 (u32sF false j (fun j => g lv j * b % q)) ?_
  refine go ?_
  refine c_yes ?_
  refine go ?_
  refine r_call hbal ?_
  refine go ?_
  refine r_call hof ?_
  refine go ?_
  refine r_call hsc ?_
  refine go ?_
  refine r_callN hsu (r' := .agg (elM lv false 1096 lv)) rfl ?_
  refine go ?_
  have hGq : ∀ i x, pre18 p lv b q t g i x < modQ p lv i := vg_sum hL _ _ _
  have hF : ∀ i x, pre18 p lv b q t g i x * lowB p lv q i % modQ p lv i = div18 p lv b q t g i x := fun i x => rfl
  clear hbal hof hsc hsu hinv hbi hgl hvg hg
  obtain ⟨G, hG⟩ : ∃ G, pre18 p lv b q t g = G := ⟨_, rfl⟩
  obtain ⟨F, hFF⟩ : ∃ F, div18 p lv b q t g = F := ⟨_, rfl⟩
  rw [hG] at hGq hF ⊢
  rw [hFF] at hF ⊢
  refine c_mat 1096 (fun k j => [.val (.int .u32 ((fill2 F G 0 0 k j : Nat) : Int))]) (fun e x he hx => by rw [fill2_0]) (fun _ _ => rfl) ?_
  refine c_up lv (fun i => [(21, .val (.int .i64 (i : Nat)))]) (fun i => [(1096, some (.mat 23 22 lv lv 1 j (fun k x => [.val (.int .u32 ((fill2 F G i 0 k x : Nat) : Int))])))]) (fun i hi => ?_)
  refine go ?_
  have hqi := hm' i
  refine c_if (fun h5 => ?_) (fun h5 => ?_)
  · have h5' : i < lv := by omega
    have e : modQ p lv i = p.chain.getD i 0 := by unfold modQ; rw [if_pos h5']
    have hof2 := r01Of_den (q : Int) (modQ p lv i) (by omega) (by omega) (by omega)
    have hinv2 := r01Inverse_den (resI (q : Int) (modQ p lv i)) (modQ p lv i) (by omega) (by omega) (resI_lt (by omega))
    have hlw : lowB p lv q i < modQ p lv i := invV_lt (by omega)
    have hlb : invV (resI (q : Int) (modQ p lv i)) (modQ p lv i) = lowB p lv q i := rfl
    rw [hlb] at hinv2
    rw [e] at hof2 hinv2
    refine go ?_
    refine r_callO hof2 ?_
    refine go ?_
    refine r_callO hinv2 ?_
    refine go ?_
    refine c_up j (fun x => [(27, .val (.int .i64 (x : Nat)))]) (fun x => [(1096, some (.mat 23 22 lv lv 1 j (fun k y => [.val (.int .u32 ((fill2 F G i x k y : Nat) : Int))])))]) (fun x hx => ?_)
    refine go ?_
    refine c_if (fun h6 => ?_) (fun h6 => ?_)
    · have hmul := r01Mul_den (fill2 F G i x i x) (lowB p lv q i) (modQ p lv i) (by omega) (by omega) (by rw [fill2_at]; exact hGq i x) hlw
      rw [show fill2 F G i x i x * lowB p lv q i % modQ p lv i = F i x by rw [fill2_at]; exact hF i x, e] at hmul
      refine go ?_
      refine r_callO hmul ?_
      refine go ?_
      refine ⟨h6, ?_⟩
      refine sub_mat 1096 (fun k y => [.val (.int .u32 ((fill2 F G i (x + 1) k y : Nat) : Int))]) (fun r y _ _ => fill2_set rfl r y) (fun _ _ => rfl) ?_
      exact sub
    · obtain rfl : x = j := by omega
      refine go ?_
      refine ⟨h5', ?_⟩
      refine sub_mat 1096 (n := lv) (n2 := x) (g := fun k y => [.val (.int .u32 ((fill2 F G i x k y : Nat) : Int))]) (fun k y => [.val (.int .u32 ((fill2 F G (i + 1) 0 k y : Nat) : Int))]) (fun r y _ hy => by rw [fill2_row (r := r) hy]) (fun _ _ => rfl) ?_
      exact sub
  · obtain rfl : i = lv := by omega
    refine go ?_
    refine fin_mat 1096 (n := i) (n2 := j) (g := fun k y => [.val (.int .u32 ((fill2 F G i 0 k y : Nat) : Int))]) (fun k y => [.val (.int .u32 ((F k y : Nat) : Int))]) (fun r y hr _ => by rw [fill2_all hr]) (fun _ _ => rfl) ?_
    refine fin_freezeM 1096 ?_
    refine fin ?_
    exact cv
end Go.Proofs.YtefoddjclngckaaGreat

namespace Go.Proofs.YtefoddjclngckaaGreat
open Go.RowKit
set_option maxRecDepth 20000
set_option maxHeartbeats 4000000
theorem r20Down_bad (p : PD) (hp : PFit p) (c : CG) (hk : c.k ≤ 1000000) (hl : ∀ i k, (c.P i).ln k ≤ 1000000) (hm : ∀ i, (c.P i).m ≤ 1000000) (h : (ciOk p c && decide (c.k = 2)) = false) : Den Tryz.prog 19 [.agg (parL true p), .agg (ciD true c)] (.tup [.agg zeroC, .val (.int .i64 2)]) := by
  refine den_intro (fn := Tryz.f19) rfl rfl rfl rfl rfl ?_
  refine go ?_
  refine r_call (r14Check_den p hp c hk hl hm) ?_
  refine go ?_
  refine c_ifB (fun h1 => ?_) (fun h1 => ?_)
  · refine go ?_
    refine fin ?_
    exact cv
  · exfalso
    cases q : ciOk p c with
    | false => rw [q] at h1; simp [errI] at h1
    | true =>
      rw [q] at h1 h
      simp [errI] at h1
      rw [decide_eq_true (show c.k = 2 by omega)] at h
      cases h
theorem r20Down_no (p : PD) (n ex : Nat) (h : Cv p n 1 ex) (A : Nat → Nat → Nat → Nat) (hA : Vc p 1 A) : Den Tryz.prog 19 [.agg (parL true p), .agg (ciV true 1 ex 2 n A)] (.tup [.agg zeroC, .val (.int .i64 9)]) := by
  refine den_intro (fn := Tryz.f19) rfl rfl rfl rfl rfl ?_
  refine go ?_
  refine r_call (r14CheckV_den p n 1 ex 2 h (.inl rfl) A hA) ?_
  refine go ?_
  refine c_no ?_
  refine go ?_
  refine fin ?_
  exact cv
/-- What the reference's Down makes of a part. -/
def d18V (p : PD) (lv ex : Nat) (g : Nat → Nat → Nat) : Nat → Nat → Nat := div18 p lv (invV (resI ((p.prime ^ ex : Nat) : Int) (modQ p (lv + 1) lv)) (modQ p (lv + 1) lv)) (modQ p (lv + 1) lv) (p.prime ^ ex) g
theorem r20Down_ok (p : PD) (n lv ex : Nat) (h : Cv p n (lv + 1) ex) (h1 : 1 ≤ lv) (A : Nat → Nat → Nat → Nat) (hA : Vc p (lv + 1) A) : Den Tryz.prog 19 [.agg (parL true p), .agg (ciV true (lv + 1) ex 2 n A)] (.tup [.agg (ciV false lv ex 2 n (fun i => d18V p lv ex (A i))), .val (.int .i64 0)]) := by
  refine den_intro (fn := Tryz.f19) rfl rfl rfl rfl rfl ?_
  have l2 := h.lv.l2
  have l24 := h.lv.vp.len2
  obtain ⟨b1, b2, b3⟩ := good_pow h.st.good h.st.e2
  have hx2 := good_ex b1 b2
  have ht := b1 ex (Nat.le_refl _)
  have e : modQ p (lv + 1) lv = p.chain.getD lv 0 := by unfold modQ; rw [if_pos (by omega)]
  have hdv : ∀ i, Den Tryz.prog 79 [.agg (parL true p), .agg (elL true (lv + 1) false (lv + 1) n (A i)), .val (.int .u32 ((modQ p (lv + 1) lv : Nat) : Int)), .val (.int .i64 ((p.prime ^ ex : Nat) : Int))] (.agg (elL false lv false lv n (d18V p lv ex (A i)))) := fun i => r18Divided_den p n lv ex _ h h1 ht (A i) (hA i) _ _ rfl rfl
  rw [e] at hdv
  refine go ?_
  refine r_call (r14CheckV_den p n (lv + 1) ex 2 h (.inl rfl) A hA) ?_
  refine go ?_
  refine c_no ?_
  refine go ?_
  refine c_nilcell 1006 2 1900 31 3 (fun i => elL false lv false lv n (d18V p lv ex (A i))) ?_
  refine c_up 2 (fun i => [(7, .val (.int .i64 (i : Nat)))]) (fun i => [(1006, some (.lit 42 [.val (.int .i64 ((lv + 1 - 1 : Nat) : Int)), .val (.int .i64 (ex : Int)), .sl 1900 3 i])), (1900, some (.arr 31 i 3 (fun i => elL false lv false lv n (d18V p lv ex (A i)))))]) (fun i hi => ?_)
  refine go ?_
  refine c_if (fun h3 => ?_) (fun h3 => ?_)
  · refine go ?_
    refine r_callO (r13Plain_den p ex b1 hx2) ?_
    refine go ?_
    refine r_callO (hdv i) ?_
    refine go ?_
    refine ⟨h3, ?_⟩
    refine sub_arr (1000 + 54) (fun i => elL false lv false lv n (d18V p lv ex (A i))) (appF_snoc rfl) (fun _ => rfl) ?_
    refine sub_toL [34] (1000 + 54) 1900 ?_
    exact sub
  · obtain rfl : i = 2 := by omega
    refine go ?_
    refine fin_freeze 1900 ?_
    refine fin ?_
    exact cv
end Go.Proofs.YtefoddjclngckaaGreat

namespace Go.Proofs.YtefoddjclngckaaGreat
open Go.RowKit
theorem resI_small {a q : Nat} (h : a < q) : resI (a : Int) q = a := by
  unfold resI
  rw [Int.emod_eq_of_lt (by omega) (by omega)]
  exact Int.toNat_natCast a
theorem raise_eq {p : PD} {n lv ex : Nat} (h : Cv p n lv ex) (g : Nat → Nat → Nat) : mulIntV p lv (p.prime : Int) g = sclV p lv (fun _ => p.prime) g := by
  funext k j
  unfold mulIntV sclV
  rw [resI_small (prime_lt h k).2.1]
theorem one_eq' {p : PD} {lv : Nat} {g : Nat → Nat → Nat} (hg : Vg p lv g) : sclV p lv (fun _ => 1) g = g := by
  funext k j
  unfold sclV
  rw [Nat.mul_one, Nat.mod_eq_of_lt (hg k j)]
theorem div_eq {p : PD} {n lv ex : Nat} (h : Cv p n lv ex) (g : Nat → Nat → Nat) : sclV p lv (fun k => invV p.prime (modQ p lv k)) g = sclV p lv (divB p lv) g := by
  funext k j
  unfold sclV divB
  rw [resI_small (prime_lt h k).2.1]
theorem resI_mul {x t : Int} {q : Nat} (h : 0 < q) : resI x q * resI t q % q = resI (x * t) q := by
  have e : ((resI x q * resI t q % q : Nat) : Int) = ((resI (x * t) q : Nat) : Int) := by
    rw [Int.natCast_emod, Int.natCast_mul, resI_cast h, resI_cast h, resI_cast h, ← Int.mul_emod]
  exact Int.ofNat.inj e
theorem resI_neg1 {q : Nat} (h : 2 ≤ q) : resI (-1) q = q - 1 := by
  have h1 := resI_cast (x := -1) (show 0 < q by omega)
  have h2 : (-1 : Int) % (q : Int) = (q : Int) - 1 := by
    rw [← Int.add_emod_right, Int.emod_eq_of_lt (by omega) (by omega)]; omega
  omega
theorem sub_m1 {a b q : Nat} (hb : b < q) (h : 2 ≤ q) : (a + b * (q - 1)) % q = (a + q - b) % q := by
  have e : a + b * (q - 1) + q = a + q - b + b * q := by
    have h1 : b * (q - 1) + b = b * q := by
      have := Nat.mul_succ b (q - 1)
      rw [show (q - 1).succ = q by omega] at this
      omega
    omega
  have h2 : (a + b * (q - 1)) % q = (a + b * (q - 1) + q) % q := (Nat.add_mod_right _ _).symm
  rw [h2, e, Nat.add_mul_mod_self_right]
theorem down_eq {p : PD} {n lv ex : Nat} (h : Cv p n (lv + 1) ex) (h1 : 1 ≤ lv) (b q t : Nat) (g : Nat → Nat → Nat) : div18 p lv b q t g = downV p lv b q t g := by
  have hC := h.less (lv' := lv) h1 (by omega)
  have hm := modQ_in hC.lv.vp hC.lv.sp hC.lv.l2
  have e : mulIntV p lv (t : Int) (intV p lv (fun j => balI (g lv j * b % q) q)) = intV p lv (fun j => nearI b q t (g lv j)) := by
    funext k j
    unfold mulIntV intV nearI
    exact resI_mul (by have := hm k; omega)
  have e2 : pre18 p lv b q t g = subV p lv g (intV p lv (fun j => nearI b q t (g lv j))) := by
    unfold pre18
    rw [e]
    funext k j
    unfold sumV subV
    have hk := hm k
    rw [resI_neg1 (by omega)]
    exact sub_m1 (vg_int hC.lv _ k j) (by omega)
  unfold div18 downV
  rw [e2]
end Go.Proofs.YtefoddjclngckaaGreat

namespace Go.Proofs.YtefoddjclngckaaGreat
open Go.RowKit
set_option maxRecDepth 20000
set_option maxHeartbeats 4000000
theorem r14SameV_den (lv ex k n : Nat) (hlv : lv ≤ 1000) (hk : k ≤ 3) (hn : n ≤ 32) (A B : Nat → Nat → Nat → Nat) (h : ∀ i, i < k → ∀ r, r < lv → ∀ j, j < n → A i r j = B i r j) : Den Tryz.prog 20 [.agg (ciV true lv ex k n A), .agg (ciV true lv ex k n B)] (.val (.bool true)) := by
  have := r14Same_den (cgV lv ex k n A) (cgV lv ex k n B) (by show k ≤ _; omega) (by show k ≤ _; omega) (fun _ => by show lv ≤ _; omega) (fun _ => by show lv ≤ _; omega) (fun _ _ => by show n ≤ _; omega) (fun _ _ => by show n ≤ _; omega)
  rw [sameC_V h] at this
  exact this
theorem r14Same0_den : Den Tryz.prog 20 [.agg zeroC, .agg zeroC] (.val (.bool true)) :=
  (r14SameV_den 0 0 0 0 (by omega) (by omega) (by omega) (fun _ _ _ => 0) (fun _ _ _ => 0) (fun _ h => absurd h (by omega))).arg (.cons (Cvt.agg (.cons (.of_eq rfl) (.cons (.of_eq rfl) (.cons (Cvt.nil _ _ _) .nil)))) (.cons (Cvt.agg (.cons (.of_eq rfl) (.cons (.of_eq rfl) (.cons (Cvt.nil _ _ _) .nil)))) .nil))
end Go.Proofs.YtefoddjclngckaaGreat

namespace Go.Proofs.YtefoddjclngckaaGreat
open Go.RowKit
set_option maxRecDepth 20000
set_option maxHeartbeats 4000000
instance fi6 : FI Tryz.prog 6 Tryz.f6 := ⟨Tryz.func6, Tryz.call6⟩
instance fi4 : FI Tryz.prog 4 Tryz.f4 := ⟨Tryz.func4, Tryz.call4⟩
instance fi17 : FI Tryz.prog 17 Tryz.f17 := ⟨Tryz.func17, Tryz.call17⟩
/-- A result said otherwise. -/
theorem DenH.res {P : Program} {f : FuncId} {ds : List D} {hs hs' rs : Hs} {r r' : D} (h : DenH P f ds hs r hs' rs) (hc : Cvt r r') : DenH P f ds hs r' hs' rs := fun Zc w i args hZ hi hH ha =>
  (h Zc w i args hZ hi hH ha).mono fun e w' ⟨v, i', Zn', p0, p1, p2, p3, p4, p5, pfl, p6, p7⟩ => ⟨v, i', Zn', p0, p1, p2, p3, p4, p5, pfl, p6, hc.cv (fun b hb => .inr hb) p7⟩
theorem zero_res {o : Bool} {n : Nat} {x : Int} {G : Nat → Nat → Nat → Nat} : Cvt (.tup [.agg zeroC, .val (.int .i64 x)]) (.tup [.agg (ciV o 0 0 0 n G), .val (.int .i64 x)]) :=
  Cvt.tup (.cons (Cvt.agg (.cons (.of_eq rfl) (.cons (.of_eq rfl) (.cons (Cvt.nil _ _ _) .nil)))) (.cons (.of_eq rfl) .nil))
theorem rsExponents_gen (p : PD) (c : CG) (hd : Dflt c) (x : Int) (haw : Den Tryz.prog 17 [] (.val (.bool true))) (n l1 x1 k1 l2 x2 k2 l3 x3 k3 : Nat) (e1 e2 e3 : Int) (G1 H1 G2 H2 G3 H3 : Nat → Nat → Nat → Nat)
    (d1 : smallC c = true → Den Tryz.prog 30 [.agg (parL true p), .agg (ciD true c)] (.tup [.agg (ciV false l1 x1 k1 n G1), .val (.int .i64 e1)]))
    (r1 : smallC c = true → Den Tryz.prog 31 [.agg (parL true p), .agg (ciD true c)] (.tup [.agg (ciV false l1 x1 k1 n H1), .val (.int .i64 e1)]))
    (s1 : Den Tryz.prog 20 [.agg (ciV true l1 x1 k1 n G1), .agg (ciV true l1 x1 k1 n H1)] (.val (.bool true)))
    (d2 : smallC c = true → Den Tryz.prog 32 [.agg (parL true p), .agg (ciD true c)] (.tup [.agg (ciV false l2 x2 k2 n G2), .val (.int .i64 e2)]))
    (r2 : smallC c = true → Den Tryz.prog 33 [.agg (parL true p), .agg (ciD true c)] (.tup [.agg (ciV false l2 x2 k2 n H2), .val (.int .i64 e2)]))
    (s2 : Den Tryz.prog 20 [.agg (ciV true l2 x2 k2 n G2), .agg (ciV true l2 x2 k2 n H2)] (.val (.bool true)))
    (d3 : smallC c = true → Den Tryz.prog 34 [.agg (parL true p), .agg (ciD true c), .val (.int .i64 x)] (.tup [.agg (ciV false l3 x3 k3 n G3), .val (.int .i64 e3)]))
    (r3 : smallC c = true → Den Tryz.prog 35 [.agg (parL true p), .agg (ciD true c), .val (.int .i64 x)] (.tup [.agg (ciV true l3 x3 k3 n H3), .val (.int .i64 e3)]))
    (s3 : Den Tryz.prog 20 [.agg (ciV true l3 x3 k3 n G3), .agg (ciV true l3 x3 k3 n H3)] (.val (.bool true))) :
    Den Tryz.prog 6 [.agg (parL true p), .agg (ciD true c), .val (.int .i64 x)] (.val (.bool true)) := by
  refine den_intro (fn := Tryz.f6) rfl rfl rfl rfl rfl ?_
  refine go ?_
  refine r_call (large14_den c hd.k hd.m hd.l) ?_
  refine go ?_
  refine c_ifB (fun h1 => ?_) (fun h1 => ?_)
  · refine go ?_
    refine r_call haw ?_
    refine go ?_
    refine fin ?_
    exact cv
  have hs := not_f h1
  replace d1 := d1 hs
  replace r1 := r1 hs
  replace d2 := d2 hs
  replace r2 := r2 hs
  replace d3 := d3 hs
  replace r3 := r3 hs
  refine go ?_
  refine r_call d1 ?_
  refine go ?_
  refine r_call r1 ?_
  refine go ?_
  refine r_call s1 ?_
  refine go ?_
  refine r_call d2 ?_
  refine go ?_
  refine r_call r2 ?_
  refine go ?_
  refine r_call s2 ?_
  refine go ?_
  refine r_call d3 ?_
  refine go ?_
  refine r_callO r3 ?_
  refine go ?_
  refine r_call s3 ?_
  refine go ?_
  refine g_callM (hl := fun hb => r_call haw (run_fin rfl)) (h := ?_)
  refine go ?_
  refine fin ?_
  rw [show (true && decide (e3 = e3)) = true by simp]
  exact cv
end Go.Proofs.YtefoddjclngckaaGreat

namespace Go.Proofs.YtefoddjclngckaaGreat
open Go.RowKit
set_option maxRecDepth 20000
set_option maxHeartbeats 4000000
theorem rsDowns_gen (p : PD) (c : CG) (hd : Dflt c) (x : Int) (haw : Den Tryz.prog 17 [] (.val (.bool true))) (n l1 x1 k1 l2 x2 k2 : Nat) (e1 e2 : Int) (G1 H1 G2 H2 : Nat → Nat → Nat → Nat)
    (d1 : smallC c = true → Den Tryz.prog 18 [.agg (parL true p), .agg (ciD true c)] (.tup [.agg (ciV false l1 x1 k1 n G1), .val (.int .i64 e1)]))
    (r1 : smallC c = true → Den Tryz.prog 19 [.agg (parL true p), .agg (ciD true c)] (.tup [.agg (ciV false l1 x1 k1 n H1), .val (.int .i64 e1)]))
    (s1 : Den Tryz.prog 20 [.agg (ciV true l1 x1 k1 n G1), .agg (ciV true l1 x1 k1 n H1)] (.val (.bool true)))
    (d2 : smallC c = true → Den Tryz.prog 21 [.agg (parL true p), .agg (ciD true c), .val (.int .i64 x)] (.tup [.agg (ciV false l2 x2 k2 n G2), .val (.int .i64 e2)]))
    (r2 : smallC c = true → Den Tryz.prog 22 [.agg (parL true p), .agg (ciD true c), .val (.int .i64 x)] (.tup [.agg (ciV false l2 x2 k2 n H2), .val (.int .i64 e2)]))
    (s2 : Den Tryz.prog 20 [.agg (ciV true l2 x2 k2 n G2), .agg (ciV true l2 x2 k2 n H2)] (.val (.bool true))) :
    Den Tryz.prog 4 [.agg (parL true p), .agg (ciD true c), .val (.int .i64 x)] (.val (.bool true)) := by
  refine den_intro (fn := Tryz.f4) rfl rfl rfl rfl rfl ?_
  refine go ?_
  refine r_call (large14_den c hd.k hd.m hd.l) ?_
  refine go ?_
  refine c_ifB (fun h1 => ?_) (fun h1 => ?_)
  · refine go ?_
    refine r_call haw ?_
    refine go ?_
    refine fin ?_
    exact cv
  have hs := not_f h1
  replace d1 := d1 hs
  replace r1 := r1 hs
  replace d2 := d2 hs
  replace r2 := r2 hs
  refine go ?_
  refine r_call d1 ?_
  refine go ?_
  refine r_call r1 ?_
  refine go ?_
  refine r_call s1 ?_
  refine go ?_
  refine r_call d2 ?_
  refine go ?_
  refine r_call r2 ?_
  refine go ?_
  refine r_call s2 ?_
  refine go ?_
  refine g_callM (hl := fun hb => r_call haw (run_fin rfl)) (h := ?_)
  refine go ?_
  refine fin ?_
  rw [show (true && decide (e2 = e2)) = true by simp]
  exact cv
end Go.Proofs.YtefoddjclngckaaGreat

namespace Go.Proofs.YtefoddjclngckaaGreat
open Go.RowKit
set_option maxRecDepth 20000
set_option maxHeartbeats 4000000
/-- Two functions that make the same of the same. -/
def Alike (f g : FuncId) (ds : List D) (n : Nat) (o : Bool) : Prop := ∃ (l x k : Nat) (e : Int) (G H : Nat → Nat → Nat → Nat),
  Den Tryz.prog f ds (.tup [.agg (ciV false l x k n G), .val (.int .i64 e)]) ∧ Den Tryz.prog g ds (.tup [.agg (ciV o l x k n H), .val (.int .i64 e)]) ∧ Den Tryz.prog 20 [.agg (ciV true l x k n G), .agg (ciV true l x k n H)] (.val (.bool true))
theorem Alike.zero {f g : FuncId} {ds : List D} {n : Nat} {o : Bool} {e : Int} (hn : n ≤ 32) (h1 : Den Tryz.prog f ds (.tup [.agg zeroC, .val (.int .i64 e)])) (h2 : Den Tryz.prog g ds (.tup [.agg zeroC, .val (.int .i64 e)])) : Alike f g ds n o :=
  ⟨0, 0, 0, e, fun _ _ _ => 0, fun _ _ _ => 0, h1.res zero_res, h2.res zero_res, r14SameV_den 0 0 0 n (by omega) (by omega) hn _ _ (fun _ h => absurd h (by omega))⟩
theorem Alike.arg {f g : FuncId} {ds ds' : List D} {n : Nat} {o : Bool} (h : Alike f g ds' n o) (hc : CvtL ds ds') : Alike f g ds n o := by
  obtain ⟨l, x, k, e, G, H, h1, h2, h3⟩ := h
  exact ⟨l, x, k, e, G, H, h1.arg hc, h2.arg hc, h3⟩
theorem ciOk_k {p : PD} {c : CG} (h : ciOk p c = true) : c.k = 2 ∨ c.k = 3 := by
  unfold ciOk at h
  simp only [Bool.and_eq_true, Bool.or_eq_true, decide_eq_true_eq] at h
  exact h.1.2
section
variable {p : PD} {n lv ex k : Nat} (h : Cv p n lv ex) (hk : k = 2 ∨ k = 3) {A : Nat → Nat → Nat → Nat} (hA : Vc p lv A)
theorem lv_le (h : Cv p n lv ex) : lv ≤ 1000 := by have := h.lv.l2; have := h.lv.vp.len2; omega
include h hk hA
theorem alike_divide : Alike 30 31 [.agg (parL true p), .agg (ciV true lv ex k n A)] n false := by
  by_cases hx : 1 < ex
  · refine ⟨lv, ex - 1, k, 0, _, _, rsDivide_ok p n lv ex k h hk A hA hx, r20Divide_ok p n lv ex k h hk A hA hx, r14SameV_den _ _ _ _ (lv_le h) (by omega) h.lv.n32 _ _ (fun i _ r _ j _ => ?_)⟩
    rw [div_eq h]
  · have hx' : decide (1 < (ex : Int)) = false := decide_eq_false (by omega)
    exact .zero h.lv.n32 (rsDivide_no p n lv ex k h hk A hA hx') (r20Divide_no p n lv ex k h hk A hA hx')
theorem alike_raise : Alike 32 33 [.agg (parL true p), .agg (ciV true lv ex k n A)] n false := by
  by_cases hx : (ex : Int) < p.power
  · refine ⟨lv, ex + 1, k, 0, _, _, rsRaise_ok p n lv ex k h hk A hA hx, r20Raise_ok p n lv ex k h hk A hA hx, r14SameV_den _ _ _ _ (lv_le h) (by omega) h.lv.n32 _ _ (fun i _ r _ j _ => ?_)⟩
    rw [raise_eq h]
  · have hx' : decide ((ex : Int) < p.power) = false := decide_eq_false hx
    exact .zero h.lv.n32 (rsRaise_no p n lv ex k h hk A hA hx') (r20Raise_no p n lv ex k h hk A hA hx')
theorem alike_exponent (x : Nat) (hx : 1 ≤ x ∧ (x : Int) ≤ p.power) : Alike 34 35 [.agg (parL true p), .agg (ciV true lv ex k n A), .val (.int .i64 (x : Int))] n true := by
  refine ⟨lv, x, k, 0, _, _, rsExponent_ok p n lv ex k h hk A hA x hx, r20Exponent_ok p n lv ex k h hk A hA x hx, r14SameV_den _ _ _ _ (lv_le h) (by omega) h.lv.n32 _ _ (fun i _ r _ j _ => ?_)⟩
  rw [one_eq' (hA i)]
theorem alike_drop (x : Nat) (h1 : 1 ≤ x) (hx : x ≤ lv) : Alike 21 22 [.agg (parL true p), .agg (ciV true lv ex k n A), .val (.int .i64 (x : Int))] n false :=
  ⟨x, ex, k, 0, _, _, rsDrop_ok p n lv ex k h hk A hA x h1 hx, r20Drop_ok p n lv ex k h hk A hA x h1 hx, r14SameV_den _ _ _ _ (by have := lv_le h; omega) (by omega) h.lv.n32 _ _ (fun i _ r _ j _ => rfl)⟩
end
theorem alike_down {p : PD} {n lv ex : Nat} (h : Cv p n lv ex) {A : Nat → Nat → Nat → Nat} (hA : Vc p lv A) : Alike 18 19 [.agg (parL true p), .agg (ciV true lv ex 2 n A)] n false := by
  have l1 := h.lv.l1
  match lv, h, hA, l1 with
  | 1, h, hA, _ => exact .zero h.lv.n32 (rsDown_no p n ex h A hA) (r20Down_no p n ex h A hA)
  | m + 2, h, hA, _ =>
    refine ⟨m + 1, ex, 2, 0, _, _, rsDown_ok p n (m + 1) ex h (by omega) A hA, r20Down_ok p n (m + 1) ex h (by omega) A hA, r14SameV_den _ _ _ _ (by have := lv_le h; omega) (by omega) h.lv.n32 _ _ (fun i _ r _ j _ => ?_)⟩
    unfold dnV d18V
    rw [down_eq h (by omega)]
end Go.Proofs.YtefoddjclngckaaGreat
