/- Rescaling, by data: rows that are multiplied.
Rescaling, by data: the plain modulus's exponent.
Rescaling, by data: fewer primes.
Rescaling, by data: Drop and Down. -/
import Derived.Test.YtefoddjclngckaaGreatPrd45
import Derived.Test.YtefoddjclngckaaGreatPrd43
set_option linter.unusedSimpArgs false
set_option linter.unusedVariables false
set_option linter.unnecessarySimpa false
namespace Go.Proofs.YtefoddjclngckaaGreat
open Go.RowKit
set_option maxRecDepth 20000
set_option maxHeartbeats 4000000
/-- Rows, each times a number. -/
def sclV (p : PD) (lv : Nat) (b : Nat → Nat) (g : Nat → Nat → Nat) (k j : Nat) : Nat := g k j * b k % modQ p lv k
theorem rsscaled1_den (x f q : Nat) (h2 : 2 ≤ q) (hq : q ≤ 2147483647) (hx : x < q) (hf : f < q) : Den Tryz.prog 164 [.val (.int .u32 (x : Int)), .fptr true [.val (.int .u32 (f : Int))], .fptr true [.val (.int .u32 (q : Int))]] (.val (.int .u32 ((x * f % q : Nat) : Int))) := by
  refine den_intro (fn := Tryz.f164) rfl rfl rfl rfl rfl ?_
  refine go ?_
  refine r_call (mMul_den x f q h2 hq hx hf) ?_
  refine go ?_
  refine fin ?_
  exact cv
theorem rsscaledE_den (p : PD) (n lv : Nat) (h : Lv p n lv) (g : Nat → Nat → Nat) (hg : Vg p lv g) (b : Nat → Nat) {fl : FuncId} {fn : Func} [FI Tryz.prog fl fn]  (hby : ∀ k, k < lv → Den Tryz.prog fl (.val (.int .u32 ((modQ p lv k : Nat) : Int)) :: []) (.val (.int .u32 ((b k : Nat) : Int)))) (hb : ∀ k, k < lv → b k < modQ p lv k) :
    Den Tryz.prog 77 [.agg (parL true p), .agg (elL true lv false lv n g), .clo fl []] (.agg (elL false lv false lv n (sclV p lv b g))) := by
  refine den_intro (fn := Tryz.f77) rfl rfl rfl rfl rfl ?_
  have h32 := h.n32
  have l2 := h.l2
  have l24 := h.vp.len2
  have hm := modQ_in h.vp h.sp h.l2
  refine go ?_
  refine c_nilcell 1007 2 1900 23 1 (fun k => [.fz false n 1 (fun j => [.val (.int .u32 ((sclV p lv b g k j : Nat) : Int))])]) ?_
  refine c_up lv (fun i => [(20, .val (.int .i64 (i : Nat)))]) (fun i => [(1007, some (.lit 31 [.val (.int .i64 (lv : Int)), .val (.bool false), .sl 1900 1 i])), (1900, some (.arr 23 i 1 (fun k => [.fz false n 1 (fun j => [.val (.int .u32 ((sclV p lv b g k j : Nat) : Int))])])))]) (fun i hi => ?_)
  refine go ?_
  have hq := hm i
  refine c_if (fun h3 => ?_) (fun h3 => ?_)
  · have hbi := hb i h3
    have hgi := hg i
    have e : modQ p lv i = p.chain.getD i 0 := by unfold modQ; rw [if_pos h3]
    have hbyi := hby i h3
    have hmap := mapww_den n (g i) (fun j => g i j * b i % modQ p lv i) (by omega) [.val (.int .u32 ((b i : Nat) : Int))] [.val (.int .u32 ((modQ p lv i : Nat) : Int))] (fun j hj => rsscaled1_den (g i j) (b i) (modQ p lv i) (by omega) (by omega) (hgi j) hbi)
    rw [e] at hbyi hmap
    refine go ?_
    refine r_callO hbyi ?_
    refine go ?_
    refine r_call hmap ?_
    refine go ?_
    rw [← e]
    refine ⟨h3, ?_⟩
    refine sub_arr (1000 + 39) (fun k => [.fz false n 1 (fun j => [.val (.int .u32 ((sclV p lv b g k j : Nat) : Int))])]) (appF_snoc rfl) (fun _ => rfl) ?_
    refine sub_toL [34, 36, 11, 10] (1000 + 39) 1900 ?_
    exact sub
  · obtain rfl : i = lv := by omega
    refine go ?_
    refine fin_freeze 1900 ?_
    refine fin ?_
    exact cv
theorem rsscaledF_den (p : PD) (n lv : Nat) (h : Lv p n lv) (g : Nat → Nat → Nat) (hg : Vg p lv g) (b : Nat → Nat) {fl : FuncId} {fn : Func} [FI Tryz.prog fl fn] (l1 : List D) [OldDL l1] (hby : ∀ k, k < lv → Den Tryz.prog fl (.val (.int .u32 ((modQ p lv k : Nat) : Int)) :: [.fptr true l1]) (.val (.int .u32 ((b k : Nat) : Int)))) (hb : ∀ k, k < lv → b k < modQ p lv k) :
    Den Tryz.prog 77 [.agg (parL true p), .agg (elL true lv false lv n g), .clo fl [.fptr true l1]] (.agg (elL false lv false lv n (sclV p lv b g))) := by
  refine den_intro (fn := Tryz.f77) rfl rfl rfl rfl rfl ?_
  have h32 := h.n32
  have l2 := h.l2
  have l24 := h.vp.len2
  have hm := modQ_in h.vp h.sp h.l2
  refine go ?_
  refine c_nilcell 1007 2 1900 23 1 (fun k => [.fz false n 1 (fun j => [.val (.int .u32 ((sclV p lv b g k j : Nat) : Int))])]) ?_
  refine c_up lv (fun i => [(20, .val (.int .i64 (i : Nat)))]) (fun i => [(1007, some (.lit 31 [.val (.int .i64 (lv : Int)), .val (.bool false), .sl 1900 1 i])), (1900, some (.arr 23 i 1 (fun k => [.fz false n 1 (fun j => [.val (.int .u32 ((sclV p lv b g k j : Nat) : Int))])])))]) (fun i hi => ?_)
  refine go ?_
  have hq := hm i
  refine c_if (fun h3 => ?_) (fun h3 => ?_)
  · have hbi := hb i h3
    have hgi := hg i
    have e : modQ p lv i = p.chain.getD i 0 := by unfold modQ; rw [if_pos h3]
    have hbyi := hby i h3
    have hmap := mapww_den n (g i) (fun j => g i j * b i % modQ p lv i) (by omega) [.val (.int .u32 ((b i : Nat) : Int))] [.val (.int .u32 ((modQ p lv i : Nat) : Int))] (fun j hj => rsscaled1_den (g i j) (b i) (modQ p lv i) (by omega) (by omega) (hgi j) hbi)
    rw [e] at hbyi hmap
    refine go ?_
    refine r_callO hbyi ?_
    refine go ?_
    refine r_call hmap ?_
    refine go ?_
    rw [← e]
    refine ⟨h3, ?_⟩
    refine sub_arr (1000 + 39) (fun k => [.fz false n 1 (fun j => [.val (.int .u32 ((sclV p lv b g k j : Nat) : Int))])]) (appF_snoc rfl) (fun _ => rfl) ?_
    refine sub_toL [34, 36, 11, 10] (1000 + 39) 1900 ?_
    exact sub
  · obtain rfl : i = lv := by omega
    refine go ?_
    refine fin_freeze 1900 ?_
    refine fin ?_
    exact cv
end Go.Proofs.YtefoddjclngckaaGreat

namespace Go.Proofs.YtefoddjclngckaaGreat
open Go.RowKit
set_option maxRecDepth 20000
set_option maxHeartbeats 4000000
instance fi30 : FI Tryz.prog 30 Tryz.f30 := ⟨Tryz.func30, Tryz.call30⟩
instance fi93 : FI Tryz.prog 93 Tryz.f93 := ⟨Tryz.func93, Tryz.call93⟩
instance fi94 : FI Tryz.prog 94 Tryz.f94 := ⟨Tryz.func94, Tryz.call94⟩
instance fi95 : FI Tryz.prog 95 Tryz.f95 := ⟨Tryz.func95, Tryz.call95⟩
instance fi32 : FI Tryz.prog 32 Tryz.f32 := ⟨Tryz.func32, Tryz.call32⟩
instance fi98 : FI Tryz.prog 98 Tryz.f98 := ⟨Tryz.func98, Tryz.call98⟩
instance fi99 : FI Tryz.prog 99 Tryz.f99 := ⟨Tryz.func99, Tryz.call99⟩
instance fi100 : FI Tryz.prog 100 Tryz.f100 := ⟨Tryz.func100, Tryz.call100⟩
instance fi34 : FI Tryz.prog 34 Tryz.f34 := ⟨Tryz.func34, Tryz.call34⟩
instance fi102 : FI Tryz.prog 102 Tryz.f102 := ⟨Tryz.func102, Tryz.call102⟩
instance fi103 : FI Tryz.prog 103 Tryz.f103 := ⟨Tryz.func103, Tryz.call103⟩
instance fi104 : FI Tryz.prog 104 Tryz.f104 := ⟨Tryz.func104, Tryz.call104⟩
abbrev zeroC : List D := [.val (.int .i64 0), .val (.int .i64 0), .val (.slice none 0 0)]
abbrev cgR (lv ex k n : Nat) (A : Nat → Nat → Nat → Nat) : CG := ⟨lv, ex, k, fun i => ⟨lv, false, lv, fun _ => n, A i⟩⟩
theorem ciOk_V {p : PD} {n lv ex k : Nat} (h : Cv p n lv ex) (hk : k = 2 ∨ k = 3) {A : Nat → Nat → Nat → Nat} (hA : Vc p lv A) : ciOk p (cgR lv ex k n A) = true :=
  ciOk_4 (stB_iff.2 h.st) hk fun i _ => by
    unfold partOk eOk
    rw [show elOk p (lv : Int) false lv (fun _ => n) (A i) = true from elOk_valid h.lv (hA i)]
    simp
theorem metI_bad {p : PD} {c : CG} {vb pb : Bool} (h : ciOk p c = false) : metI p c vb pb = 2 := by unfold metI; rw [h]; rfl
theorem metI_bad' {p : PD} {c : CG} {pb : Bool} : metI p c false pb = 2 := by unfold metI; rw [Bool.and_false]; rfl
theorem metI_V {p : PD} {c : CG} {pb : Bool} (h : ciOk p c = true) : metI p c true pb = if pb = true then 0 else 9 := by unfold metI; rw [h]; rfl
theorem rsmetV_den (p : PD) (n lv ex k : Nat) (h : Cv p n lv ex) (hk : k = 2 ∨ k = 3) (A : Nat → Nat → Nat → Nat) (hA : Vc p lv A) {fv fp : FuncId} {fnv fnp : Func} [FI Tryz.prog fv fnv] [FI Tryz.prog fp fnp] (cv' cp' : List D) [OldDL cv'] [OldDL cp'] (pb : Bool) (hv : Den Tryz.prog fv (.agg (parL true p) :: .agg (ciV true lv ex k n A) :: cv') (.val (.bool true))) (hpo : Den Tryz.prog fp (.agg (parL true p) :: .agg (ciV true lv ex k n A) :: cp') (.val (.bool pb)))
    (f1 : D.free.freeL (fun _ => false) cv' = true := by rfl) (f2 : D.free.freeL (fun _ => false) cp' = true := by rfl) :
    Den Tryz.prog 66 [.agg [.clo fv cv', .clo fp cp'], .agg (parL true p), .agg (ciV true lv ex k n A)] (.val (.int .i64 (if pb = true then 0 else 9))) := by
  have h32 := h.lv.n32
  have l2 := h.lv.l2
  have l24 := h.lv.vp.len2
  have := rsmet_den p h.fit (cgR lv ex k n A) (by show k ≤ _; omega) (fun _ _ => by show n ≤ _; omega) (fun _ => by show lv ≤ _; omega) cv' cp' true pb hv hpo f1 f2
  rw [metI_V (ciOk_V h hk hA)] at this
  exact this
theorem prime_lt {p : PD} {n lv ex : Nat} (h : Cv p n lv ex) (k : Nat) : 3 ≤ p.prime ∧ p.prime < modQ p lv k ∧ p.prime < 65536 := by
  have g := h.st.good
  obtain ⟨a, b, -⟩ := g.2.2.2.2.2.2.1
  have hc : 1073741824 < modQ p lv k := by
    unfold modQ
    split
    · exact (g.2.2.2.2.2.2.2.2.1 k (by have := h.lv.l2; show k < p.chain.length; omega)).1.1
    · exact g.2.2.2.2.2.2.2.1.1
  simp only [PD.par] at a b
  omega
theorem invV_lt {a q : Nat} (h : 0 < q) : invV a q < q := by
  unfold invV
  split
  · exact resI_lt h
  · exact h
theorem rsDivide1_den (p : PD) (c : CG) : Den Tryz.prog 93 [.agg (parL true p), .agg (ciD true c)] (.val (.bool (decide (1 < c.ex)))) := by
  refine den_intro (fn := Tryz.f93) rfl rfl rfl rfl rfl ?_
  refine go ?_
  refine fin ?_
  exact cv
theorem rsRaise1_den (p : PD) (c : CG) : Den Tryz.prog 98 [.agg (parL true p), .agg (ciD true c)] (.val (.bool (decide (c.ex < p.power)))) := by
  refine den_intro (fn := Tryz.f98) rfl rfl rfl rfl rfl ?_
  refine go ?_
  refine fin ?_
  exact cv
theorem rsExponent1_den (p : PD) (c : CG) (x : Int) : Den Tryz.prog 102 [.agg (parL true p), .agg (ciD true c), .fptr true [.val (.int .i64 x)]] (.val (.bool (decide (1 ≤ x) && decide (x ≤ p.power)))) := by
  refine den_intro (fn := Tryz.f102) rfl rfl rfl rfl rfl ?_
  refine go ?_
  refine fin ?_
  exact cv
theorem rsRaise21_den (p : PD) (q : Nat) : Den Tryz.prog 100 [.val (.int .u32 (q : Int)), .fptr true (parL true p)] (.val (.int .u32 ((p.prime : Nat) : Int))) := by
  refine den_intro (fn := Tryz.f100) rfl rfl rfl rfl rfl ?_
  refine go ?_
  refine fin ?_
  exact cv
theorem rsExponent21_den (q : Nat) : Den Tryz.prog 104 [.val (.int .u32 (q : Int))] (.val (.int .u32 ((1 : Nat) : Int))) := by
  refine den_intro (fn := Tryz.f104) rfl rfl rfl rfl rfl ?_
  refine go ?_
  refine fin ?_
  exact cv
theorem rsDivide21_den (p : PD) (q : Nat) (h2 : 2 ≤ q) (hq : q ≤ 2147483647) (hp : p.prime < 65536) : Den Tryz.prog 95 [.val (.int .u32 (q : Int)), .fptr true (parL true p)] (.val (.int .u32 ((invV (resI (p.prime : Int) q) q : Nat) : Int))) := by
  refine den_intro (fn := Tryz.f95) rfl rfl rfl rfl rfl ?_
  refine go ?_
  refine r_call (rsinverse_den (p.prime : Int) q h2 hq (by omega)) ?_
  refine go ?_
  refine fin ?_
  exact cv
/-- The numbers by which the rows are multiplied. -/
def divB (p : PD) (lv k : Nat) : Nat := invV (resI (p.prime : Int) (modQ p lv k)) (modQ p lv k)
theorem rsDivide2_den (p : PD) (n lv ex : Nat) (h : Cv p n lv ex) (g : Nat → Nat → Nat) (hg : Vg p lv g) : Den Tryz.prog 94 [.agg (elL true lv false lv n g), .fptr true (parL true p)] (.agg (elL false lv false lv n (sclV p lv (divB p lv) g))) := by
  refine den_intro (fn := Tryz.f94) rfl rfl rfl rfl rfl ?_
  have hm := modQ_in h.lv.vp h.lv.sp h.lv.l2
  refine go ?_
  refine r_call (rsscaledF_den p n lv h.lv g hg (divB p lv) (parL true p) (fun k hk => rsDivide21_den p _ (by have := hm k; omega) (by have := hm k; omega) (prime_lt h k).2.2) (fun k hk => invV_lt (by have := hm k; omega))) ?_
  refine go ?_
  refine fin ?_
  exact cv
theorem rsRaise2_den (p : PD) (n lv ex : Nat) (h : Cv p n lv ex) (g : Nat → Nat → Nat) (hg : Vg p lv g) : Den Tryz.prog 99 [.agg (elL true lv false lv n g), .fptr true (parL true p)] (.agg (elL false lv false lv n (sclV p lv (fun _ => p.prime) g))) := by
  refine den_intro (fn := Tryz.f99) rfl rfl rfl rfl rfl ?_
  have hm := modQ_in h.lv.vp h.lv.sp h.lv.l2
  refine go ?_
  refine r_call (rsscaledF_den p n lv h.lv g hg (fun _ => p.prime) (parL true p) (fun k hk => rsRaise21_den p _) (fun k hk => (prime_lt h k).2.1)) ?_
  refine go ?_
  refine fin ?_
  exact cv
theorem rsExponent2_den (p : PD) (n lv ex : Nat) (h : Cv p n lv ex) (g : Nat → Nat → Nat) (hg : Vg p lv g) : Den Tryz.prog 103 [.agg (elL true lv false lv n g), .fptr true (parL true p)] (.agg (elL false lv false lv n (sclV p lv (fun _ => 1) g))) := by
  refine den_intro (fn := Tryz.f103) rfl rfl rfl rfl rfl ?_
  have hm := modQ_in h.lv.vp h.lv.sp h.lv.l2
  refine go ?_
  refine r_call (rsscaledE_den p n lv h.lv g hg (fun _ => 1) (fun k hk => rsExponent21_den _) (fun k hk => by have := hm k; omega)) ?_
  refine go ?_
  refine fin ?_
  exact cv
theorem rsDivide_bad (p : PD) (hp : PFit p) (c : CG) (hk : c.k ≤ 1000000) (hl : ∀ i k, (c.P i).ln k ≤ 1000000) (hm : ∀ i, (c.P i).m ≤ 1000000) (h : ciOk p c = false) : Den Tryz.prog 30 [.agg (parL true p), .agg (ciD true c)] (.tup [.agg zeroC, .val (.int .i64 2)]) := by
  refine den_intro (fn := Tryz.f30) rfl rfl rfl rfl rfl ?_
  have hmet := rsmet_den p hp c hk hl hm [] [] true (decide (1 < c.ex)) (rsalways_den p c) (rsDivide1_den p c)
  rw [metI_bad h] at hmet
  refine go ?_
  refine r_call hmet ?_
  refine go ?_
  refine fin ?_
  exact cv
theorem rsDivide_no (p : PD) (n lv ex k : Nat) (h : Cv p n lv ex) (hk : k = 2 ∨ k = 3) (A : Nat → Nat → Nat → Nat) (hA : Vc p lv A) (hx : decide (1 < (ex : Int)) = false) : Den Tryz.prog 30 [.agg (parL true p), .agg (ciV true lv ex k n A)] (.tup [.agg zeroC, .val (.int .i64 9)]) := by
  refine den_intro (fn := Tryz.f30) rfl rfl rfl rfl rfl ?_
  have hmet := rsmetV_den p n lv ex k h hk A hA [] [] (decide (1 < (ex : Int))) (rsalways_den p (cgR lv ex k n A)) (rsDivide1_den p (cgR lv ex k n A))
  rw [hx, if_neg (show ¬ false = true by decide)] at hmet
  refine go ?_
  refine r_call hmet ?_
  refine go ?_
  refine fin ?_
  exact cv
theorem rsDivide_ok (p : PD) (n lv ex k : Nat) (h : Cv p n lv ex) (hk : k = 2 ∨ k = 3) (A : Nat → Nat → Nat → Nat) (hA : Vc p lv A) (hx : 1 < ex) : Den Tryz.prog 30 [.agg (parL true p), .agg (ciV true lv ex k n A)] (.tup [.agg (ciV false lv (ex - 1) k n (fun i => sclV p lv (divB p lv) (A i))), .val (.int .i64 0)]) := by
  refine den_intro (fn := Tryz.f30) rfl rfl rfl rfl rfl ?_
  have e1 := h.st.e1
  have hmet := rsmetV_den p n lv ex k h hk A hA [] [] (decide (1 < (ex : Int))) (rsalways_den p (cgR lv ex k n A)) (rsDivide1_den p (cgR lv ex k n A))
  rw [show decide (1 < (ex : Int)) = true from decide_eq_true (by omega), if_pos rfl] at hmet
  obtain ⟨b1, b2, b3⟩ := good_pow h.st.good h.st.e2
  have hx2 := good_ex b1 b2
  have hp2 := h.fit.power2
  have h1 : 1 < ex := hx
  refine go ?_
  refine r_call hmet ?_
  refine go ?_
  refine r_call (mapEE1_den k n lv lv lv A (fun i => sclV p lv (divB p lv) (A i)) (by omega) (parL true p) (fun i _ => rsDivide2_den p n lv ex h (A i) (hA i))) ?_
  refine go ?_
  refine fin ?_
  exact cv
theorem rsRaise_bad (p : PD) (hp : PFit p) (c : CG) (hk : c.k ≤ 1000000) (hl : ∀ i k, (c.P i).ln k ≤ 1000000) (hm : ∀ i, (c.P i).m ≤ 1000000) (h : ciOk p c = false) : Den Tryz.prog 32 [.agg (parL true p), .agg (ciD true c)] (.tup [.agg zeroC, .val (.int .i64 2)]) := by
  refine den_intro (fn := Tryz.f32) rfl rfl rfl rfl rfl ?_
  have hmet := rsmet_den p hp c hk hl hm [] [] true (decide (c.ex < p.power)) (rsalways_den p c) (rsRaise1_den p c)
  rw [metI_bad h] at hmet
  refine go ?_
  refine r_call hmet ?_
  refine go ?_
  refine fin ?_
  exact cv
theorem rsRaise_no (p : PD) (n lv ex k : Nat) (h : Cv p n lv ex) (hk : k = 2 ∨ k = 3) (A : Nat → Nat → Nat → Nat) (hA : Vc p lv A) (hx : decide ((ex : Int) < p.power) = false) : Den Tryz.prog 32 [.agg (parL true p), .agg (ciV true lv ex k n A)] (.tup [.agg zeroC, .val (.int .i64 9)]) := by
  refine den_intro (fn := Tryz.f32) rfl rfl rfl rfl rfl ?_
  have hmet := rsmetV_den p n lv ex k h hk A hA [] [] (decide ((ex : Int) < p.power)) (rsalways_den p (cgR lv ex k n A)) (rsRaise1_den p (cgR lv ex k n A))
  rw [hx, if_neg (show ¬ false = true by decide)] at hmet
  refine go ?_
  refine r_call hmet ?_
  refine go ?_
  refine fin ?_
  exact cv
theorem rsRaise_ok (p : PD) (n lv ex k : Nat) (h : Cv p n lv ex) (hk : k = 2 ∨ k = 3) (A : Nat → Nat → Nat → Nat) (hA : Vc p lv A) (hx : (ex : Int) < p.power) : Den Tryz.prog 32 [.agg (parL true p), .agg (ciV true lv ex k n A)] (.tup [.agg (ciV false lv (ex + 1) k n (fun i => sclV p lv (fun _ => p.prime) (A i))), .val (.int .i64 0)]) := by
  refine den_intro (fn := Tryz.f32) rfl rfl rfl rfl rfl ?_
  have e1 := h.st.e1
  have hmet := rsmetV_den p n lv ex k h hk A hA [] [] (decide ((ex : Int) < p.power)) (rsalways_den p (cgR lv ex k n A)) (rsRaise1_den p (cgR lv ex k n A))
  rw [decide_eq_true hx, if_pos rfl] at hmet
  obtain ⟨b1, b2, b3⟩ := good_pow h.st.good h.st.e2
  have hx2 := good_ex b1 b2
  have hp2 := h.fit.power2
  have h1 : (ex : Int) < p.power := hx
  refine go ?_
  refine r_call hmet ?_
  refine go ?_
  refine r_call (mapEE1_den k n lv lv lv A (fun i => sclV p lv (fun _ => p.prime) (A i)) (by omega) (parL true p) (fun i _ => rsRaise2_den p n lv ex h (A i) (hA i))) ?_
  refine go ?_
  refine fin ?_
  exact cv
theorem rsExponent_bad (p : PD) (hp : PFit p) (c : CG) (hk : c.k ≤ 1000000) (hl : ∀ i k, (c.P i).ln k ≤ 1000000) (hm : ∀ i, (c.P i).m ≤ 1000000) (x : Int) (h : (ciOk p c && (decide (1 ≤ x) && decide (x ≤ p.power))) = false) : Den Tryz.prog 34 [.agg (parL true p), .agg (ciD true c), .val (.int .i64 x)] (.tup [.agg zeroC, .val (.int .i64 2)]) := by
  refine den_intro (fn := Tryz.f34) rfl rfl rfl rfl rfl ?_
  have hmet := rsmet_den p hp c hk hl hm [.fptr true [.val (.int .i64 x)]] [] (decide (1 ≤ x) && decide (x ≤ p.power)) true (rsExponent1_den p c x) (rsalways_den p c)
  rw [show metI p c (decide (1 ≤ x) && decide (x ≤ p.power)) true = 2 by unfold metI; rw [h]; rfl] at hmet
  refine go ?_
  refine r_call hmet ?_
  refine go ?_
  refine fin ?_
  exact cv
theorem rsExponent_ok (p : PD) (n lv ex k : Nat) (h : Cv p n lv ex) (hk : k = 2 ∨ k = 3) (A : Nat → Nat → Nat → Nat) (hA : Vc p lv A) (x : Nat) (hx : 1 ≤ x ∧ (x : Int) ≤ p.power) : Den Tryz.prog 34 [.agg (parL true p), .agg (ciV true lv ex k n A), .val (.int .i64 (x : Int))] (.tup [.agg (ciV false lv x k n (fun i => sclV p lv (fun _ => 1) (A i))), .val (.int .i64 0)]) := by
  refine den_intro (fn := Tryz.f34) rfl rfl rfl rfl rfl ?_
  have e1 := h.st.e1
  have hv := rsExponent1_den p (cgR lv ex k n A) (x : Int)
  rw [decide_eq_true (show (1 : Int) ≤ (x : Int) by omega), decide_eq_true hx.2] at hv
  have hmet := rsmetV_den p n lv ex k h hk A hA [.fptr true [.val (.int .i64 (x : Int))]] [] true (hv) (rsalways_den p (cgR lv ex k n A))
  rw [if_pos rfl] at hmet
  obtain ⟨b1, b2, b3⟩ := good_pow h.st.good h.st.e2
  have hx2 := good_ex b1 b2
  have hp2 := h.fit.power2
  have h1 := hx.2
  refine go ?_
  refine r_call hmet ?_
  refine go ?_
  refine r_call (mapEE1_den k n lv lv lv A (fun i => sclV p lv (fun _ => 1) (A i)) (by omega) (parL true p) (fun i _ => rsExponent2_den p n lv ex h (A i) (hA i))) ?_
  refine go ?_
  refine fin ?_
  exact cv
end Go.Proofs.YtefoddjclngckaaGreat

namespace Go.Proofs.YtefoddjclngckaaGreat
open Go.RowKit
set_option maxRecDepth 20000
set_option maxHeartbeats 4000000
instance fi18 : FI Tryz.prog 18 Tryz.f18 := ⟨Tryz.func18, Tryz.call18⟩
instance fi65 : FI Tryz.prog 65 Tryz.f65 := ⟨Tryz.func65, Tryz.call65⟩
instance fi70 : FI Tryz.prog 70 Tryz.f70 := ⟨Tryz.func70, Tryz.call70⟩
instance fi72 : FI Tryz.prog 72 Tryz.f72 := ⟨Tryz.func72, Tryz.call72⟩
instance fi78 : FI Tryz.prog 78 Tryz.f78 := ⟨Tryz.func78, Tryz.call78⟩
instance fi21 : FI Tryz.prog 21 Tryz.f21 := ⟨Tryz.func21, Tryz.call21⟩
instance fi81 : FI Tryz.prog 81 Tryz.f81 := ⟨Tryz.func81, Tryz.call81⟩
instance fi83 : FI Tryz.prog 83 Tryz.f83 := ⟨Tryz.func83, Tryz.call83⟩
instance fi75 : FI Tryz.prog 75 Tryz.f75 := ⟨Tryz.func75, Tryz.call75⟩
instance fi160 : FI Tryz.prog 160 Tryz.f160 := ⟨Tryz.func160, Tryz.call160⟩
instance fi67 : FI Tryz.prog 67 Tryz.f67 := ⟨Tryz.func67, Tryz.call67⟩
instance fi124 : FI Tryz.prog 124 Tryz.f124 := ⟨Tryz.func124, Tryz.call124⟩
theorem den_elder3 {P : Program} {f : FuncId} {x y z u : Value} (h : ∀ w : World, Calls P f #[x, y, z] w fun e w' => e = .returned u ∧ Below w.heap.size w w') : Den P f [.val x, .val y, .val z] (.val u) := fun Zc w i args hZ hi hH ha => by
  obtain ⟨hl, hr⟩ := ha
  match args, hl with
  | [a, b, c], _ =>
    have e1 := rep_val (hr 0 (by simp))
    have e2 := rep_val (hr 1 (by simp))
    have e3 := rep_val (hr 2 (by simp))
    change a = x at e1
    change b = y at e2
    change c = z at e3
    subst e1 e2 e3
    refine (h w).mono fun e w' ⟨he, hb⟩ => ?_
    have hi' : ∀ k, i k = none := fun k => hi k (by simp [Hs.keys])
    exact ⟨u, i, fun _ => False, he, Kept.of_below hb _, fun b hb => hb.elim, fun k hk => by simp [Hs.keys] at hk, fun k _ _ => hi' k, fun k B b hm => by simp at hm, fun k B hm => by simp at hm, ⟨fun k B hm => by simp at hm, fun k k' B B' b hm => by simp at hm⟩, .val _ _⟩
theorem pModulus_den (p : PD) (hp : PFit p) (lv : Int) (ex : Nat) (hst : St p lv (ex : Int)) : Den Tryz.prog 67 [.agg (parL true p), .val (.int .i64 (ex : Int))] (.tup [.val (.int .i64 ((p.prime ^ ex : Nat) : Int)), .val (.int .i64 0)]) := by
  refine den_intro (fn := Tryz.f67) rfl rfl rfl rfl rfl ?_
  obtain ⟨n, hn, n4, n32⟩ := good_n hst.good
  have g := hst.good
  have e1 := hst.e1
  have e2 := hst.e2
  have p2 := hp.power2
  have hd : n = 4 ∨ n = 8 ∨ n = 16 ∨ n = 32 := by
    rcases g.1 with q | q | q | q <;> (simp only [PD.par] at q; omega)
  have hpl : PlainOk n p.prime (ex : Int) := by
    obtain ⟨a, b, c, d, e, f⟩ := g.2.2.2.2.2.2.1
    simp only [PD.par] at a b c d e f
    rw [hn, Int.toNat_natCast] at d
    exact ⟨a, b, c, d, e1, by rw [Int.toNat_natCast]; exact Nat.le_trans (Nat.pow_le_pow_right (by omega) (by omega)) f⟩
  have hd3 : Den Tryz.prog 124 [.val (.int .i64 p.n), .val (.int .u32 (p.prime : Int)), .val (.int .i64 (ex : Int))] (.val (.int .i64 ((p.prime ^ ex : Nat) : Int))) := by
    rw [hn]
    refine den_elder3 fun w => ?_
    have := ppower_walk n p.prime (ex : Int) w hd hp.prime (by omega) (by omega)
    rw [plainV_pos hpl, Int.toNat_natCast] at this
    exact this
  refine go ?_
  refine r_call (pcheck_den p hp) ?_
  rw [show errI (goodB p) = 0 by rw [goodB_iff.2 g]; rfl]
  refine go ?_
  rw [decide_eq_false (show ¬ ex < 1 by omega), decide_eq_false (show ¬ p.power < (ex : Int) by omega)]
  refine c_no ?_
  refine go ?_
  refine r_call hd3 ?_
  refine go ?_
  refine fin ?_
  exact cv
theorem rgRestrict1_den (i q n lv lv' : Nat) (g : Nat → Nat → Nat) (hi : i < lv') (hl : lv' ≤ lv) (hlv : lv ≤ 1001) (hn : n ≤ 32) :
    DenH Tryz.prog 160 [.val (.int .i64 (i : Int)), .val (.int .u64 (q : Int)), .sl 0 1 n, .fptr true [.val (.int .i64 (lv' : Int))], .fptr true (elL true lv false lv n g)] [(0, rowB n fun _ => 0)] (.tup []) [(0, rowB n (g i))] [] := by
  refine den_intro (fn := Tryz.f160) rfl rfl rfl rfl rfl ?_
  have hil : i < lv := by omega
  refine go ?_
  refine fin_arr 0 (fun j => [.val (.int .u32 ((g i j : Nat) : Int))]) (fun e he => ?_) (fun _ => rfl) ?_
  · unfold cpF
    rw [show e.blt (min n n) = true from Nat.ble_eq_true_of_le (by omega)]
  refine finH ?_
  exact cv
theorem vg_less {p : PD} {n lv ex lv' : Nat} (h : Cv p n lv ex) (hl : lv' ≤ lv) {g : Nat → Nat → Nat} (hg : Vg p lv g) : Vg p lv' g := fun k j => by
  have hc := h.st.good.2.2.2.2.2.2.2.2.1
  simp only [PD.par] at hc
  have l2 := h.lv.l2
  have := hg k j
  unfold modQ at this ⊢
  by_cases q : k < lv'
  · rw [if_pos q]; rw [if_pos (by omega)] at this; exact this
  · rw [if_neg q]
    by_cases q2 : k < lv
    · rw [if_pos q2] at this
      have := (hc k (by omega)).2
      omega
    · rw [if_neg q2] at this; exact this
theorem Cv.less {p : PD} {n lv ex lv' : Nat} (h : Cv p n lv ex) (h1 : 1 ≤ lv') (hl : lv' ≤ lv) : Cv p n lv' ex := ⟨h.fit, ⟨h.st.good, by omega, by have := h.st.l2; omega, h.st.e1, h.st.e2⟩, h.n⟩
theorem rgRestrict_den (p : PD) (n lv ex lv' : Nat) (h : Cv p n lv ex) (h1 : 1 ≤ lv') (hl : lv' ≤ lv) (g : Nat → Nat → Nat) (hg : Vg p lv g) :
    Den Tryz.prog 75 [.agg (parL true p), .agg (elL true lv false lv n g), .val (.int .i64 (lv' : Int)), .val (.bool false)] (.tup [.agg (elL false lv' false lv' n g), .val (.int .i64 0)]) := by
  refine den_intro (fn := Tryz.f75) rfl rfl rfl rfl rfl ?_
  have h32 := h.lv.n32
  have l2 := h.lv.l2
  have l24 := h.lv.vp.len2
  have hm := modQ_in h.lv.vp h.lv.sp (show lv' ≤ p.chain.length by omega)
  have hck := rgCheck_den p h.lv.vp (lv : Int) false lv (fun _ => n) g (fun _ => by omega) (by omega)
  rw [show elOk p (lv : Int) false lv (fun _ => n) g = true from elOk_valid h.lv hg] at hck
  refine go ?_
  refine r_call hck ?_
  refine go ?_
  rw [decide_eq_false (show ¬ lv' < 1 by omega), decide_eq_false (show ¬ lv < lv' by omega)]
  refine c_no ?_
  refine go ?_
  refine r_call (rgeach2_den p n lv' false h.n h32 h1 (by omega) (by omega) (fun k => by have := hm k; omega) [.val (.int .i64 (lv' : Int))] (elL true lv false lv n g) g (fun k hk => rgRestrict1_den k (modQ p lv' k) n lv lv' g hk hl (by omega) h32)) ?_
  refine go ?_
  refine fin ?_
  exact cv
end Go.Proofs.YtefoddjclngckaaGreat

namespace Go.Proofs.YtefoddjclngckaaGreat
open Go.RowKit
set_option maxRecDepth 20000
set_option maxHeartbeats 4000000
theorem rsDrop1_den (p : PD) (c : CG) (x : Int) : Den Tryz.prog 81 [.agg (parL true p), .agg (ciD true c), .fptr true [.val (.int .i64 x)]] (.val (.bool (decide (1 ≤ x) && decide (x ≤ c.lv)))) := by
  refine den_intro (fn := Tryz.f81) rfl rfl rfl rfl rfl ?_
  refine go ?_
  refine fin ?_
  exact cv
theorem rsDrop2_den (p : PD) (n lv ex lv' : Nat) (h : Cv p n lv ex) (h1 : 1 ≤ lv') (hl : lv' ≤ lv) (g : Nat → Nat → Nat) (hg : Vg p lv g) : Den Tryz.prog 83 [.agg (elL true lv false lv n g), .fptr true (parL true p), .fptr true [.val (.int .i64 (lv' : Int))]] (.agg (elL false lv' false lv' n g)) := by
  refine den_intro (fn := Tryz.f83) rfl rfl rfl rfl rfl ?_
  refine go ?_
  refine r_call (rgRestrict_den p n lv ex lv' h h1 hl g hg) ?_
  refine go ?_
  refine fin ?_
  exact cv
theorem rsDrop_bad (p : PD) (hp : PFit p) (c : CG) (hk : c.k ≤ 1000000) (hl : ∀ i k, (c.P i).ln k ≤ 1000000) (hm : ∀ i, (c.P i).m ≤ 1000000) (x : Int) (h : (ciOk p c && (decide (1 ≤ x) && decide (x ≤ c.lv))) = false) : Den Tryz.prog 21 [.agg (parL true p), .agg (ciD true c), .val (.int .i64 x)] (.tup [.agg zeroC, .val (.int .i64 2)]) := by
  refine den_intro (fn := Tryz.f21) rfl rfl rfl rfl rfl ?_
  have hmet := rsmet_den p hp c hk hl hm [.fptr true [.val (.int .i64 x)]] [] (decide (1 ≤ x) && decide (x ≤ c.lv)) true (rsDrop1_den p c x) (rsalways_den p c)
  rw [show metI p c (decide (1 ≤ x) && decide (x ≤ c.lv)) true = 2 by unfold metI; rw [h]; rfl] at hmet
  refine go ?_
  refine r_call hmet ?_
  refine go ?_
  refine fin ?_
  exact cv
theorem rsDrop_ok (p : PD) (n lv ex k : Nat) (h : Cv p n lv ex) (hk : k = 2 ∨ k = 3) (A : Nat → Nat → Nat → Nat) (hA : Vc p lv A) (x : Nat) (h1 : 1 ≤ x) (hx : x ≤ lv) : Den Tryz.prog 21 [.agg (parL true p), .agg (ciV true lv ex k n A), .val (.int .i64 (x : Int))] (.tup [.agg (ciV false x ex k n A), .val (.int .i64 0)]) := by
  refine den_intro (fn := Tryz.f21) rfl rfl rfl rfl rfl ?_
  have hv := rsDrop1_den p (cgR lv ex k n A) (x : Int)
  rw [decide_eq_true (show (1 : Int) ≤ (x : Int) by omega), show decide ((x : Int) ≤ (cgR lv ex k n A).lv) = true from decide_eq_true (show (x : Int) ≤ (lv : Int) by omega)] at hv
  have hmet := rsmetV_den p n lv ex k h hk A hA [.fptr true [.val (.int .i64 (x : Int))]] [] true (hv) (rsalways_den p (cgR lv ex k n A))
  rw [if_pos rfl] at hmet
  refine go ?_
  refine r_call hmet ?_
  refine go ?_
  refine r_call (mapEE2_den k n lv lv x A A (by omega) (parL true p) [.val (.int .i64 (x : Int))] (fun i _ => rsDrop2_den p n lv ex x h h1 hx (A i) (hA i))) ?_
  refine go ?_
  refine fin ?_
  exact cv
theorem balI_in {a n : Nat} (hn : n ≤ 2147483647) (ha : a < n) : -1073741824 ≤ balI a n ∧ balI a n ≤ 1073741824 := by
  unfold balI
  split <;> omega
theorem bal_mul {b : Int} {t : Nat} (hb : -1073741824 ≤ b ∧ b ≤ 1073741824) (ht : t ≤ 2147483647) : -4611686018427387904 ≤ b * (t : Int) ∧ b * (t : Int) ≤ 4611686018427387904 := by
  have h1 : b * (t : Int) ≤ 1073741824 * (t : Int) := Int.mul_le_mul_of_nonneg_right hb.2 (by omega)
  have h2 : (-1073741824) * (t : Int) ≤ b * (t : Int) := Int.mul_le_mul_of_nonneg_right hb.1 (by omega)
  omega
/-- The number next to a last residue's quotient, as Down takes it. -/
def nearI (b q t a : Nat) : Int := balI (a * b % q) q * (t : Int)
theorem nearI_in {b q t a : Nat} (h2 : 0 < q) (hq : q ≤ 2147483647) (ht : t ≤ 2147483647) : -4611686018427387904 ≤ nearI b q t a ∧ nearI b q t a ≤ 4611686018427387904 := bal_mul (balI_in hq (Nat.mod_lt _ h2)) ht
theorem rsDown1_den (p : PD) (c : CG) : Den Tryz.prog 65 [.agg (parL true p), .agg (ciD true c)] (.val (.bool (decide (1 < c.lv)))) := by
  refine den_intro (fn := Tryz.f65) rfl rfl rfl rfl rfl ?_
  refine go ?_
  refine fin ?_
  exact cv
theorem rsDown21_den (a b q t : Nat) (h2 : 2 ≤ q) (hq : q ≤ 2147483647) (ha : a < q) (hb : b < q) (ht : t ≤ 2147483647) : Den Tryz.prog 72 [.val (.int .u32 (a : Int)), .fptr true [.val (.int .u32 (b : Int))], .fptr true [.val (.int .u32 (q : Int))], .fptr true [.val (.int .i64 (t : Int))]] (.val (.int .i64 (nearI b q t a))) := by
  refine den_intro (fn := Tryz.f72) rfl rfl rfl rfl rfl ?_
  have hn := nearI_in (a := a) (b := b) (show 0 < q by omega) hq ht
  unfold nearI at hn
  refine go ?_
  refine r_call (mMul_den a b q h2 hq ha hb) ?_
  refine go ?_
  refine r_call (mBalanced_den (a * b % q) q h2 hq (Nat.mod_lt _ (by omega))) ?_
  refine go ?_
  refine fin ?_
  exact cv
theorem rsDown22_den (l q : Nat) (h2 : 2 ≤ q) (hq : q ≤ 2147483647) (hl : l ≤ 2147483647) : Den Tryz.prog 78 [.val (.int .u32 (q : Int)), .fptr true [.val (.int .u32 (l : Int))]] (.val (.int .u32 ((invV (resI (l : Int) q) q : Nat) : Int))) := by
  refine den_intro (fn := Tryz.f78) rfl rfl rfl rfl rfl ?_
  refine go ?_
  refine r_call (rsinverse_den (l : Int) q h2 hq (by omega)) ?_
  refine go ?_
  refine fin ?_
  exact cv
/-- Down's rows: of level lv + 1, with the last prime q and the inverse b of t modulo it. -/
def lowB (p : PD) (lv q k : Nat) : Nat := invV (resI (q : Int) (modQ p lv k)) (modQ p lv k)
def downV (p : PD) (lv b q t : Nat) (g : Nat → Nat → Nat) : Nat → Nat → Nat := sclV p lv (lowB p lv q) (subV p lv g (intV p lv (fun j => nearI b q t (g lv j))))
theorem rsDown2_den (p : PD) (n lv ex b q t : Nat) (h : Cv p n (lv + 1) ex) (h1 : 1 ≤ lv) (hq : q = modQ p (lv + 1) lv) (hb : b < q) (ht : t ≤ 2147483647) (g : Nat → Nat → Nat) (hg : Vg p (lv + 1) g) :
    Den Tryz.prog 70 [.agg (elL true (lv + 1) false (lv + 1) n g), .fptr true (parL true p), .fptr true [.val (.int .i64 (lv : Int))], .fptr true [.val (.int .u32 (b : Int))], .fptr true [.val (.int .u32 (q : Int))], .fptr true [.val (.int .i64 (t : Int))]] (.agg (elL false lv false lv n (downV p lv b q t g))) := by
  refine den_intro (fn := Tryz.f70) rfl rfl rfl rfl rfl ?_
  have h32 := h.lv.n32
  have l2 := h.lv.l2
  have l24 := h.lv.vp.len2
  have hC := h.less (lv' := lv) h1 (by omega)
  have hL := hC.lv
  have hm := modQ_in h.lv.vp h.lv.sp h.lv.l2
  have hm' := modQ_in hL.vp hL.sp hL.l2
  have hq2 := hm lv
  rw [← hq] at hq2
  have hgl := hg lv
  rw [← hq] at hgl
  have hvg := vg_less h (show lv ≤ lv + 1 by omega) hg
  have hx : ∀ j, -9223372036854775808 ≤ nearI b q t (g lv j) ∧ nearI b q t (g lv j) ≤ 9223372036854775807 := fun j => by
    have := nearI_in (a := g lv j) (b := b) (show 0 < q by omega) hq2.2.1 ht
    omega
  have hfi : Den Tryz.prog 51 [.agg (parL true p), .val (.int .i64 (lv : Int)), .val (.bool false), intsD true n (fun j => nearI b q t (g lv j))] (.tup [.agg (elL false lv false lv n (intV p lv (fun j => nearI b q t (g lv j)))), .val (.int .i64 0)]) := rgFromInts_den p n lv false hL (fun j => nearI b q t (g lv j)) hx
  have hsu : Den Tryz.prog 76 [.agg (parL true p), .agg (elL true lv false lv n g), .agg (elL true lv false lv n (intV p lv (fun j => nearI b q t (g lv j))))] (.tup [.agg (elL false lv false lv n (subV p lv g (intV p lv (fun j => nearI b q t (g lv j))))), .val (.int .i64 0)]) := rgSub_den p n lv false hL g _ hvg (vg_int hL _)
  refine go ?_
  refine r_call (mapwl_den n (g lv) (fun j => nearI b q t (g lv j)) (by omega) [.val (.int .u32 (b : Int))] [.val (.int .u32 (q : Int))] [.val (.int .i64 (t : Int))] (fun j _ => rsDown21_den (g lv j) b q t (by omega) hq2.2.1 (hgl j) hb ht)) ?_
  refine go ?_
  refine r_call hfi ?_
  refine go ?_
  refine r_call (rgRestrict_den p n (lv + 1) ex lv h h1 (by omega) g hg) ?_
  refine go ?_
  refine r_call hsu ?_
  refine go ?_
  refine r_call (rsscaledF_den p n lv hL (subV p lv g (intV p lv (fun j => nearI b q t (g lv j)))) (vg_sub hL _ _) (lowB p lv q) [.val (.int .u32 (q : Int))] (fun k hk => rsDown22_den q _ (by have := hm' k; omega) (by have := hm' k; omega) hq2.2.1) (fun k hk => invV_lt (by have := hm' k; omega))) ?_
  refine go ?_
  refine fin ?_
  exact cv
theorem rsDown_bad (p : PD) (hp : PFit p) (c : CG) (hk : c.k ≤ 1000000) (hl : ∀ i k, (c.P i).ln k ≤ 1000000) (hm : ∀ i, (c.P i).m ≤ 1000000) (h : (ciOk p c && decide (c.k = 2)) = false) : Den Tryz.prog 18 [.agg (parL true p), .agg (ciD true c)] (.tup [.agg zeroC, .val (.int .i64 2)]) := by
  refine den_intro (fn := Tryz.f18) rfl rfl rfl rfl rfl ?_
  have hmet := rsmet_den p hp c hk hl hm [] [] (decide (c.k = 2)) (decide (1 < c.lv)) (rstwo_den p c) (rsDown1_den p c)
  rw [show metI p c (decide (c.k = 2)) (decide (1 < c.lv)) = 2 by unfold metI; rw [h]; rfl] at hmet
  refine go ?_
  refine r_call hmet ?_
  refine go ?_
  refine fin ?_
  exact cv
theorem rsDown_no (p : PD) (n ex : Nat) (h : Cv p n 1 ex) (A : Nat → Nat → Nat → Nat) (hA : Vc p 1 A) : Den Tryz.prog 18 [.agg (parL true p), .agg (ciV true 1 ex 2 n A)] (.tup [.agg zeroC, .val (.int .i64 9)]) := by
  refine den_intro (fn := Tryz.f18) rfl rfl rfl rfl rfl ?_
  have hmet := rsmetV_den p n 1 ex 2 h (.inl rfl) A hA [] [] false (rstwo_den p (cgR 1 ex 2 n A)) (rsDown1_den p (cgR 1 ex 2 n A))
  rw [if_neg (show ¬ false = true by decide)] at hmet
  refine go ?_
  refine r_call hmet ?_
  refine go ?_
  refine fin ?_
  exact cv
/-- What Down makes of a part. -/
def dnV (p : PD) (lv ex : Nat) (g : Nat → Nat → Nat) : Nat → Nat → Nat := downV p lv (invV (resI ((p.prime ^ ex : Nat) : Int) (modQ p (lv + 1) lv)) (modQ p (lv + 1) lv)) (modQ p (lv + 1) lv) (p.prime ^ ex) g
theorem rsDown_ok (p : PD) (n lv ex : Nat) (h : Cv p n (lv + 1) ex) (h1 : 1 ≤ lv) (A : Nat → Nat → Nat → Nat) (hA : Vc p (lv + 1) A) : Den Tryz.prog 18 [.agg (parL true p), .agg (ciV true (lv + 1) ex 2 n A)] (.tup [.agg (ciV false lv ex 2 n (fun i => dnV p lv ex (A i))), .val (.int .i64 0)]) := by
  refine den_intro (fn := Tryz.f18) rfl rfl rfl rfl rfl ?_
  have hpo := rsDown1_den p (cgR (lv + 1) ex 2 n A)
  rw [show decide (1 < (cgR (lv + 1) ex 2 n A).lv) = true from decide_eq_true (show (1 : Int) < ((lv + 1 : Nat) : Int) by omega)] at hpo
  have hmet := rsmetV_den p n (lv + 1) ex 2 h (.inl rfl) A hA [] [] true (rstwo_den p (cgR (lv + 1) ex 2 n A)) hpo
  rw [if_pos rfl] at hmet
  have l2 := h.lv.l2
  have l24 := h.lv.vp.len2
  obtain ⟨b1, b2, b3⟩ := good_pow h.st.good h.st.e2
  have ht := b1 ex (Nat.le_refl _)
  have hm := modQ_in h.lv.vp h.lv.sp h.lv.l2 lv
  have hlt := invV_lt (a := resI ((p.prime ^ ex : Nat) : Int) (modQ p (lv + 1) lv)) (show 0 < modQ p (lv + 1) lv by omega)
  have e : modQ p (lv + 1) lv = p.chain.getD lv 0 := by unfold modQ; rw [if_pos (by omega)]
  have hinv := rsinverse_den ((p.prime ^ ex : Nat) : Int) (modQ p (lv + 1) lv) (by omega) (by omega) (by omega)
  have hmap := mapEE5_den 2 n (lv + 1) (lv + 1) lv A (fun i => dnV p lv ex (A i)) (by omega) (parL true p) [.val (.int .i64 (lv : Int))] [.val (.int .u32 ((invV (resI ((p.prime ^ ex : Nat) : Int) (modQ p (lv + 1) lv)) (modQ p (lv + 1) lv) : Nat) : Int))] [.val (.int .u32 ((modQ p (lv + 1) lv : Nat) : Int))] [.val (.int .i64 ((p.prime ^ ex : Nat) : Int))] (fun i _ => rsDown2_den p n lv ex _ _ _ h h1 rfl hlt ht (A i) (hA i))
  generalize invV (resI ((p.prime ^ ex : Nat) : Int) (modQ p (lv + 1) lv)) (modQ p (lv + 1) lv) = b at hmap hinv hlt
  rw [e] at hmap hinv
  refine go ?_
  refine r_call hmet ?_
  refine go ?_
  refine r_call (pModulus_den p h.fit _ ex h.st) ?_
  refine go ?_
  refine r_call hinv ?_
  refine go ?_
  refine r_call hmap ?_
  refine go ?_
  refine fin ?_
  exact cv
end Go.Proofs.YtefoddjclngckaaGreat
