/- Rescaling, by data: the parts that all its functions share.
Arithmetic with ciphertexts, by data: sums and products with plain polynomials, tensors.
Arithmetic with ciphertexts, by data: tensors.
Arithmetic with ciphertexts, by data: sums and differences.
Arithmetic with ciphertexts, by data: combine, Add, Sub.
Laws of the rings: plain. No walk.
The examples' ciphertexts; whether some results are as the document says: by data. -/
import Derived.Test.YtefoddjclngckaaGreatPrd27
import Derived.Test.YtefoddjclngckaaGreatPrd43
set_option linter.unusedSimpArgs false
set_option linter.unusedVariables false
set_option linter.unnecessarySimpa false
namespace Go.Proofs.YtefoddjclngckaaGreat
open Go.RowKit
set_option maxRecDepth 20000
set_option maxHeartbeats 4000000
instance fi82 : FI Tryz.prog 82 Tryz.f82 := ⟨Tryz.func82, Tryz.call82⟩
instance fi64 : FI Tryz.prog 64 Tryz.f64 := ⟨Tryz.func64, Tryz.call64⟩
instance fi66 : FI Tryz.prog 66 Tryz.f66 := ⟨Tryz.func66, Tryz.call66⟩
instance fi68 : FI Tryz.prog 68 Tryz.f68 := ⟨Tryz.func68, Tryz.call68⟩
instance fi163 : FI Tryz.prog 163 Tryz.f163 := ⟨Tryz.func163, Tryz.call163⟩
instance fi71 : FI Tryz.prog 71 Tryz.f71 := ⟨Tryz.func71, Tryz.call71⟩
instance fi69 : FI Tryz.prog 69 Tryz.f69 := ⟨Tryz.func69, Tryz.call69⟩
instance fi77 : FI Tryz.prog 77 Tryz.f77 := ⟨Tryz.func77, Tryz.call77⟩
instance fi164 : FI Tryz.prog 164 Tryz.f164 := ⟨Tryz.func164, Tryz.call164⟩
instance ti79 : TI Tryz.prog 79 Tryz.t79 Tryz.t79.desc := ⟨by kernel_rfl, by kernel_rfl⟩
instance ti81 : TI Tryz.prog 81 Tryz.t81 Tryz.t80.desc := ⟨by kernel_rfl, by kernel_rfl⟩
instance sz79 : SZ Tryz.prog 79 1 := SZ.of ti79 rfl
instance zr79 : ZR Tryz.prog 79 [.nilFunc] := ZR.of ti79 rfl rfl rfl
instance sz81 : SZ Tryz.prog 81 2 := SZ.of ti81 rfl
instance zr81 : ZR Tryz.prog 81 [.nilFunc, .nilFunc] := ZR.of ti81 rfl rfl rfl
instance bt81 : BT Tryz.prog 81 [(0, 1), (1, 1)] [.nilFunc, .nilFunc] := BT.of (ns := [1, 1]) ti81 rfl zr81.zr ⟨sz79.sz, ⟨sz79.sz, trivial⟩⟩ (by intro j; repeat (first | rfl | cases j with | zero => rfl | succ j => ?_))
instance ft81_0 : FT Tryz.prog 81 0 0 := FT.of ti81 rfl ti79 rfl rfl
instance fv81_0 : FV Tryz.prog 81 0 0 1 false := FV.one ti81 rfl ti79 rfl rfl
instance ft81_1 : FT Tryz.prog 81 1 1 := FT.of ti81 rfl ti79 rfl rfl
instance fv81_1 : FV Tryz.prog 81 1 1 1 false := FV.one ti81 rfl ti79 rfl rfl
/-- A function is a closure that captured nothing. -/
instance (f : FuncId) : Cvt (.val (.func (.func f) #[] #[])) (.clo f []) := ⟨fun _ hv => by
  cases hv
  exact .clo _ f [] [] rfl (fun j hj => by simp at hj)⟩
theorem CvV.old {lend : Bool} {L ns : List Nat} {H : Nat → Option Box} {d : D} (h : d.free (fun _ => false) = true) : CvV lend L ns H d d := .id h
theorem ArgVL.old {lend : Bool} {L ns ks : List Nat} {ρ : Nat → Nat} {H : Nat → Option Box} : ∀ (l : List D), D.free.freeL (fun _ => false) l = true → ArgVL lend L ns ks ρ H l l
  | [], _ => .nil
  | d :: l, h => by
    simp only [D.free.freeL, Bool.and_eq_true] at h
    exact .cons (.cv (.id h.1)) (ArgVL.old l h.2)
theorem not_t {x : Bool} (h : (!x) = true) : x = false := by cases x <;> simp_all
theorem not_f {x : Bool} (h : (!x) = false) : x = true := by cases x <;> simp_all
theorem rsalways_den (p : PD) (c : CG) : Den Tryz.prog 82 [.agg (parL true p), .agg (ciD true c)] (.val (.bool true)) := by
  refine den_intro (fn := Tryz.f82) rfl rfl rfl rfl rfl ?_
  refine go ?_
  refine fin ?_
  exact cv
theorem rstwo_den (p : PD) (c : CG) : Den Tryz.prog 64 [.agg (parL true p), .agg (ciD true c)] (.val (.bool (decide (c.k = 2)))) := by
  refine den_intro (fn := Tryz.f64) rfl rfl rfl rfl rfl ?_
  refine go ?_
  refine fin ?_
  exact cv
theorem rsinverse_den (x : Int) (q : Nat) (h2 : 2 ≤ q) (hq : q ≤ 2147483647) (hx : -9223372036854775808 ≤ x ∧ x ≤ 9223372036854775807) : Den Tryz.prog 68 [.val (.int .i64 x), .val (.int .u32 (q : Int))] (.val (.int .u32 ((invV (resI x q) q : Nat) : Int))) := by
  refine den_intro (fn := Tryz.f68) rfl rfl rfl rfl rfl ?_
  have h1 := resI_lt (x := x) (show 0 < q by omega)
  refine go ?_
  refine r_call (mOf_den x q h2 hq hx) ?_
  refine go ?_
  refine r_call (mInverse_den (resI x q) q h2 hq h1) ?_
  refine go ?_
  refine fin ?_
  exact cv
/-- What is asked of a ciphertext. -/
noncomputable def metI (p : PD) (c : CG) (vb pb : Bool) : Int := if (ciOk p c && vb) = true then (if pb = true then 0 else 9) else 2
theorem rsmet_den (p : PD) (hp : PFit p) (c : CG) (hk : c.k ≤ 1000000) (hl : ∀ i k, (c.P i).ln k ≤ 1000000) (hm : ∀ i, (c.P i).m ≤ 1000000) {fv fp : FuncId} {fnv fnp : Func} [FI Tryz.prog fv fnv] [FI Tryz.prog fp fnp] (cv' cp' : List D) [OldDL cv'] [OldDL cp'] (vb pb : Bool) (hv : Den Tryz.prog fv (.agg (parL true p) :: .agg (ciD true c) :: cv') (.val (.bool vb))) (hpo : Den Tryz.prog fp (.agg (parL true p) :: .agg (ciD true c) :: cp') (.val (.bool pb)))
    (f1 : D.free.freeL (fun _ => false) cv' = true := by rfl) (f2 : D.free.freeL (fun _ => false) cp' = true := by rfl) :
    Den Tryz.prog 66 [.agg [.clo fv cv', .clo fp cp'], .agg (parL true p), .agg (ciD true c)] (.val (.int .i64 (metI p c vb pb))) := by
  refine den_intro (fn := Tryz.f66) rfl rfl rfl rfl rfl ?_
  refine go ?_
  refine r_call (ciCheck_den p hp c hk hl hm) ?_
  refine go ?_
  refine c_ifB (fun h1 => ?_) (fun h1 => ?_)
  · have h1' : ciOk p c = false := by cases q : ciOk p c <;> simp_all [errI]
    rw [h1]
    refine go ?_
    refine fin ?_
    unfold metI
    rw [h1']
    exact cv
  · have h1' : ciOk p c = true := by cases q : ciOk p c <;> simp_all [errI]
    refine go ?_
    refine r_call (hv := ?hv) hv ?_
    case hv => exact .cons (.cv (.id rfl)) (.cons (.cv (.id rfl)) (.old _ f1))
    refine go ?_
    refine c_ifB (fun h1 => ?_) (fun h1 => ?_)
    · refine go ?_
      refine fin ?_
      unfold metI
      rw [not_t h1, Bool.and_false]
      exact cv
    · refine go ?_
      refine r_call (hv := ?hv) hpo ?_
      case hv => exact .cons (.cv (.id rfl)) (.cons (.cv (.id rfl)) (.old _ f2))
      refine go ?_
      unfold metI
      rw [if_pos (show (ciOk p c && vb) = true by rw [h1', not_f h1]; rfl)]
      refine c_ifB (fun h2 => ?_) (fun h2 => ?_)
      · refine go ?_
        refine fin ?_
        rw [not_t h2]
        exact cv
      · refine go ?_
        refine fin ?_
        rw [not_f h2]
        exact cv
theorem mapww_den (n : Nat) (g b : Nat → Nat) (hn : n ≤ 1000000) {fl : FuncId} {fn : Func} [FI Tryz.prog fl fn] (l1 l2 : List D) [OldDL l1] [OldDL l2] (h : ∀ j, j < n → Den Tryz.prog fl (.val (.int .u32 ((g j : Nat) : Int)) :: [.fptr true l1, .fptr true l2]) (.val (.int .u32 ((b j : Nat) : Int)))) :
    Den Tryz.prog 163 [u32sF true n g, .clo fl [.fptr true l1, .fptr true l2]] (u32sF false n b) := by
  refine den_intro (fn := Tryz.f163) rfl rfl rfl rfl rfl ?_
  refine go ?_
  refine row_zero (1000 + 10) b ?_
  refine c_up n (fun j => [(13, .val (.int .i64 (j : Nat)))]) (fun j => [(1010, rowB n (fillTo b j))]) (fun j hj => ?_)
  refine go ?_
  refine c_if (fun h3 => ?_) (fun h3 => ?_)
  · refine go ?_
    refine r_callO (h j h3) ?_
    refine go ?_
    refine ⟨h3, ?_⟩
    refine row_next 1010 rfl ?_
    exact sub
  · obtain rfl : j = n := by omega
    refine go ?_
    refine row_end 1010 _ ?_
    refine fin_freeze 1010 ?_
    refine fin ?_
    exact cv
def fillZ (b : Nat → Int) (j e : Nat) : Int := if e < j then b e else 0
theorem setE_fillZ {h : Nat → Int} {j : Nat} {v : Int} (hv : v = h j) (e : Nat) : setE (fun e => [.val (.int .i64 (fillZ h j e))]) j 0 [.val (.int .i64 v)] e = [.val (.int .i64 (fillZ h (j + 1) e))] := by
  subst hv
  unfold setE
  by_cases q : e = j
  · subst q; simp [fillZ, setL, takeL, dropL]
  · have : fillZ h (j + 1) e = fillZ h j e := by unfold fillZ; by_cases q2 : e < j <;> simp [q2] <;> omega
    simp [q, this]
theorem mapwl_den (n : Nat) (g : Nat → Nat) (b : Nat → Int) (hn : n ≤ 1000000) {fl : FuncId} {fn : Func} [FI Tryz.prog fl fn] (l1 l2 l3 : List D) [OldDL l1] [OldDL l2] [OldDL l3] (h : ∀ j, j < n → Den Tryz.prog fl (.val (.int .u32 ((g j : Nat) : Int)) :: [.fptr true l1, .fptr true l2, .fptr true l3]) (.val (.int .i64 (b j)))) :
    Den Tryz.prog 71 [u32sF true n g, .clo fl [.fptr true l1, .fptr true l2, .fptr true l3]] (intsD false n b) := by
  refine den_intro (fn := Tryz.f71) rfl rfl rfl rfl rfl ?_
  refine go ?_
  refine c_arr (1000 + 10) (fun e => [.val (.int .i64 (fillZ b 0 e))]) (fun e _ => by rw [show fillZ b 0 e = 0 by simp [fillZ]]) (fun _ => rfl) ?_
  refine c_up n (fun j => [(13, .val (.int .i64 (j : Nat)))]) (fun j => [(1010, some (.arr 2 n 1 (fun e => [.val (.int .i64 (fillZ b j e))])))]) (fun j hj => ?_)
  refine go ?_
  refine c_if (fun h3 => ?_) (fun h3 => ?_)
  · refine go ?_
    refine r_callO (h j h3) ?_
    refine go ?_
    refine ⟨h3, ?_⟩
    refine sub_arr 1010 _ (fun e _ => setE_fillZ rfl e) (fun _ => rfl) ?_
    exact sub
  · obtain rfl : j = n := by omega
    refine go ?_
    refine fin_arr 1010 (n := j) (f := fun e => [.val (.int .i64 (fillZ b j e))]) (fun e => [.val (.int .i64 (b e))]) (fun e he => by rw [show fillZ b j e = b e from if_pos he]) (fun _ => rfl) ?_
    refine fin_freeze 1010 ?_
    refine fin ?_
    exact cv
theorem mapEE1_den (k n lv m lv' : Nat) (A G : Nat → Nat → Nat → Nat) (hk : k ≤ 1000000) {fl : FuncId} {fn : Func} [FI Tryz.prog fl fn] (l1 : List D) [OldDL l1] (h : ∀ i, i < k → Den Tryz.prog fl (.agg (elL true lv false m n (A i)) :: [.fptr true l1]) (.agg (elL false lv' false lv' n (G i)))) :
    Den Tryz.prog 69 [.fz true k 3 (fun i => elL true lv false m n (A i)), .clo fl [.fptr true l1]] (.fz false k 3 (fun i => elL false lv' false lv' n (G i))) := by
  refine den_intro (fn := Tryz.f69) rfl rfl rfl rfl rfl ?_
  refine go ?_
  refine c_arr (1000 + 10) (fillP (fun i => elL false lv' false lv' n (G i)) 0) (fun e he => ?_) (fillP_len (fun _ => rfl) 0) ?_
  · exact (if_neg (Nat.not_lt_zero e)).symm
  refine c_up k (fun j => [(13, .val (.int .i64 (j : Nat)))]) (fun j => [(1010, some (.arr 31 k Tryz.t31.size (fillP (fun i => elL false lv' false lv' n (G i)) j)))]) (fun j hj => ?_)
  refine go ?_
  refine c_if (fun h3 => ?_) (fun h3 => ?_)
  · refine go ?_
    refine r_callO (h j h3) ?_
    refine go ?_
    refine ⟨h3, ?_⟩
    refine sub_arr 1010 (fillP (fun i => elL false lv' false lv' n (G i)) (j + 1)) (fun e _ => setE_fillP rfl e) (fillP_len (fun _ => rfl) (j + 1)) ?_
    exact sub
  · obtain rfl : j = k := by omega
    refine go ?_
    refine fin_arr 1010 (fun i => elL false lv' false lv' n (G i)) (fun e he => fillP_all he) (fun _ => rfl) ?_
    refine fin_freeze 1010 ?_
    refine fin ?_
    exact cv
theorem mapEE2_den (k n lv m lv' : Nat) (A G : Nat → Nat → Nat → Nat) (hk : k ≤ 1000000) {fl : FuncId} {fn : Func} [FI Tryz.prog fl fn] (l1 l2 : List D) [OldDL l1] [OldDL l2] (h : ∀ i, i < k → Den Tryz.prog fl (.agg (elL true lv false m n (A i)) :: [.fptr true l1, .fptr true l2]) (.agg (elL false lv' false lv' n (G i)))) :
    Den Tryz.prog 69 [.fz true k 3 (fun i => elL true lv false m n (A i)), .clo fl [.fptr true l1, .fptr true l2]] (.fz false k 3 (fun i => elL false lv' false lv' n (G i))) := by
  refine den_intro (fn := Tryz.f69) rfl rfl rfl rfl rfl ?_
  refine go ?_
  refine c_arr (1000 + 10) (fillP (fun i => elL false lv' false lv' n (G i)) 0) (fun e he => ?_) (fillP_len (fun _ => rfl) 0) ?_
  · exact (if_neg (Nat.not_lt_zero e)).symm
  refine c_up k (fun j => [(13, .val (.int .i64 (j : Nat)))]) (fun j => [(1010, some (.arr 31 k Tryz.t31.size (fillP (fun i => elL false lv' false lv' n (G i)) j)))]) (fun j hj => ?_)
  refine go ?_
  refine c_if (fun h3 => ?_) (fun h3 => ?_)
  · refine go ?_
    refine r_callO (h j h3) ?_
    refine go ?_
    refine ⟨h3, ?_⟩
    refine sub_arr 1010 (fillP (fun i => elL false lv' false lv' n (G i)) (j + 1)) (fun e _ => setE_fillP rfl e) (fillP_len (fun _ => rfl) (j + 1)) ?_
    exact sub
  · obtain rfl : j = k := by omega
    refine go ?_
    refine fin_arr 1010 (fun i => elL false lv' false lv' n (G i)) (fun e he => fillP_all he) (fun _ => rfl) ?_
    refine fin_freeze 1010 ?_
    refine fin ?_
    exact cv
theorem mapEE5_den (k n lv m lv' : Nat) (A G : Nat → Nat → Nat → Nat) (hk : k ≤ 1000000) {fl : FuncId} {fn : Func} [FI Tryz.prog fl fn] (l1 l2 l3 l4 l5 : List D) [OldDL l1] [OldDL l2] [OldDL l3] [OldDL l4] [OldDL l5] (h : ∀ i, i < k → Den Tryz.prog fl (.agg (elL true lv false m n (A i)) :: [.fptr true l1, .fptr true l2, .fptr true l3, .fptr true l4, .fptr true l5]) (.agg (elL false lv' false lv' n (G i)))) :
    Den Tryz.prog 69 [.fz true k 3 (fun i => elL true lv false m n (A i)), .clo fl [.fptr true l1, .fptr true l2, .fptr true l3, .fptr true l4, .fptr true l5]] (.fz false k 3 (fun i => elL false lv' false lv' n (G i))) := by
  refine den_intro (fn := Tryz.f69) rfl rfl rfl rfl rfl ?_
  refine go ?_
  refine c_arr (1000 + 10) (fillP (fun i => elL false lv' false lv' n (G i)) 0) (fun e he => ?_) (fillP_len (fun _ => rfl) 0) ?_
  · exact (if_neg (Nat.not_lt_zero e)).symm
  refine c_up k (fun j => [(13, .val (.int .i64 (j : Nat)))]) (fun j => [(1010, some (.arr 31 k Tryz.t31.size (fillP (fun i => elL false lv' false lv' n (G i)) j)))]) (fun j hj => ?_)
  refine go ?_
  refine c_if (fun h3 => ?_) (fun h3 => ?_)
  · refine go ?_
    refine r_callO (h j h3) ?_
    refine go ?_
    refine ⟨h3, ?_⟩
    refine sub_arr 1010 (fillP (fun i => elL false lv' false lv' n (G i)) (j + 1)) (fun e _ => setE_fillP rfl e) (fillP_len (fun _ => rfl) (j + 1)) ?_
    exact sub
  · obtain rfl : j = k := by omega
    refine go ?_
    refine fin_arr 1010 (fun i => elL false lv' false lv' n (G i)) (fun e he => fillP_all he) (fun _ => rfl) ?_
    refine fin_freeze 1010 ?_
    refine fin ?_
    exact cv
end Go.Proofs.YtefoddjclngckaaGreat

namespace Go.Proofs.YtefoddjclngckaaGreat
open Go.RowKit
set_option maxRecDepth 20000
set_option maxHeartbeats 4000000
def addPlainV (p : PD) (lv : Nat) (x : Nat → Int) (A : Nat → Nat → Nat → Nat) (i : Nat) : Nat → Nat → Nat := if i = 0 then addV p lv (A 0) (intV p lv x) else mulIntV p lv 1 (A i)
def tensV (p : PD) (lv n : Nat) (A B : Nat → Nat → Nat → Nat) (i : Nat) : Nat → Nat → Nat := if i = 1 then addV p lv (mulV p lv n (A 0) (B 1)) (mulV p lv n (A 1) (B 0)) else mulV p lv n (A (i / 2)) (B (i / 2))
theorem arAddPlain1_den (p : PD) (n lv ex k : Nat) (h : Cv p n lv ex) (hk : k ≤ 3) (A : Nat → Nat → Nat → Nat) (hA : Vc p lv A) (x : Nat → Int) (i : Nat) (hi : i < k) : Den Tryz.prog 112 [.val (.int .i64 (i : Int)), .fptr true (parL true p), .fptr true (ciV true lv ex k n A), .fptr true (elL true lv false lv n (intV p lv x))] (.tup [.agg (elL false lv false lv n (addPlainV p lv x A i)), .val (.int .i64 0)]) := by
  refine den_intro (fn := Tryz.f112) rfl rfl rfl rfl rfl ?_
  refine go ?_
  refine c_if (fun h1 => ?_) (fun h1 => ?_)
  · refine go ?_
    refine r_callO (rgMulInt_den p n lv false h.lv 1 (by omega) (A i) (hA i)) ?_
    refine go ?_
    refine fin ?_
    unfold addPlainV
    rw [if_neg (by omega)]
    exact cv
  · obtain rfl : i = 0 := by omega
    refine go ?_
    refine r_callO (rgAdd_den p n lv false h.lv (A 0) (intV p lv x) (hA 0) (vg_int h.lv x)) ?_
    refine go ?_
    refine fin ?_
    exact cv
theorem arMulPlain1_den (p : PD) (n lv ex k : Nat) (h : Cv p n lv ex) (hk : k ≤ 3) (A : Nat → Nat → Nat → Nat) (hA : Vc p lv A) (x : Nat → Int) (i : Nat) (hi : i < k) : Den Tryz.prog 114 [.val (.int .i64 (i : Int)), .fptr true (parL true p), .fptr true (ciV true lv ex k n A), .fptr true (elL true lv false lv n (intV p lv x))] (.tup [.agg (elL false lv false lv n (mulV p lv n (A i) (intV p lv x))), .val (.int .i64 0)]) := by
  refine den_intro (fn := Tryz.f114) rfl rfl rfl rfl rfl ?_
  refine go ?_
  refine r_callO (rgMul_den p n lv false h.lv (A i) (intV p lv x) (hA i) (vg_int h.lv x)) ?_
  refine go ?_
  refine fin ?_
  exact cv
theorem arAddPlain_den (p : PD) (n lv ex k : Nat) (h : Cv p n lv ex) (hk : k = 2 ∨ k = 3) (A : Nat → Nat → Nat → Nat) (hA : Vc p lv A) (x : Nat → Int) (hx : ∀ j, -9223372036854775808 ≤ x j ∧ x j ≤ 9223372036854775807) (hpl : polyB p (p.prime ^ ex) n x = true) : Den Tryz.prog 42 [.agg (parL true p), .agg (ciV true lv ex k n A), intsD true n x] (.tup [.agg (ciV false lv ex k n (addPlainV p lv x A)), .val (.int .i64 0)]) := by
  refine den_intro (fn := Tryz.f42) rfl rfl rfl rfl rfl ?_
  have l2 := h.lv.l2
  have l24 := h.lv.vp.len2
  obtain ⟨b1, b2, b3⟩ := good_pow h.st.good h.st.e2
  have hx2 := good_ex b1 b2
  refine go ?_
  refine r_call (arText_den p n lv ex k h hk A hA x hx hpl) ?_
  refine go ?_
  refine c_no ?_
  refine go ?_
  refine r_call (arMade3_den lv ex k n k (by omega) (by omega) hx2 A (addPlainV p lv x A) (parL true p) (ciV true lv ex k n A) (elL true lv false lv n (intV p lv x)) (fun i hi => arAddPlain1_den p n lv ex k h (by omega) A hA x i hi)) ?_
  refine go ?_
  refine fin ?_
  exact cv
theorem arMulPlain_den (p : PD) (n lv ex k : Nat) (h : Cv p n lv ex) (hk : k = 2 ∨ k = 3) (A : Nat → Nat → Nat → Nat) (hA : Vc p lv A) (x : Nat → Int) (hx : ∀ j, -9223372036854775808 ≤ x j ∧ x j ≤ 9223372036854775807) (hpl : polyB p (p.prime ^ ex) n x = true) : Den Tryz.prog 43 [.agg (parL true p), .agg (ciV true lv ex k n A), intsD true n x] (.tup [.agg (ciV false lv ex k n (fun i => mulV p lv n (A i) (intV p lv x))), .val (.int .i64 0)]) := by
  refine den_intro (fn := Tryz.f43) rfl rfl rfl rfl rfl ?_
  have l2 := h.lv.l2
  have l24 := h.lv.vp.len2
  obtain ⟨b1, b2, b3⟩ := good_pow h.st.good h.st.e2
  have hx2 := good_ex b1 b2
  refine go ?_
  refine r_call (arText_den p n lv ex k h hk A hA x hx hpl) ?_
  refine go ?_
  refine c_no ?_
  refine go ?_
  refine r_call (arMade3_den lv ex k n k (by omega) (by omega) hx2 A (fun i => mulV p lv n (A i) (intV p lv x)) (parL true p) (ciV true lv ex k n A) (elL true lv false lv n (intV p lv x)) (fun i hi => arMulPlain1_den p n lv ex k h (by omega) A hA x i hi)) ?_
  refine go ?_
  refine fin ?_
  exact cv
end Go.Proofs.YtefoddjclngckaaGreat

namespace Go.Proofs.YtefoddjclngckaaGreat
open Go.RowKit
set_option maxRecDepth 20000
set_option maxHeartbeats 4000000
theorem rgMulV_den (p : PD) (n lv : Nat) (h : Lv p n lv) (ga gb : Nat → Nat → Nat) (ha : Vg p lv ga) (hb : Vg p lv gb) : Den Tryz.prog 115 [.agg (parL true p), .agg (elL true lv false lv n ga), .agg (elL true lv false lv n gb)] (.tup [.agg (elL false lv false lv n (mulV p lv n ga gb)), .val (.int .i64 0)]) := rgMul_den p n lv false h ga gb ha hb
theorem rgAddV_den (p : PD) (n lv : Nat) (h : Lv p n lv) (ga gb : Nat → Nat → Nat) (ha : Vg p lv ga) (hb : Vg p lv gb) : Den Tryz.prog 106 [.agg (parL true p), .agg (elL true lv false lv n ga), .agg (elL true lv false lv n gb)] (.tup [.agg (elL false lv false lv n (addV p lv ga gb)), .val (.int .i64 0)]) := rgAdd_den p n lv false h ga gb ha hb
theorem rgSubV_den (p : PD) (n lv : Nat) (h : Lv p n lv) (ga gb : Nat → Nat → Nat) (ha : Vg p lv ga) (hb : Vg p lv gb) : Den Tryz.prog 76 [.agg (parL true p), .agg (elL true lv false lv n ga), .agg (elL true lv false lv n gb)] (.tup [.agg (elL false lv false lv n (subV p lv ga gb)), .val (.int .i64 0)]) := rgSub_den p n lv false h ga gb ha hb
theorem arTensor1_den (p : PD) (n lv ex : Nat) (h : Cv p n lv ex) (A B : Nat → Nat → Nat → Nat) (hA : Vc p lv A) (hB : Vc p lv B) (i : Nat) (hi : i < 3) : Den Tryz.prog 121 [.val (.int .i64 (i : Int)), .fptr true (parL true p), .fptr true (ciV true lv ex 2 n A), .fptr true (ciV true lv ex 2 n B)] (.tup [.agg (elL false lv false lv n (tensV p lv n A B i)), .val (.int .i64 0)]) := by
  refine den_intro (fn := Tryz.f121) rfl rfl rfl rfl rfl ?_
  refine go ?_
  refine c_if (fun h1 => ?_) (fun h1 => ?_)
  · refine go ?_
    refine r_callO (rgMulV_den p n lv h.lv (A (i / 2)) (B (i / 2)) (hA _) (hB _)) ?_
    refine go ?_
    refine fin ?_
    unfold tensV
    rw [if_neg h1]
    exact cv
  · obtain rfl : i = 1 := by omega
    refine go ?_
    refine r_callO (rgMulV_den p n lv h.lv (A 0) (B 1) (hA _) (hB _)) ?_
    refine go ?_
    refine r_callO (rgMulV_den p n lv h.lv (A 1) (B 0) (hA _) (hB _)) ?_
    refine go ?_
    refine r_call (rgAddV_den p n lv h.lv (mulV p lv n (A 0) (B 1)) (mulV p lv n (A 1) (B 0)) (vg_mul h.lv _ _) (vg_mul h.lv _ _)) ?_
    refine go ?_
    refine fin ?_
    exact cv
theorem arTensor_den (p : PD) (n lv ex : Nat) (h : Cv p n lv ex) (A B : Nat → Nat → Nat → Nat) (hA : Vc p lv A) (hB : Vc p lv B) : Den Tryz.prog 46 [.agg (parL true p), .agg (ciV true lv ex 2 n A), .agg (ciV true lv ex 2 n B)] (.tup [.agg (ciV false lv ex 3 n (tensV p lv n A B)), .val (.int .i64 0)]) := by
  refine den_intro (fn := Tryz.f46) rfl rfl rfl rfl rfl ?_
  have l2 := h.lv.l2
  have l24 := h.lv.vp.len2
  obtain ⟨b1, b2, b3⟩ := good_pow h.st.good h.st.e2
  have hx2 := good_ex b1 b2
  refine go ?_
  refine r_call (arMatch_den p n lv ex 2 2 h (.inl rfl) (.inl rfl) A B hA hB) ?_
  refine go ?_
  refine c_no ?_
  refine go ?_
  refine r_call (arMade3_den lv ex 2 n 3 (by omega) (by omega) hx2 A (tensV p lv n A B) (parL true p) (ciV true lv ex 2 n A) (ciV true lv ex 2 n B) (fun i hi => arTensor1_den p n lv ex h A B hA hB i hi)) ?_
  refine go ?_
  refine fin ?_
  exact cv
end Go.Proofs.YtefoddjclngckaaGreat

namespace Go.Proofs.YtefoddjclngckaaGreat
open Go.RowKit
set_option maxRecDepth 20000
set_option maxHeartbeats 4000000
instance ti92 : TI Tryz.prog 92 Tryz.t92 Tryz.t92.desc := ⟨by kernel_rfl, by kernel_rfl⟩
instance ti106 : TI Tryz.prog 106 Tryz.t106 Tryz.t105.desc := ⟨by kernel_rfl, by kernel_rfl⟩
instance ti149 : TI Tryz.prog 149 Tryz.t149 (.array 3 31) := ⟨by kernel_rfl, by kernel_rfl⟩
instance sz92 : SZ Tryz.prog 92 1 := SZ.of ti92 rfl
instance zr92 : ZR Tryz.prog 92 [.nilFunc] := ZR.of ti92 rfl rfl rfl
instance sz106 : SZ Tryz.prog 106 1 := SZ.of ti106 rfl
instance zr106 : ZR Tryz.prog 106 [.nilFunc] := ZR.of ti106 rfl rfl rfl
instance bt106 : BT Tryz.prog 106 [(0, 1)] [.nilFunc] := BT.of (ns := [1]) ti106 rfl zr106.zr ⟨sz92.sz, trivial⟩ (by intro j; repeat (first | rfl | cases j with | zero => rfl | succ j => ?_))
instance ft106_0 : FT Tryz.prog 106 0 0 := FT.of ti106 rfl ti92 rfl rfl
instance fv106_0 : FV Tryz.prog 106 0 0 1 false := FV.one ti106 rfl ti92 rfl rfl
instance sz149 : SZ Tryz.prog 149 9 := SZ.of ti149 rfl
instance zr149 : ZR Tryz.prog 149 [.int .i64 0, .bool false, .slice none 0 0, .int .i64 0, .bool false, .slice none 0 0, .int .i64 0, .bool false, .slice none 0 0] := ZR.of ti149 rfl rfl rfl
instance ar149 : AR Tryz.prog 149 3 3 := AR.of ti149 ti31 rfl
/-- The three parts of a ciphertext with two. -/
abbrev partsL (lv n : Nat) (A : Nat → Nat → Nat → Nat) : List D := elL true lv false lv n (A 0) ++ (elL true lv false lv n (A 1) ++ elL true lv false lv n (fun _ _ => 0))
abbrev partsJ (lv n : Nat) (A : Nat → Nat → Nat → Nat) : Nat → List D
  | 0 => zeroEl ++ (zeroEl ++ zeroEl)
  | 1 => elL true lv false lv n (A 0) ++ (zeroEl ++ zeroEl)
  | 2 => elL true lv false lv n (A 0) ++ (elL true lv false lv n (A 1) ++ zeroEl)
  | _ => partsL lv n A
section
variable {ro : Option Nat} {P : Program} {N : Nat} {Q : Post} {c : Code} {env : List (Nat × D)} {box : List (Nat × Option Box)}
/-- A variable's cells, said otherwise. -/
theorem c_lit (k : Nat) {t : TypeId} {l : List D} (l' : List D) (hc : SlotCvL (hk box) l l') (h : AWp ro P N c (lk env) (hk ((k, some (.lit t l')) :: box)) Q) (hf : (Box.lit t l').free (fun k => (hk box k).isSome) = true := by kernel_rfl) (hb : Bl box k (.lit t l) := by (repeat (first | exact Bl.here | apply Bl.there rfl))) : AWp ro P N c (lk env) (hk box) Q := awp_sub (sub_box k _ (by rw [hb.eq]; exact BoxCv.lit hc) hf) h
end
theorem arOf_den (p : PD) (n lv ex : Nat) (h : Cv p n lv ex) (A : Nat → Nat → Nat → Nat) (hA : Vc p lv A) : Den Tryz.prog 173 [.agg (parL true p), .agg (ciV true lv ex 2 n A)] (.agg (partsL lv n A)) := by
  refine den_intro (fn := Tryz.f173) rfl rfl rfl rfl rfl ?_
  have hN : NatIs p.n n := h.n
  have h32 := h.lv.n32
  refine go ?_
  refine r_call (rgZero_den p n lv false h.lv) ?_
  refine go ?_
  refine c_lit (1000 + 5) (elL true lv false lv n (fun _ _ => 0)) (.cons (.refl _) (.cons (.refl _) (.cons (.cvt (show Cvt (rowsD false lv n fun _ _ => 0) (rowsD true lv n fun _ _ => 0) from inferInstance)) .nil))) ?_
  refine c_down (fun j => 3 - j) (fun j => j ≤ 3) (fun j : Nat => [(18, .val (.int .i64 (j : Int)))]) (fun j => [(1004, some (.lit 149 (partsJ lv n A j)))]) 0 (fun j hj => ?_) (by omega)
  refine go ?_
  refine c_if (fun h3 => ?_) (fun h3 => ?_)
  · obtain rfl | rfl | rfl : j = 0 ∨ j = 1 ∨ j = 2 := by omega
    · refine go ?_
      refine ⟨1, by omega, by omega, ?_⟩
      exact sub
    · refine go ?_
      refine ⟨2, by omega, by omega, ?_⟩
      exact sub
    · refine go ?_
      refine ⟨3, by omega, by omega, ?_⟩
      exact sub
  · obtain rfl : j = 3 := by omega
    refine go ?_
    refine fin ?_
    exact cv
theorem arCombine1_den (p : PD) (n lv : Nat) (A B : Nat → Nat → Nat → Nat) {fo : FuncId} {fn : Func} [FI Tryz.prog fo fn] (G : Nat → Nat → Nat → Nat)
    (hop : ∀ i, i < 2 → Den Tryz.prog fo [.agg (parL true p), .agg (elL true lv false lv n (A i)), .agg (elL true lv false lv n (B i))] (.tup [.agg (elL false lv false lv n (G i)), .val (.int .i64 0)])) (i : Nat) (hi : i < 2) :
    Den Tryz.prog 174 [.val (.int .i64 (i : Int)), .fptr true [.val (.func (.func fo) #[] #[])], .fptr true (parL true p), .fptr true (partsL lv n A), .fptr true (partsL lv n B)] (.tup [.agg (elL false lv false lv n (G i)), .val (.int .i64 0)]) := by
  refine den_intro (fn := Tryz.f174) rfl rfl rfl rfl rfl ?_
  obtain rfl | rfl : i = 0 ∨ i = 1 := by omega
  · refine go ?_
    refine r_callO (hop 0 (by omega)) ?_
    refine go ?_
    refine fin ?_
    exact cv
  · refine go ?_
    refine r_callO (hop 1 (by omega)) ?_
    refine go ?_
    refine fin ?_
    exact cv
end Go.Proofs.YtefoddjclngckaaGreat

namespace Go.Proofs.YtefoddjclngckaaGreat
open Go.RowKit
set_option maxRecDepth 20000
set_option maxHeartbeats 4000000
theorem arMade4_den (lv ex k n many : Nat) (hm : many ≤ 3) (hlv : lv ≤ 1000) (hex : ex ≤ 1000000) (A G : Nat → Nat → Nat → Nat) {fl : FuncId} {fn : Func} [FI Tryz.prog fl fn] (l1 l2 l3 l4 : List D) [OldDL l1] [OldDL l2] [OldDL l3] [OldDL l4]
    (hpart : ∀ i, i < many → Den Tryz.prog fl [.val (.int .i64 (i : Int)), .fptr true l1, .fptr true l2, .fptr true l3, .fptr true l4] (.tup [.agg (elL false lv false lv n (G i)), .val (.int .i64 0)])) :
    Den Tryz.prog 111 [.agg (ciV true lv ex k n A), .val (.int .i64 (many : Int)), .clo fl [.fptr true l1, .fptr true l2, .fptr true l3, .fptr true l4]] (.tup [.agg (ciV false lv ex many n G), .val (.int .i64 0)]) := by
  refine den_intro (fn := Tryz.f111) rfl rfl rfl rfl rfl ?_
  refine go ?_
  refine c_arr (1000 + 17) (fillP (fun i => elL false lv false lv n (G i)) 0) (fun e he => ?_) (fillP_len (fun _ => rfl) 0) ?_
  · exact (if_neg (Nat.not_lt_zero e)).symm
  refine c_up many (fun j => [(22, .val (.int .i64 (j : Nat)))]) (fun j => [(1017, some (.arr 31 many Tryz.t31.size (fillP (fun i => elL false lv false lv n (G i)) j)))]) (fun j hj => ?_)
  refine go ?_
  refine c_if (fun h3 => ?_) (fun h3 => ?_)
  · refine go ?_
    refine r_callO (hpart j h3) ?_
    refine go ?_
    refine ⟨h3, ?_⟩
    refine sub_arr 1017 (fillP (fun i => elL false lv false lv n (G i)) (j + 1)) (fun e _ => setE_fillP rfl e) (fillP_len (fun _ => rfl) (j + 1)) ?_
    exact sub
  · obtain rfl : j = many := by omega
    refine go ?_
    refine fin_arr 1017 (fun i => elL false lv false lv n (G i)) (fun e he => fillP_all he) (fun _ => rfl) ?_
    refine fin_freeze 1017 ?_
    refine fin ?_
    exact cv
instance (lv n : Nat) (A : Nat → Nat → Nat → Nat) : OldDL (partsL lv n A) := (inferInstance : OldDL [.val (.int .i64 (lv : Int)), .val (.bool false), rowsD true lv n (A 0), .val (.int .i64 (lv : Int)), .val (.bool false), rowsD true lv n (A 1), .val (.int .i64 (lv : Int)), .val (.bool false), rowsD true lv n (fun _ _ => 0)])
theorem arCombine_den (p : PD) (n lv ex : Nat) (h : Cv p n lv ex) (A B : Nat → Nat → Nat → Nat) (hA : Vc p lv A) (hB : Vc p lv B) {fo : FuncId} {fn : Func} [FI Tryz.prog fo fn] (G : Nat → Nat → Nat → Nat)
    (hop : ∀ i, i < 2 → Den Tryz.prog fo [.agg (parL true p), .agg (elL true lv false lv n (A i)), .agg (elL true lv false lv n (B i))] (.tup [.agg (elL false lv false lv n (G i)), .val (.int .i64 0)])) :
    Den Tryz.prog 107 [.agg [.val (.func (.func fo) #[] #[])], .agg (parL true p), .agg (ciV true lv ex 2 n A), .agg (ciV true lv ex 2 n B)] (.tup [.agg (ciV false lv ex 2 n G), .val (.int .i64 0)]) := by
  refine den_intro (fn := Tryz.f107) rfl rfl rfl rfl rfl ?_
  have l2 := h.lv.l2
  have l24 := h.lv.vp.len2
  obtain ⟨b1, b2, b3⟩ := good_pow h.st.good h.st.e2
  have hx2 := good_ex b1 b2
  refine go ?_
  refine r_call (arMatch_den p n lv ex 2 2 h (.inl rfl) (.inl rfl) A B hA hB) ?_
  refine go ?_
  refine c_no ?_
  refine go ?_
  refine r_callO (arOf_den p n lv ex h A hA) ?_
  refine go ?_
  refine r_callO (arOf_den p n lv ex h B hB) ?_
  refine go ?_
  have hM := arMade4_den (fl := 174) lv ex 2 n 2 (by omega) (by omega) hx2 A G [.val (.func (.func fo) #[] #[])] (parL true p) (partsL lv n A) (partsL lv n B) (fun i hi => arCombine1_den p n lv A B G hop i hi)
  rw [show (((2 : Nat) : Int)) = max ((2 : Nat) : Int) ((2 : Nat) : Int) by omega] at hM
  refine r_call hM ?_
  refine go ?_
  refine fin ?_
  exact cv
theorem arAdd_den (p : PD) (n lv ex : Nat) (h : Cv p n lv ex) (A B : Nat → Nat → Nat → Nat) (hA : Vc p lv A) (hB : Vc p lv B) : Den Tryz.prog 38 [.agg (parL true p), .agg (ciV true lv ex 2 n A), .agg (ciV true lv ex 2 n B)] (.tup [.agg (ciV false lv ex 2 n (fun i => addV p lv (A i) (B i))), .val (.int .i64 0)]) := by
  refine den_intro (fn := Tryz.f38) rfl rfl rfl rfl rfl ?_
  refine go ?_
  refine r_call (arCombine_den (fo := 106) p n lv ex h A B hA hB (fun i => addV p lv (A i) (B i)) (fun i _ => rgAddV_den p n lv h.lv (A i) (B i) (hA i) (hB i))) ?_
  refine go ?_
  refine fin ?_
  exact cv
theorem arSub_den (p : PD) (n lv ex : Nat) (h : Cv p n lv ex) (A B : Nat → Nat → Nat → Nat) (hA : Vc p lv A) (hB : Vc p lv B) : Den Tryz.prog 40 [.agg (parL true p), .agg (ciV true lv ex 2 n A), .agg (ciV true lv ex 2 n B)] (.tup [.agg (ciV false lv ex 2 n (fun i => subV p lv (A i) (B i))), .val (.int .i64 0)]) := by
  refine den_intro (fn := Tryz.f40) rfl rfl rfl rfl rfl ?_
  refine go ?_
  refine r_call (arCombine_den (fo := 76) p n lv ex h A B hA hB (fun i => subV p lv (A i) (B i)) (fun i _ => rgSubV_den p n lv h.lv (A i) (B i) (hA i) (hB i))) ?_
  refine go ?_
  refine fin ?_
  exact cv
end Go.Proofs.YtefoddjclngckaaGreat

namespace Go.Proofs.YtefoddjclngckaaGreat
open Go.RowKit
/-- A sum. -/
def sm (f : Nat → Nat) : Nat → Nat
  | 0 => 0
  | n + 1 => sm f n + f n
theorem sm_congr {f g : Nat → Nat} : ∀ {n : Nat}, (∀ i, i < n → f i = g i) → sm f n = sm g n
  | 0, _ => rfl
  | n + 1, h => by
    simp only [sm]
    rw [sm_congr (fun i hi => h i (by omega)), h n (by omega)]
theorem sm_left (f : Nat → Nat) : ∀ n, sm f (n + 1) = f 0 + sm (fun i => f (i + 1)) n
  | 0 => by simp [sm]
  | n + 1 => by
    have := sm_left f n
    simp only [sm] at this ⊢
    omega
theorem sm_rev : ∀ (f : Nat → Nat) (n : Nat), sm f n = sm (fun i => f (n - 1 - i)) n
  | f, 0 => rfl
  | f, n + 1 => by
    rw [sm_left (fun i => f (n + 1 - 1 - i)) n]
    simp only [sm]
    rw [sm_rev f n, Nat.add_comm]
    simp only [Nat.add_sub_cancel, Nat.sub_zero]
    congr 1
    exact sm_congr (fun i hi => by congr 1; omega)
theorem sm_zero {f : Nat → Nat} {n : Nat} (h : ∀ i, i < n → f i = 0) : sm f n = 0 := by
  induction n with
  | zero => rfl
  | succ n ih => simp only [sm]; rw [ih (fun i hi => h i (by omega)), h n (by omega)]
theorem sm_one {f : Nat → Nat} {n j : Nat} (hj : j < n) (h : ∀ i, i < n → i ≠ j → f i = 0) : sm f n = f j := by
  induction n with
  | zero => omega
  | succ n ih =>
    simp only [sm]
    by_cases q : j = n
    · subst q
      rw [sm_zero (fun i hi => h i (by omega) (by omega)), Nat.zero_add]
    · rw [ih (by omega) (fun i hi => h i (by omega)), h n (by omega) (fun e => q e.symm), Nat.add_zero]
theorem sm_skip (g : Nat → Nat) (k : Nat) : ∀ m, sm (fun j => if j ≤ k then 0 else g j) (k + 1 + m) = sm (fun i => g (k + 1 + i)) m
  | 0 => sm_zero (fun i hi => if_pos (by omega))
  | m + 1 => by
    show sm _ (k + 1 + m) + (if k + 1 + m ≤ k then 0 else g (k + 1 + m)) = _
    rw [sm_skip g k m, if_neg (by omega)]; rfl
theorem mulA_sm (a b : Nat → Nat) (q k : Nat) (hq : 0 < q) : ∀ m, m ≤ k + 1 → mulA a b q k m = sm (fun j => a j * b (k - j)) m % q
  | 0, _ => by simp [mulA, sm]
  | m + 1, h => by
    simp only [mulA, sm]
    rw [if_pos (by omega), mulA_sm a b q k hq m (by omega)]
    simp [Nat.add_mod]
theorem mulA_past (a b : Nat → Nat) (q k : Nat) : ∀ m, mulA a b q k (k + 1 + m) = mulA a b q k (k + 1)
  | 0 => rfl
  | m + 1 => by
    show (if k + 1 + m ≤ k then _ else mulA a b q k (k + 1 + m)) = _
    rw [if_neg (by omega)]
    exact mulA_past a b q k m
theorem mulS_sm (a b : Nat → Nat) (q n k : Nat) (hq : 0 < q) : ∀ m, mulS a b q n k m = sm (fun j => if j ≤ k then 0 else a j * b (k + n - j)) m % q
  | 0 => by simp [mulS, sm]
  | m + 1 => by
    simp only [mulS, sm]
    rw [mulS_sm a b q n k hq m]
    by_cases c : m ≤ k
    · rw [if_pos c, if_pos c, Nat.add_zero]
    · rw [if_neg c, if_neg c]; simp [Nat.add_mod]
/-- Up, down: the two sums of a product's coefficient. -/
def upS (a b : Nat → Nat) (k : Nat) : Nat := sm (fun j => a j * b (k - j)) (k + 1)
def dnS (a b : Nat → Nat) (n k : Nat) : Nat := sm (fun i => a (k + 1 + i) * b (n - 1 - i)) (n - 1 - k)
theorem mulR_eq (a b : Nat → Nat) {q n k : Nat} (hq : 0 < q) (hk : k < n) : mulR a b q n k = (upS a b k % q + q - dnS a b n k % q) % q := by
  unfold mulR
  obtain ⟨m, rfl⟩ : ∃ m, n = k + 1 + m := ⟨n - (k + 1), by omega⟩
  rw [mulA_past, mulA_sm a b q k hq (k + 1) (Nat.le_refl _), mulS_sm a b q _ k hq, sm_skip]
  unfold upS dnS
  rw [show k + 1 + m - 1 - k = m by omega]
  rw [sm_congr (f := fun i => a (k + 1 + i) * b (k + (k + 1 + m) - (k + 1 + i))) (g := fun i => a (k + 1 + i) * b (k + 1 + m - 1 - i)) (fun i hi => by
    show a (k + 1 + i) * b (k + (k + 1 + m) - (k + 1 + i)) = a (k + 1 + i) * b (k + 1 + m - 1 - i)
    rw [show k + (k + 1 + m) - (k + 1 + i) = k + 1 + m - 1 - i by omega])]
theorem upS_comm (a b : Nat → Nat) (k : Nat) : upS a b k = upS b a k := by
  unfold upS
  rw [sm_rev]
  exact sm_congr (fun i hi => by
    show a (k + 1 - 1 - i) * b (k - (k + 1 - 1 - i)) = b i * a (k - i)
    rw [show k + 1 - 1 - i = k - i by omega, show k - (k - i) = i by omega, Nat.mul_comm])
theorem dnS_comm (a b : Nat → Nat) {n k : Nat} (hk : k < n) : dnS a b n k = dnS b a n k := by
  unfold dnS
  rw [sm_rev]
  exact sm_congr (fun i hi => by
    show a (k + 1 + (n - 1 - k - 1 - i)) * b (n - 1 - (n - 1 - k - 1 - i)) = b (k + 1 + i) * a (n - 1 - i)
    rw [show k + 1 + (n - 1 - k - 1 - i) = n - 1 - i by omega, show n - 1 - (n - 1 - k - 1 - i) = k + 1 + i by omega, Nat.mul_comm])
theorem mulR_comm (a b : Nat → Nat) {q n k : Nat} (hq : 0 < q) (hk : k < n) : mulR a b q n k = mulR b a q n k := by
  rw [mulR_eq a b hq hk, mulR_eq b a hq hk, upS_comm, dnS_comm a b hk]
/-- The product with a constant. -/
theorem mulR_const (a b : Nat → Nat) {q n k c : Nat} (hq : 0 < q) (hk : k < n) (h0 : b 0 = c) (hb : ∀ j, 0 < j → j < n → b j = 0) : mulR a b q n k = (a k * c) % q := by
  rw [mulR_eq a b hq hk]
  have h1 : upS a b k = a k * c := by
    unfold upS
    rw [sm_one (j := k) (by omega) (fun i hi hn => by rw [hb (k - i) (by omega) (by omega), Nat.mul_zero]), Nat.sub_self, h0]
  have h2 : dnS a b n k = 0 := by
    unfold dnS
    exact sm_zero (fun i hi => by rw [hb (n - 1 - i) (by omega) (by omega), Nat.mul_zero])
  rw [h1, h2, Nat.zero_mod, Nat.sub_zero, Nat.add_mod_right, Nat.mod_mod]
theorem mulR_zero (a b : Nat → Nat) {q n k : Nat} (hq : 0 < q) (hk : k < n) (hb : ∀ j, j < n → b j = 0) : mulR a b q n k = 0 := by
  rw [mulR_const a b hq hk (hb 0 (by omega)) (fun j _ hj => hb j hj), Nat.mul_zero, Nat.zero_mod]
theorem resI_nat {c q : Nat} (h : c < q) : resI (c : Int) q = c := by
  have h1 := resI_cast (x := (c : Int)) (show 0 < q by omega)
  rw [Int.emod_eq_of_lt (by omega) (by omega)] at h1
  omega
theorem resI_m1 {q : Nat} (h : 0 < q) : resI (-1) q = q - 1 := by
  have h1 := resI_cast (x := -1) h
  have h2 : (-1 : Int) % (q : Int) = (q : Int) - 1 := by
    rw [show (-1 : Int) = ((q : Int) - 1) + (q : Int) * (-1) by omega, Int.add_mul_emod_self_left]
    exact Int.emod_eq_of_lt (by omega) (by omega)
  omega
theorem neg_mod {b q : Nat} (hq : 0 < q) (hb : b < q) : b * (q - 1) % q = (q - b) % q := by
  have h : b * (q - 1) + b = b * q := by
    rw [Nat.mul_sub_one]
    have := Nat.le_mul_of_pos_right b hq
    omega
  have e : (b * (q - 1) + b) % q = (q - b + b) % q := by rw [h, Nat.sub_add_cancel (by omega)]; simp
  have := Nat.add_mod_eq_add_mod_right (q - b) e
  rw [Nat.add_assoc, show b + (q - b) = q by omega, Nat.add_mod_right, Nat.add_assoc, show b + (q - b) = q by omega, Nat.add_mod_right] at this
  exact this
end Go.Proofs.YtefoddjclngckaaGreat

namespace Go.Proofs.YtefoddjclngckaaGreat
open Go.RowKit
set_option maxRecDepth 20000
set_option maxHeartbeats 4000000
instance fi85 : FI Tryz.prog 85 Tryz.f85 := ⟨Tryz.func85, Tryz.call85⟩
instance fi86 : FI Tryz.prog 86 Tryz.f86 := ⟨Tryz.func86, Tryz.call86⟩
def xa4 (j : Nat) : Int := match j with | 0 => 1 | 1 => 2 | 2 => 3 | 3 => 4 | _ => 0
def xb4 (j : Nat) : Int := match j with | 0 => 5 | _ => 0
theorem xa4_in (j : Nat) : -8 ≤ xa4 j ∧ xa4 j ≤ 8 := by unfold xa4; split <;> omega
theorem xb4_in (j : Nat) : -8 ≤ xb4 j ∧ xb4 j ≤ 8 := by unfold xb4; split <;> omega
/-- The examples' residues. -/
def A4 (i k j : Nat) : Nat := if i = 0 then resI (xa4 j) (modQ p4 1 k) else 0
def B4 (i k j : Nat) : Nat := if i = 0 then resI (xb4 j) (modQ p4 1 k) else if j = 1 then 1 else 0
theorem pair16_den : Den Tryz.prog 85 [.agg (parL true p4)] (.tup [.agg (ciV false 1 1 2 4 A4), .agg (ciV false 1 1 2 4 B4)]) := by
  refine den_intro (fn := Tryz.f85) rfl rfl rfl rfl rfl ?_
  refine go ?_
  refine r_callN3 (r14Trivial_lit 1 2 3 4 xa4 rfl rfl rfl rfl xa4_in) (r' := .tup [.agg [.val (.int .i64 1), .val (.int .i64 1), .sl 121038 3 2], .val (.int .i64 0)]) (l' := [.val (.int .i64 1), .val (.bool false), .sl 121031 1 1, .val (.int .i64 1), .val (.bool false), .sl 121037 1 1]) rfl rfl ?_
  refine go ?_
  refine r_callN3 (r14Trivial_lit 5 0 0 0 xb4 rfl rfl rfl rfl xb4_in) (r' := .tup [.agg [.val (.int .i64 1), .val (.int .i64 1), .sl 181038 3 2], .val (.int .i64 0)]) (l' := [.val (.int .i64 1), .val (.bool false), .sl 181031 1 1, .val (.int .i64 1), .val (.bool false), .sl 181037 1 1]) rfl rfl ?_
  refine go ?_
  refine fin_freezeM 121031 ?_
  refine fin_freezeM 121037 ?_
  refine fin_lit 121038 (elL false 1 false 1 4 (A4 0) ++ elL false 1 false 1 4 (A4 1)) (.cons (.refl _) (.cons (.refl _) (.cons (.ice (ns := [121031]) (CvV.ice (t := 23) (n := 1) rfl (by omega) rfl)) (.cons (.refl _) (.cons (.refl _) (.cons (.ice (ns := [121037]) (CvV.ice (t := 23) (n := 1) rfl (by omega) rfl)) .nil)))))) ?_
  refine fin_frzN 121038 2 3 (fun i => elL false 1 false 1 4 (A4 i)) rfl (fun e he => ⟨rfl, fun c hc => ?_⟩) ?_
  · match e, he, c, hc with
    | 0, _, 0, _ => rfl
    | 0, _, 1, _ => rfl
    | 0, _, 2, _ => rfl
    | 1, _, 0, _ => rfl
    | 1, _, 1, _ => rfl
    | 1, _, 2, _ => rfl
  refine fin_freezeM 181031 ?_
  refine fin_mat 181037 (fun k j => [.val (.int .u32 ((B4 1 k j : Nat) : Int))]) (fun e x he hx => ?_) (fun _ _ => rfl) ?_
  · obtain rfl : e = 0 := by omega
    show setE (fun j => [.val (.int .u32 ((0 : Nat) : Int))]) 1 0 [.val (.int .u32 1)] x = _
    unfold setE B4
    split
    · subst_vars; rfl
    · rename_i q; simp [q]
  refine fin_freezeM 181037 ?_
  refine fin_lit 181038 (elL false 1 false 1 4 (B4 0) ++ elL false 1 false 1 4 (B4 1)) (.cons (.refl _) (.cons (.refl _) (.cons (.ice (ns := [181031]) (CvV.ice (t := 23) (n := 1) rfl (by omega) rfl)) (.cons (.refl _) (.cons (.refl _) (.cons (.ice (ns := [181037]) (CvV.ice (t := 23) (n := 1) rfl (by omega) rfl)) .nil)))))) ?_
  refine fin_frzN 181038 2 3 (fun i => elL false 1 false 1 4 (B4 i)) rfl (fun e he => ⟨rfl, fun c hc => ?_⟩) ?_
  · match e, he, c, hc with
    | 0, _, 0, _ => rfl
    | 0, _, 1, _ => rfl
    | 0, _, 2, _ => rfl
    | 1, _, 0, _ => rfl
    | 1, _, 1, _ => rfl
    | 1, _, 2, _ => rfl
  refine fin ?_
  exact cv
theorem row16_den (g : Nat → Nat → Nat) (y : Nat → Nat) : Den Tryz.prog 86 [.agg (elL true 1 false 1 4 g), u32sF true 4 y] (.val (.bool (sameW 4 4 (g 0) y))) := by
  refine den_intro (fn := Tryz.f86) rfl rfl rfl rfl rfl ?_
  refine go ?_
  refine g_callM (hl := fun hb => r_call (sameWords_den 4 4 (g 0) y (by omega) (by omega)) (run_fin rfl)) (h := ?_)
  refine go ?_
  refine fin ?_
  exact cv
instance (l : List Nat) : Cvt (u32sD false l) (u32sD true l) := by unfold u32sD; infer_instance
theorem p4_chain : Cvt (u32sD false p4.chain) (.fz false 1 1 (fun _ => [.val (.int .u32 2147481209)])) := Cvt.fz (.inl rfl) (fun e he => by
  obtain rfl : e = 0 := by have : e < 1 := he; omega
  exact ⟨rfl, fun c hc => .of_eq rfl⟩)
theorem p4_cv : Cv p4 4 1 1 := ⟨p4_fit, p4_st, p4_n⟩
theorem p4_q (r : Nat) : 100 < modQ p4 1 r := by
  unfold modQ
  split
  · obtain rfl : r = 0 := by omega
    decide
  · decide
theorem A4_vc : Vc p4 1 A4 := fun i r j => by
  have := p4_q r
  unfold A4
  split
  · exact resI_lt (by omega)
  · omega
theorem B4_vc : Vc p4 1 B4 := fun i r j => by
  have := p4_q r
  unfold B4
  split
  · exact resI_lt (by omega)
  · split <;> omega
def l4 (a b c d : Nat) (j : Nat) : Nat := match j with | 0 => a | 1 => b | 2 => c | 3 => d | _ => 0
theorem row16_lit (g : Nat → Nat → Nat) (a b c d : Int) (y : Nat → Nat) (h0 : (y 0 : Int) = a) (h1 : (y 1 : Int) = b) (h2 : (y 2 : Int) = c) (h3 : (y 3 : Int) = d) (h : sameW 4 4 (g 0) y = true) : Den Tryz.prog 86 [.agg (elL true 1 false 1 4 g), litA Tryz.t22.size 4 [.val (.int .u32 a), .val (.int .u32 b), .val (.int .u32 c), .val (.int .u32 d)]] (.val (.bool true)) := by
  have := row16_den g y
  rw [h] at this
  exact this.arg (.cons (.of_eq rfl) (.cons (Cvt.litA (fun e he => by
    match e, he with
    | 0, _ => rw [h0]; rfl
    | 1, _ => rw [h1]; rfl
    | 2, _ => rw [h2]; rfl
    | 3, _ => rw [h3]; rfl) (fun _ _ => rfl)) .nil))
theorem aw1 : sameW 4 4 (addV p4 1 (A4 0) (B4 0) 0) (l4 6 2 3 4) = true := by decide +kernel
theorem aw2 : sameW 4 4 (addV p4 1 (A4 1) (B4 1) 0) (l4 0 1 0 0) = true := by decide +kernel
theorem aw3 : sameW 4 4 (tensV p4 1 4 A4 B4 0 0) (l4 5 10 15 20) = true := by decide +kernel
theorem aw4 : sameW 4 4 (tensV p4 1 4 A4 B4 1 0) (l4 2147481205 1 2 3) = true := by decide +kernel
theorem aw5 : sameW 4 4 (tensV p4 1 4 A4 B4 2 0) (l4 0 0 0 0) = true := by decide +kernel
end Go.Proofs.YtefoddjclngckaaGreat
