/- The reference's ring, by data: sums and multiples, rows of the call's own or not.
Equal ciphertexts, the reference's; Restrict and Balanced: by data.
The reference's Restrict and Balanced: by data. -/
import Derived.Test.YtefoddjclngckaaGreatPrd47
import Derived.Test.YtefoddjclngckaaGreatPrd43
import Derived.Test.YtefoddjclngckaaGreatPrd28
set_option linter.unusedSimpArgs false
set_option linter.unusedVariables false
set_option linter.unnecessarySimpa false
namespace Go.Proofs.YtefoddjclngckaaGreat
open Go.RowKit
set_option maxRecDepth 20000
set_option maxHeartbeats 4000000
instance fi197 : FI Tryz.prog 197 Tryz.f197 := ⟨Tryz.func197, Tryz.call197⟩
instance fi215 : FI Tryz.prog 215 Tryz.f215 := ⟨Tryz.func215, Tryz.call215⟩
instance fi194 : FI Tryz.prog 194 Tryz.f194 := ⟨Tryz.func194, Tryz.call194⟩
instance fi171 : FI Tryz.prog 171 Tryz.f171 := ⟨Tryz.func171, Tryz.call171⟩
instance fi166 : FI Tryz.prog 166 Tryz.f166 := ⟨Tryz.func166, Tryz.call166⟩
instance fi101 : FI Tryz.prog 101 Tryz.f101 := ⟨Tryz.func101, Tryz.call101⟩
instance fi84 : FI Tryz.prog 84 Tryz.f84 := ⟨Tryz.func84, Tryz.call84⟩
instance fi55 : FI Tryz.prog 55 Tryz.f55 := ⟨Tryz.func55, Tryz.call55⟩
def sumV (p : PD) (lv : Nat) (z : Int) (ga gb : Nat → Nat → Nat) (i j : Nat) : Nat := (ga i j + gb i j * resI z (modQ p lv i)) % modQ p lv i
theorem vg_sum {p : PD} {n lv : Nat} (h : Lv p n lv) (z : Int) (A B : Nat → Nat → Nat) : Vg p lv (sumV p lv z A B) := fun r j => Nat.mod_lt _ (h.q0 r)
theorem FrD.el {k n : Nat} {F : Nat → List D} (lv : Nat) (sp : Bool) : FrD k n F (.agg [.val (.int .i64 (lv : Int)), .val (.bool sp), .sl k 1 n]) (.agg [.val (.int .i64 (lv : Int)), .val (.bool sp), .fz false n 1 F]) := .agg1 (.id rfl) (.agg1 (.id rfl) (.agg1 (.sl (Nat.le_refl _)) .agg0))
theorem r09sum_own (p : PD) (n lv : Nat) (sp : Bool) (h : Lv p n lv) (ga gb : Nat → Nat → Nat) (z : Int) (hz : -9223372036854775808 ≤ z ∧ z ≤ 9223372036854775807) (ha : Vg p lv ga) (hb : Vg p lv gb) : DenH Tryz.prog 197 [.agg (parL true p), .agg (elL true lv sp (modN p lv sp) n ga), .agg (elL true lv sp (modN p lv sp) n gb), .val (.int .i64 z)] [] (.agg (elM lv sp 1900 (modN p lv sp))) [] [(1900, u32M (modN p lv sp) n (sumV p lv z ga gb))] := by
  refine den_intro (fn := Tryz.f197) rfl rfl rfl rfl rfl ?_
  have hN : NatIs p.n n := h.n
  have h32 := h.n32
  have h4 := h.n4
  have l1 := h.l1
  have l2 := h.l2
  have l24 := h.vp.len2
  have hm := modQ_in h.vp h.sp h.l2
  have hM : modN p lv sp ≤ 1001 := by unfold modN; split <;> omega
  obtain ⟨M, hMM⟩ : ∃ M, M = modN p lv sp := ⟨_, rfl⟩
  rw [← hMM] at hM ⊢
  refine go ?_
  have hmod := r09Moduli_den p lv sp h.l2 (by omega)
  rw [← hMM] at hmod
  refine r_call hmod ?_
  refine go ?_
  refine c_nilcellM 1009 2 1900 23 22 1 n (fun k j => [.val (.int .u32 ((sumV p lv z ga gb k j : Nat) : Int))]) ?_
  refine c_up M (fun i => [(11, .val (.int .i64 (i : Nat)))]) (fun i => [(1009, some (.lit 31 [.val (.int .i64 (lv : Int)), .val (.bool sp), .sl 1900 1 i])), (1900, some (.mat 23 22 i i 1 n (fun k j => [.val (.int .u32 ((sumV p lv z ga gb k j : Nat) : Int))])))]) (fun i hi => ?_)
  refine go ?_
  have hq := hm i
  refine c_if (fun h3 => ?_) (fun h3 => ?_)
  · refine go ?_
    refine c_nil 12 1901 22 1 (fun j => [.val (.int .u32 ((sumV p lv z ga gb i j : Nat) : Int))]) ?_
    refine c_up n (fun j => [(12, .sl 1901 1 j), (13, .val (.int .i64 (j : Nat)))]) (fun j => [(1901, some (.arr 22 j 1 (fun j => [.val (.int .u32 ((sumV p lv z ga gb i j : Nat) : Int))])))]) (fun j hj => ?_)
    have hr := resI_lt (x := z) (show 0 < modQ p lv i by omega)
    have ha' := ha i j
    have hb' := hb i j
    have hp : gb i j * resI z (modQ p lv i) ≤ 2147483647 * 2147483647 := Nat.mul_le_mul (by omega) (by omega)
    have hs : sumV p lv z ga gb i j < modQ p lv i := vg_sum h z ga gb i j
    unfold sumV at hs
    refine go ?_
    refine c_if (fun h4 => ?_) (fun h4 => ?_)
    · refine go ?_
      refine r_callO (r09residue_den z (modQ p lv i) (by omega) (by omega) hz) ?_
      refine go ?_
      refine ⟨h4, ?_⟩
      refine sub_arr (1000 + 72) (fun j => [.val (.int .u32 ((sumV p lv z ga gb i j : Nat) : Int))]) (appF_snoc rfl) (fun _ => rfl) ?_
      refine sub_toL [37] (1000 + 72) 1901 ?_
      exact sub
    · obtain rfl : j = n := by omega
      refine go ?_
      refine ⟨h3, ?_⟩
      refine sub_mat (1000 + 77) (fun k j => [.val (.int .u32 ((sumV p lv z ga gb k j : Nat) : Int))]) (putG_snoc (fun _ _ => rfl)) (fun _ _ => rfl) ?_
      refine sub_toL [74] (1000 + 77) 1900 ?_
      exact sub
  · obtain rfl : i = M := by omega
    refine go ?_
    exact finN
theorem r09sum_den (p : PD) (n lv : Nat) (sp : Bool) (h : Lv p n lv) (ga gb : Nat → Nat → Nat) (z : Int) (hz : -9223372036854775808 ≤ z ∧ z ≤ 9223372036854775807) (ha : Vg p lv ga) (hb : Vg p lv gb) : Den Tryz.prog 197 [.agg (parL true p), .agg (elL true lv sp (modN p lv sp) n ga), .agg (elL true lv sp (modN p lv sp) n gb), .val (.int .i64 z)] (.agg (elL false lv sp (modN p lv sp) n (sumV p lv z ga gb))) :=
  (r09sum_own p n lv sp h ga gb z hz ha hb).frozen (by have := h.l1; unfold modN; split <;> omega) (FrD.el lv sp)
theorem r09two_den (p : PD) (n lv : Nat) (sp : Bool) (h : Lv p n lv) (ga gb : Nat → Nat → Nat) (ha : Vg p lv ga) (hb : Vg p lv gb) : Den Tryz.prog 215 [.agg (parL true p), .agg (elL true lv sp (modN p lv sp) n ga), .agg (elL true lv sp (modN p lv sp) n gb)] (.val (.bool true)) := by
  refine den_intro (fn := Tryz.f215) rfl rfl rfl rfl rfl ?_
  have h32 := h.n32
  have l1 := h.l2
  have l2 := h.vp.len2
  have hM : modN p lv sp ≤ 1000000 := by unfold modN; split <;> omega
  have c1 := r09Check_den0 p h.vp h.sp (lv : Int) sp (modN p lv sp) (fun _ => n) ga (fun _ => by omega) hM
  have c2 := r09Check_den0 p h.vp h.sp (lv : Int) sp (modN p lv sp) (fun _ => n) gb (fun _ => by omega) hM
  rw [elOk_valid (sp := sp) h ha] at c1
  rw [elOk_valid (sp := sp) h hb] at c2
  refine go ?_
  refine r_call c1 ?_
  refine go ?_
  refine g_callM (hl := fun hb => r_call c2 (run_fin rfl)) (h := ?_)
  refine go ?_
  refine fin ?_
  rw [show (decide ((0 : Nat) = 0) && decide ((0 : Nat) = 0) && decide (lv = lv) && sp == sp) = true by simp]
  exact cv
theorem r09Sub_own (p : PD) (n lv : Nat) (sp : Bool) (h : Lv p n lv) (ga gb : Nat → Nat → Nat) (ha : Vg p lv ga) (hb : Vg p lv gb) : DenH Tryz.prog 194 [.agg (parL true p), .agg (elL true lv sp (modN p lv sp) n ga), .agg (elL true lv sp (modN p lv sp) n gb)] [] (.tup [.agg (elM lv sp 1017 (modN p lv sp)), .val (.int .i64 0)]) [] [(1017, u32M (modN p lv sp) n (sumV p lv (-1) ga gb))] := by
  refine den_intro (fn := Tryz.f194) rfl rfl rfl rfl rfl ?_
  refine go ?_
  refine r_call (r09two_den p n lv sp h ga gb ha hb) ?_
  refine go ?_
  refine c_no ?_
  refine go ?_
  refine r_callN (r09sum_own p n lv sp h ga gb (-1) (by omega) ha hb) (r' := .agg (elM lv sp 1017 (modN p lv sp))) rfl ?_
  refine go ?_
  exact finN
theorem r13Sub_own (p : PD) (n lv : Nat) (sp : Bool) (h : Lv p n lv) (ga gb : Nat → Nat → Nat) (ha : Vg p lv ga) (hb : Vg p lv gb) : DenH Tryz.prog 166 [.agg (parL true p), .agg (elL true lv sp (modN p lv sp) n ga), .agg (elL true lv sp (modN p lv sp) n gb)] [] (.agg (elM lv sp 1013 (modN p lv sp))) [] [(1013, u32M (modN p lv sp) n (sumV p lv (-1) ga gb))] := by
  refine den_intro (fn := Tryz.f166) rfl rfl rfl rfl rfl ?_
  refine go ?_
  refine r_callN (r09Sub_own p n lv sp h ga gb ha hb) (r' := .tup [.agg (elM lv sp 1013 (modN p lv sp)), .val (.int .i64 0)]) rfl ?_
  refine go ?_
  exact finN
theorem r09Zero_den (p : PD) (n lv : Nat) (sp : Bool) (h : Lv p n lv) : Den Tryz.prog 152 [.agg (parL true p), .val (.int .i64 (lv : Int)), .val (.bool sp), zerosD n] (.tup [.agg (elL false lv sp (modN p lv sp) n (fun _ _ => 0)), .val (.int .i64 0)]) := by
  have := r09FromInts_den p n lv sp h (fun _ => 0) (fun _ => by omega)
  rw [resI_f] at this
  exact this
theorem sumV_0 {p : PD} {lv : Nat} {z : Int} {g : Nat → Nat → Nat} : sumV p lv z (fun _ _ => 0) g = mulIntV p lv z g := by
  funext i j
  unfold sumV mulIntV
  rw [Nat.zero_add]
theorem r09MulInt_den (p : PD) (n lv : Nat) (sp : Bool) (h : Lv p n lv) (g : Nat → Nat → Nat) (z : Int) (hz : -9223372036854775808 ≤ z ∧ z ≤ 9223372036854775807) (hg : Vg p lv g) : Den Tryz.prog 171 [.agg (parL true p), .agg (elL true lv sp (modN p lv sp) n g), .val (.int .i64 z)] (.tup [.agg (elL false lv sp (modN p lv sp) n (mulIntV p lv z g)), .val (.int .i64 0)]) := by
  refine den_intro (fn := Tryz.f171) rfl rfl rfl rfl rfl ?_
  have hN : NatIs p.n n := h.n
  have h32 := h.n32
  have l1 := h.l2
  have l2 := h.vp.len2
  have hM : modN p lv sp ≤ 1000000 := by unfold modN; split <;> omega
  have c1 := r09Check_den0 p h.vp h.sp (lv : Int) sp (modN p lv sp) (fun _ => n) g (fun _ => by omega) hM
  rw [elOk_valid (sp := sp) h hg] at c1
  have hs := r09sum_den p n lv sp h (fun _ _ => 0) g z hz (fun r _ => h.q0 r) hg
  rw [sumV_0] at hs
  refine go ?_
  refine r_call c1 ?_
  refine go ?_
  refine r_call (r09Zero_den p n lv sp h) ?_
  refine go ?_
  refine r_call hs ?_
  refine go ?_
  refine fin ?_
  exact cv
theorem r13Scale_den (p : PD) (n lv : Nat) (sp : Bool) (h : Lv p n lv) (g : Nat → Nat → Nat) (z : Int) (hz : -9223372036854775808 ≤ z ∧ z ≤ 9223372036854775807) (hg : Vg p lv g) : Den Tryz.prog 101 [.agg (parL true p), .agg (elL true lv sp (modN p lv sp) n g), .val (.int .i64 z)] (.agg (elL false lv sp (modN p lv sp) n (mulIntV p lv z g))) := by
  refine den_intro (fn := Tryz.f101) rfl rfl rfl rfl rfl ?_
  refine go ?_
  refine r_call (r09MulInt_den p n lv sp h g z hz hg) ?_
  refine go ?_
  refine fin ?_
  exact cv
end Go.Proofs.YtefoddjclngckaaGreat

namespace Go.Proofs.YtefoddjclngckaaGreat
open Go.RowKit
set_option maxRecDepth 20000
set_option maxHeartbeats 4000000
theorem sameC_a {a b : CG} (h : (decide (a.lv ≠ b.lv) || decide (a.ex ≠ b.ex) || decide (a.k ≠ b.k)) = true) : sameC a b = false := by
  unfold sameC
  by_cases q1 : a.lv = b.lv
  · by_cases q2 : a.ex = b.ex
    · by_cases q3 : a.k = b.k
      · simp [q1, q2, q3] at h
      · simp [q3]
    · simp [q2]
  · simp [q1]
theorem sameC_b {a b : CG} (h : (decide (a.lv ≠ b.lv) || decide (a.ex ≠ b.ex) || decide (a.k ≠ b.k)) = false) : a.k = b.k ∧ sameC a b = evry (fun i => sameE (a.P i) (b.P i)) a.k := by
  by_cases q1 : a.lv = b.lv
  · by_cases q2 : a.ex = b.ex
    · by_cases q3 : a.k = b.k
      · refine ⟨q3, ?_⟩
        unfold sameC; rw [q1, q2, q3]; simp
      · simp [q3] at h
    · simp [q2] at h
  · simp [q1] at h
theorem r14Same_den (a b : CG) (hk : a.k ≤ 1000000) (hk' : b.k ≤ 1000000) (hm : ∀ i, (a.P i).m ≤ 1000000) (hm' : ∀ i, (b.P i).m ≤ 1000000) (hl : ∀ i k, (a.P i).ln k ≤ 1000000) (hl' : ∀ i k, (b.P i).ln k ≤ 1000000) : Den Tryz.prog 20 [.agg (ciD true a), .agg (ciD true b)] (.val (.bool (sameC a b))) := by
  refine den_intro (fn := Tryz.f20) rfl rfl rfl rfl rfl ?_
  refine go ?_
  refine c_ifB (fun h1 => ?_) (fun h1 => ?_)
  · refine go ?_
    refine fin ?_
    rw [sameC_a h1]
    exact cv
  · obtain ⟨qk, hE⟩ := sameC_b h1
    refine go ?_
    refine c_down (fun j => a.k - j) (fun j => j ≤ a.k ∧ ∀ i, i < j → sameE (a.P i) (b.P i) = true) (fun j : Nat => [(5, .val (.int .i64 (j : Int)))]) (fun _ => []) 0 (fun j ⟨hj, hp⟩ => ?_) ⟨by omega, fun e he => by omega⟩
    refine go ?_
    refine c_if (fun h3 => ?_) (fun h3 => ?_)
    · have h3' : j < b.k := by omega
      refine go ?_
      refine r_call (r09Same_den (a.P j) (b.P j) (hm j) (hm' j) (hl j) (hl' j)) ?_
      refine go ?_
      refine c_ifB (fun h4 => ?_) (fun h4 => ?_)
      · refine go ?_
        refine fin ?_
        rw [hE, evry_no (f := fun i => sameE (a.P i) (b.P i)) h3 (by simpa using h4)]
        exact cv
      · refine go ?_
        refine ⟨j + 1, ⟨by omega, fun k hk => ?_⟩, by omega, ?_⟩
        · by_cases q : k < j
          · exact hp k q
          · obtain rfl : k = j := by omega
            simpa using h4
        · exact sub
    · refine go ?_
      obtain rfl : j = a.k := by omega
      refine fin ?_
      rw [hE, (evry_iff (f := fun i => sameE (a.P i) (b.P i))).2 hp]
      exact cv
end Go.Proofs.YtefoddjclngckaaGreat

namespace Go.Proofs.YtefoddjclngckaaGreat
open Go.RowKit
set_option maxRecDepth 20000
set_option maxHeartbeats 4000000
theorem r18Balanced_den (n q : Nat) (g : Nat → Nat) (hn : n ≤ 1000000) (h2 : 2 ≤ q) (hq : q ≤ 2147483647) (hg : ∀ j, g j < q) : Den Tryz.prog 55 [u32sF true n g, .val (.int .u32 (q : Int))] (intsD false n (fun j => balI (g j) q)) := by
  refine den_intro (fn := Tryz.f55) rfl rfl rfl rfl rfl ?_
  refine go ?_
  refine c_nil 5 1900 2 1 (fun j => [.val (.int .i64 (balI (g j) q))]) ?_
  refine c_up n (fun j => [(5, .sl 1900 1 j), (6, .val (.int .i64 (j : Nat)))]) (fun j => [(1900, some (.arr 2 j 1 (fun j => [.val (.int .i64 (balI (g j) q))])))]) (fun j hj => ?_)
  refine go ?_
  refine c_if (fun h3 => ?_) (fun h3 => ?_)
  · refine go ?_
    refine r_callO (r01Balanced_den (g j) q h2 hq (hg j)) ?_
    refine go ?_
    refine ⟨h3, ?_⟩
    refine sub_arr (1000 + 27) (fun j => [.val (.int .i64 (balI (g j) q))]) (appF_snoc rfl) (fun _ => rfl) ?_
    refine sub_toL [24] (1000 + 27) 1900 ?_
    exact sub
  · obtain rfl : j = n := by omega
    refine go ?_
    refine fin_freeze 1900 ?_
    refine fin ?_
    exact cv
theorem r09Restrict_den (p : PD) (n lv ex lv' : Nat) (h : Cv p n lv ex) (h1 : 1 ≤ lv') (hl : lv' ≤ lv) (g : Nat → Nat → Nat) (hg : Vg p lv g) :
    Den Tryz.prog 84 [.agg (parL true p), .agg (elL true lv false lv n g), .val (.int .i64 (lv' : Int)), .val (.bool false)] (.tup [.agg (elL false lv' false lv' n g), .val (.int .i64 0)]) := by
  refine den_intro (fn := Tryz.f84) rfl rfl rfl rfl rfl ?_
  have h32 := h.lv.n32
  have h4 := h.lv.n4
  have l2 := h.lv.l2
  have l24 := h.lv.vp.len2
  have hck := r09Check_den0 p h.lv.vp h.lv.sp (lv : Int) false lv (fun _ => n) g (fun _ => by omega) (by omega)
  rw [show elOk p (lv : Int) false lv (fun _ => n) g = true from elOk_valid h.lv hg] at hck
  refine go ?_
  refine r_call hck ?_
  refine go ?_
  rw [decide_eq_false (show ¬ lv' < 1 by omega), decide_eq_false (show ¬ lv < lv' by omega)]
  refine c_no ?_
  refine go ?_
  refine c_nilcellM 1010 2 1900 23 22 1 (0 + n) (fun k j => [.val (.int .u32 ((g k j : Nat) : Int))]) ?_
  refine c_up lv' (fun i => [(11, .val (.int .i64 (i : Nat)))]) (fun i => [(1010, some (.lit 31 [.val (.int .i64 (lv' : Int)), .val (.bool false), .sl 1900 1 i])), (1900, some (.mat 23 22 i i 1 (0 + n) (fun k j => [.val (.int .u32 ((g k j : Nat) : Int))])))]) (fun i hi => ?_)
  refine go ?_
  refine c_if (fun h3 => ?_) (fun h3 => ?_)
  · have h3' : i < lv := by omega
    refine go ?_
    refine r_bsl0 1 (fun _ => []) ?_
    refine go ?_
    refine ⟨h3, ?_⟩
    refine sub_mat (1000 + 53) (fun k j => [.val (.int .u32 ((g k j : Nat) : Int))]) (putG_snoc (fun _ _ => rfl)) (fun _ _ => rfl) ?_
    refine sub_toL [44] (1000 + 53) 1900 ?_
    exact sub
  · obtain rfl : i = lv' := by omega
    refine go ?_
    refine fin_freezeM 1900 ?_
    rw [Nat.zero_add n]
    refine fin ?_
    exact cv
end Go.Proofs.YtefoddjclngckaaGreat
