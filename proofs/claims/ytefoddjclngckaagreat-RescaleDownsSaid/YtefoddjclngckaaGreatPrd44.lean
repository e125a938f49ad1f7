/- Equal ciphertexts, the program's: by data. -/
import Derived.Test.YtefoddjclngckaaGreatPrd43
import Derived.Tactics
import Derived.Tactics2
import Derived.StillTactics
import Derived.Laws.Small
import Derived.Laws.StructEq
import Derived.KernelRfl
set_option linter.unusedSimpArgs false
set_option linter.unusedVariables false
set_option linter.unnecessarySimpa false
namespace Go.Proofs.YtefoddjclngckaaGreat
open Go.RowKit
set_option maxRecDepth 20000
set_option maxHeartbeats 4000000
theorem Cvt.aggV3 (a b c : Value) : Cvt (.agg [.val a, .val b, .val c]) (.val (.agg #[a, b, c])) := ⟨fun {Z w i v} _ hv => by
  cases hv with | agg _ vs _ hl h1 hr =>
  match vs, hl with
  | [x, y, z], _ =>
    have e1 := rep_val (hr 0 (by simp))
    have e2 := rep_val (hr 1 (by simp))
    have e3 := rep_val (hr 2 (by simp))
    change x = a at e1
    change y = b at e2
    change z = c at e3
    subst e1 e2 e3
    exact .val _ _⟩
theorem ciOf_den (c : CG) : Den Tryz.prog 108 [.agg (ciD true c)] (.val (.agg #[.int .i64 c.lv, .int .i64 c.ex, .int .i64 (c.k : Int)])) := by
  refine den_intro (fn := Tryz.f108) rfl rfl rfl rfl rfl ?_
  refine go ?_
  refine fin (CvV.cvt ?_ (Cvt.aggV3 _ _ _))
  exact cv
theorem eqHead (a b c a' b' c' : Int) (w : World) : (Op.equalIn 10000 108 (.agg #[.int .i64 a, .int .i64 b, .int .i64 c]) (.agg #[.int .i64 a', .int .i64 b', .int .i64 c'])).run Tryz.prog w = .ok (a == a' && (b == b' && c == c')) w := by
  have u3 := Tryz.underlying3
  have a3 := Tryz.isAgg3
  have z3 := Tryz.sizeOf3
  have hS : Tryz.prog.underlying 108 = some (.struct (Tryz.prog.fieldsOf 108)) := by kernel_rfl
  rw [show (10000 : Nat) = 9999 + 1 from rfl, run_equalIn_agg w 9999 108 _ _ hS (by kernel_rfl)]
  simp only [Program.fieldsOf, Tryz.underlying108]
  go_simp
  by_cases h1 : a = a' <;> by_cases h2 : b = b' <;> by_cases h3 : c = c' <;> simp [h1, h2, h3]
theorem bg_neq {ox oy : Operand} (a b c a' b' c' : Int) : BinR Tryz.prog .neq 108 ox oy (.agg #[.int .i64 a, .int .i64 b, .int .i64 c]) (.agg #[.int .i64 a', .int .i64 b', .int .i64 c']) (.bool (!(a == a' && (b == b' && c == c')))) := fun w => by
  have h := eqHead a b c a' b' c' w
  simp [eqGuard, run_neq_struct, h, Result.andThen]
theorem ciSame_den (a b : CG) (hk : a.k ≤ 1000000) (hk' : b.k ≤ 1000000) (hm : ∀ i, (a.P i).m ≤ 1000000) (hm' : ∀ i, (b.P i).m ≤ 1000000) (hl : ∀ i k, (a.P i).ln k ≤ 1000000) (hl' : ∀ i k, (b.P i).ln k ≤ 1000000) : Den Tryz.prog 41 [.agg (ciD true a), .agg (ciD true b)] (.val (.bool (sameC a b))) := by
  refine den_intro (fn := Tryz.f41) rfl rfl rfl rfl rfl ?_
  refine go ?_
  refine r_call (ciOf_den a) ?_
  refine go ?_
  refine r_call (ciOf_den b) ?_
  refine go ?_
  refine r_bin (hx := by apply Op1.tmp; (repeat (first | exact Lk.here | apply Lk.there rfl))) (hy := by apply Op1.tmp; (repeat (first | exact Lk.here | apply Lk.there rfl))) (hr := bg_neq _ _ _ _ _ _) (hd := rfl) (h := ?_)
  refine go ?_
  refine c_ifB (fun h1 => ?_) (fun h1 => ?_)
  · refine go ?_
    refine fin ?_
    rw [show sameC a b = false by
      unfold sameC
      by_cases q1 : a.lv = b.lv
      · by_cases q2 : a.ex = b.ex
        · by_cases q3 : a.k = b.k
          · exfalso
            simp [q1, q2, q3] at h1
          · simp [q3]
        · simp [q2]
      · simp [q1]]
    exact cv
  · have q : a.lv = b.lv ∧ a.ex = b.ex ∧ a.k = b.k := by
      simp at h1
      exact ⟨h1.1, h1.2.1, by omega⟩
    have hE : sameC a b = evry (fun i => sameE (a.P i) (b.P i)) a.k := by unfold sameC; rw [q.1, q.2.1, q.2.2]; simp
    have qk := q.2.2
    refine go ?_
    refine c_down (fun j => a.k - j) (fun j => j ≤ a.k ∧ ∀ i, i < j → sameE (a.P i) (b.P i) = true) (fun j : Nat => [(15, .val (.int .i64 (j : Int)))]) (fun _ => []) 0 (fun j ⟨hj, hp⟩ => ?_) ⟨by omega, fun e he => by omega⟩
    refine go ?_
    refine c_if (fun h3 => ?_) (fun h3 => ?_)
    · have h3' : j < b.k := by omega
      refine go ?_
      refine r_call (rgSame_den (a.P j) (b.P j) (hm j) (hm' j) (hl j) (hl' j)) ?_
      refine go ?_
      refine c_ifB (fun h4 => ?_) (fun h4 => ?_)
      · refine go ?_
        refine fin ?_
        rw [hE, evry_no (f := fun i => sameE (a.P i) (b.P i)) h3 (by simpa using h4)]
        exact cv
      · refine go ?_
        refine ⟨j + 1, ⟨by omega, fun k hk => ?_⟩, by omega, ?_⟩
        · by_cases q : k < j
          · exact hp k q
          · obtain rfl : k = j := by omega
            simpa using h4
        · exact sub
    · refine go ?_
      obtain rfl : j = a.k := by omega
      refine fin ?_
      rw [hE, (evry_iff (f := fun i => sameE (a.P i) (b.P i))).2 hp]
      exact cv
end Go.Proofs.YtefoddjclngckaaGreat
