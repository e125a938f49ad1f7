/- Inverses, by data; the reference's small numbers.
The reference's small numbers, by data. -/
import Derived.Test.YtmjildbdkecolaaPst29
set_option linter.unusedSimpArgs false
set_option linter.unusedVariables false
set_option linter.unnecessarySimpa false
namespace Go.Proofs.Ytmjildbdkecolaa
open Go.RowKit
set_option maxRecDepth 20000
set_option maxHeartbeats 4000000
theorem resI_of {u : Int} {n : Nat} (h : -(2 * u) ≤ n ∧ 2 * u ≤ n) (hn : 2 ≤ n) : ((resI u n : Nat) : Int) = (if u < 0 then u + n else u) ∧ resI u n < n := by
 refine ⟨?_, resI_lt (by omega)⟩
 rw [resI_cast (by omega)]
 split
 ·rw [← Int.add_emod_right, Int.emod_eq_of_lt (by omega) (by omega)]
 ·rw [Int.emod_eq_of_lt (by omega) (by omega)]
theorem mInverse_den (a n : Nat) (h2 : 2 ≤ n) (hn : n ≤ 2147483647) (ha : a < n) : Den Try.prog 88 [.val (.int .u32 (a : Int)), .val (.int .u32 (n : Int))] (.tup [.val (.int .u32 ((invV a n : Nat) : Int)), .val (.int .i64 (if invB a n then 0 else 4))]) := by
 refine den_intro (fn := Try.f88) rfl rfl rfl rfl rfl ?_
 refine go ?_
 refine r_call (mfits1_den n a h2 hn ha) ?_
 refine go ?_
 refine c_no ?_
 refine go ?_
 refine c_down (fun s : Nat × Nat × Int × Int => s.2.1) (fun s => EuOk n s.1 s.2.1 s.2.2.1 s.2.2.2 ∧ eu (s.2.1 + 1) s.1 s.2.1 s.2.2.1 s.2.2.2 = invE a n) (fun s => [(6, .val (.int .i64 (s.1 : Int))), (7, .val (.int .i64 (s.2.1 : Int))), (8, .val (.int .i64 s.2.2.1)), (9, .val (.int .i64 s.2.2.2))]) (fun _ => []) (n, a, 0, 1) (fun s hs => ?_) ⟨.start ha, rfl⟩
 obtain ⟨x, y, u, v⟩ := s
 dsimp only at hs ⊢
 obtain ⟨hk, he⟩ := hs
 have hb := hk.bnd
 have hle := hk.le
 have hlt := hk.lt
 refine go ?_
 refine c_if (fun h3 => ?_) (fun h3 => ?_)
 ·have hy : 0 < y := by omega
  have hp := hk.prod hy
  have hm := Nat.mod_lt x hy
  have hd : x - x / y * y = x % y := by have := Nat.div_add_mod x y; rw [Nat.mul_comm] at this; omega
  have hdm : x / y * y ≤ x := Nat.div_mul_le_self x y
  have hq := Nat.div_le_self x y
  have hnx := hk.next hy
  have hnb := hnx.bnd
  refine go ?_
  refine ⟨(y, x % y, v, u - ((x / y : Nat) : Int) * v), ⟨hnx, (eu_step hy).symm.trans he⟩, hm, ?_⟩
  dsimp only
  rw [hd]
  exact sub
 ·obtain rfl : y = 0 := by omega
  rw [eu_end] at he
  have hu : -(2 * u) ≤ n ∧ 2 * u ≤ n := by rcases hk.sg with ⟨_, _, _, _⟩ | ⟨_, _, _, _⟩ <;> omega
  obtain ⟨r, hr⟩ : ∃ r, resI u n = r := ⟨_, rfl⟩
  obtain ⟨hru, hrn⟩ := resI_of hu h2
  rw [hr] at hru hrn
  have hV : invV a n = if x = 1 then r else 0 := by unfold invV; rw [← he, hr]
  have hB : invB a n = decide (x = 1) := by unfold invB; rw [← he]
  rw [hV, hB]
  refine go ?_
  refine c_if (fun h4 => ?_) (fun h4 => ?_)
  ·refine go ?_
   rw [if_neg (show ¬ x = 1 by omega), decide_eq_false (show ¬ x = 1 by omega)]
   refine fin ?_
   exact cv
  ·refine go ?_
   rw [if_pos (show x = 1 by omega), decide_eq_true (show x = 1 by omega)]
   refine c_cut0 [(8, .val (.int .i64 (r : Int)))] ?_ ?_
   ·refine c_if (fun h5 => ?_) (fun h5 => ?_)
    ·rw [if_pos h5] at hru
     refine go ?_
     exact sub
    ·rw [if_neg h5] at hru
     refine go ?_
     exact sub
   ·refine go ?_
    refine fin ?_
    exact cv
open Go.RowKit
set_option maxRecDepth 20000
set_option maxHeartbeats 4000000
end Go.Proofs.Ytmjildbdkecolaa
