/- Small numbers modulo others, by data: of both sides.
Inverses, by data; the reference's small numbers.
The reference's small numbers, by data. -/
import Derived.Test.YtefoddjclngckaaGreatPsf29
import Derived.Test.YtefoddjclngckaaGreatPsf27
set_option linter.unusedSimpArgs false
set_option linter.unusedVariables false
set_option linter.unnecessarySimpa false
namespace Go.Proofs.YtefoddjclngckaaGreat
open Go.RowKit
set_option maxRecDepth 20000
set_option maxHeartbeats 4000000
instance fi159 : FI Tryz.prog 159 Tryz.f159 := ⟨Tryz.func159, Tryz.call159⟩
instance fi157 : FI Tryz.prog 157 Tryz.f157 := ⟨Tryz.func157, Tryz.call157⟩
instance fi73 : FI Tryz.prog 73 Tryz.f73 := ⟨Tryz.func73, Tryz.call73⟩
instance fi74 : FI Tryz.prog 74 Tryz.f74 := ⟨Tryz.func74, Tryz.call74⟩
instance fi158 : FI Tryz.prog 158 Tryz.f158 := ⟨Tryz.func158, Tryz.call158⟩
instance fi169 : FI Tryz.prog 169 Tryz.f169 := ⟨Tryz.func169, Tryz.call169⟩
instance fi165 : FI Tryz.prog 165 Tryz.f165 := ⟨Tryz.func165, Tryz.call165⟩
instance fi97 : FI Tryz.prog 97 Tryz.f97 := ⟨Tryz.func97, Tryz.call97⟩
instance fi170 : FI Tryz.prog 170 Tryz.f170 := ⟨Tryz.func170, Tryz.call170⟩
instance fi153 : FI Tryz.prog 153 Tryz.f153 := ⟨Tryz.func153, Tryz.call153⟩
instance fi96 : FI Tryz.prog 96 Tryz.f96 := ⟨Tryz.func96, Tryz.call96⟩
theorem mfits_den (n k : Nat) (l : Nat → Nat) (h2 : 2 ≤ n) (hn : n ≤ 2147483647) (hk : k ≤ 1000000) (hl : ∀ j, j < k → l j < n) : Den Tryz.prog 159 [.val (.int .u32 (n : Int)), u32sF true k l] (.val (.bool true)) := by
  refine den_intro (fn := Tryz.f159) rfl rfl rfl rfl rfl ?_
  refine go ?_
  refine c_up k (fun i => [(9, .val (.int .i64 (i : Int)))]) (fun _ => []) (fun i hi => ?_)
  refine go ?_
  refine c_if (fun h3 => ?_) (fun h3 => ?_)
  · have := hl i h3
    refine go ?_
    refine ⟨h3, ?_⟩
    exact sub
  · refine go ?_
    refine fin ?_
    rw [decide_eq_true h2, decide_eq_true hn]
    exact cv
theorem mfits1_den (n a : Nat) (h2 : 2 ≤ n) (hn : n ≤ 2147483647) (ha : a < n) : Den Tryz.prog 159 [.val (.int .u32 (n : Int)), litA Tryz.t22.size 1 [.val (.int .u32 (a : Int))]] (.val (.bool true)) :=
  (mfits_den n 1 (fun _ => a) h2 hn (by omega) (fun _ _ => ha)).arg (.cons (.of_eq rfl) (.cons (Cvt.litA (fun e he => by
    match e, he with
    | 0, _ => rfl) (fun _ _ => rfl)) .nil))
/-- Balanced. -/
def balI (a n : Nat) : Int := if (n : Int) < 2 * (a : Int) then (a : Int) - (n : Int) else (a : Int)
/-! ### Euclid's algorithm, as both sides run it -/
def eu : Nat → Nat → Nat → Int → Int → Nat × Int
  | 0, x, _, u, _ => (x, u)
  | f + 1, x, y, u, v => if y = 0 then (x, u) else eu f y (x % y) v (u - ((x / y : Nat) : Int) * v)
theorem eu_fuel : ∀ (y f g x : Nat) (u v : Int), y < f → y < g → eu f x y u v = eu g x y u v := by
  intro y
  induction y using Nat.strongRecOn with
  | _ y ih =>
    intro f g x u v hf hg
    obtain ⟨f, rfl⟩ : ∃ k, f = k + 1 := ⟨f - 1, by omega⟩
    obtain ⟨g, rfl⟩ : ∃ k, g = k + 1 := ⟨g - 1, by omega⟩
    unfold eu
    by_cases q : y = 0
    · rw [if_pos q, if_pos q]
    · rw [if_neg q, if_neg q]
      have := Nat.mod_lt x (show 0 < y by omega)
      exact ih (x % y) this f g y v _ (by omega) (by omega)
theorem eu_step {x y : Nat} {u v : Int} (hy : 0 < y) : eu (y + 1) x y u v = eu (x % y + 1) y (x % y) v (u - ((x / y : Nat) : Int) * v) := by
  rw [eu, if_neg (by omega)]
  have := Nat.mod_lt x hy
  exact eu_fuel _ _ _ _ _ _ (by omega) (by omega)
theorem eu_end {x : Nat} {u v : Int} : eu (0 + 1) x 0 u v = (x, u) := by rw [eu, if_pos rfl]
/-- The inverse that it finds; whether it finds one. -/
def invE (a n : Nat) : Nat × Int := eu (a + 1) n a 0 1
def invB (a n : Nat) : Bool := decide ((invE a n).1 = 1)
def invV (a n : Nat) : Nat := if (invE a n).1 = 1 then resI (invE a n).2 n else 0
/-- Its numbers stay small. -/
structure EuOk (n x y : Nat) (u v : Int) : Prop where
  lt : y < x
  le : x ≤ n
  sg : (0 ≤ u ∧ v ≤ 0 ∧ u * y + (-v) * x = n ∧ 2 * u ≤ n) ∨ (u ≤ 0 ∧ 0 ≤ v ∧ (-u) * y + v * x = n ∧ -(2 * u) ≤ n)
theorem EuOk.start {a n : Nat} (h : a < n) : EuOk n n a 0 1 := ⟨h, Nat.le_refl _, .inr ⟨by omega, by omega, by simp, by omega⟩⟩
theorem EuOk.next {n x y : Nat} {u v : Int} (h : EuOk n x y u v) (hy : 0 < y) : EuOk n y (x % y) v (u - ((x / y : Nat) : Int) * v) := by
  have hd : ((x : Nat) : Int) = (y : Int) * ((x / y : Nat) : Int) + ((x % y : Nat) : Int) := by
    have := Nat.div_add_mod x y
    exact_mod_cast this.symm
  have hlt := h.lt
  refine ⟨Nat.mod_lt _ hy, by have := h.le; omega, ?_⟩
  generalize hq : ((x / y : Nat) : Int) = q at hd ⊢
  generalize hr : ((x % y : Nat) : Int) = r at hd ⊢
  have hq0 : 0 ≤ q := by rw [← hq]; exact Int.natCast_nonneg _
  have hr0 : 0 ≤ r := by rw [← hr]; exact Int.natCast_nonneg _
  have hx2 : (2 : Int) ≤ x := by omega
  have key : ∀ {U V : Int}, 0 ≤ U → 0 ≤ V → U * y + V * x = n → V * r + (U + q * V) * y = n ∧ 2 * V ≤ n := by
    intro U V hU hV e
    have e1 : V * (x : Int) = V * ((y : Int) * q + r) := by rw [← hd]
    have e2 : V * ((y : Int) * q + r) = V * r + q * V * y := by rw [Int.mul_add, Int.add_comm, Int.mul_comm (y : Int) q, ← Int.mul_assoc, Int.mul_comm V q]
    refine ⟨by rw [Int.add_mul]; omega, ?_⟩
    have h1 : 0 ≤ U * (y : Int) := Int.mul_nonneg hU (by omega)
    have h2 : V * 2 ≤ V * (x : Int) := Int.mul_le_mul_of_nonneg_left hx2 hV
    omega
  rcases h.sg with ⟨a1, a2, a3, _⟩ | ⟨a1, a2, a3, _⟩
  · obtain ⟨k1, k2⟩ := key a1 (show 0 ≤ -v by omega) a3
    have hqv : 0 ≤ q * (-v) := Int.mul_nonneg hq0 (by omega)
    rw [Int.mul_neg] at hqv k1
    exact .inr ⟨a2, by omega, by rw [show u - q * v = u + -(q * v) by omega]; exact k1, by omega⟩
  · obtain ⟨k1, k2⟩ := key (show 0 ≤ -u by omega) a2 a3
    have hqv : 0 ≤ q * v := Int.mul_nonneg hq0 a2
    exact .inl ⟨a2, by omega, by rw [show -(u - q * v) = -u + q * v by omega]; exact k1, by omega⟩
theorem EuOk.bnd {n x y : Nat} {u v : Int} (h : EuOk n x y u v) : -(n : Int) ≤ u ∧ u ≤ n ∧ -(n : Int) ≤ v ∧ v ≤ n := by
  have hlt := h.lt
  have key : ∀ {U V : Int}, 0 ≤ U → 0 ≤ V → U * y + V * x = n → V ≤ n := by
    intro U V hU hV e
    have h1 : 0 ≤ U * (y : Int) := Int.mul_nonneg hU (by omega)
    have h2 : V * 1 ≤ V * (x : Int) := Int.mul_le_mul_of_nonneg_left (by omega) hV
    omega
  rcases h.sg with ⟨a1, a2, a3, a4⟩ | ⟨a1, a2, a3, a4⟩
  · have := key a1 (show 0 ≤ -v by omega) a3; omega
  · have := key (show 0 ≤ -u by omega) a2 a3; omega
theorem EuOk.prod {n x y : Nat} {u v : Int} (h : EuOk n x y u v) (hy : 0 < y) : -(2 * n : Int) ≤ ((x / y : Nat) : Int) * v ∧ ((x / y : Nat) : Int) * v ≤ 2 * n := by
  have h1 := h.bnd
  have h2 := (h.next hy).bnd
  omega
end Go.Proofs.YtefoddjclngckaaGreat

namespace Go.Proofs.YtefoddjclngckaaGreat
open Go.RowKit
set_option maxRecDepth 20000
set_option maxHeartbeats 4000000
theorem resI_of {u : Int} {n : Nat} (h : -(2 * u) ≤ n ∧ 2 * u ≤ n) (hn : 2 ≤ n) : ((resI u n : Nat) : Int) = (if u < 0 then u + n else u) ∧ resI u n < n := by
  refine ⟨?_, resI_lt (by omega)⟩
  rw [resI_cast (by omega)]
  split
  · rw [← Int.add_emod_right, Int.emod_eq_of_lt (by omega) (by omega)]
  · rw [Int.emod_eq_of_lt (by omega) (by omega)]
theorem mInverse_den (a n : Nat) (h2 : 2 ≤ n) (hn : n ≤ 2147483647) (ha : a < n) : Den Tryz.prog 158 [.val (.int .u32 (a : Int)), .val (.int .u32 (n : Int))] (.tup [.val (.int .u32 ((invV a n : Nat) : Int)), .val (.int .i64 (if invB a n then 0 else 4))]) := by
  refine den_intro (fn := Tryz.f158) rfl rfl rfl rfl rfl ?_
  refine go ?_
  refine r_call (mfits1_den n a h2 hn ha) ?_
  refine go ?_
  refine c_no ?_
  refine go ?_
  refine c_down (fun s : Nat × Nat × Int × Int => s.2.1) (fun s => EuOk n s.1 s.2.1 s.2.2.1 s.2.2.2 ∧ eu (s.2.1 + 1) s.1 s.2.1 s.2.2.1 s.2.2.2 = invE a n) (fun s => [(6, .val (.int .i64 (s.1 : Int))), (7, .val (.int .i64 (s.2.1 : Int))), (8, .val (.int .i64 s.2.2.1)), (9, .val (.int .i64 s.2.2.2))]) (fun _ => []) (n, a, 0, 1) (fun s hs => ?_) ⟨.start ha, rfl⟩
  obtain ⟨x, y, u, v⟩ := s
  dsimp only at hs ⊢
  obtain ⟨hk, he⟩ := hs
  have hb := hk.bnd
  have hle := hk.le
  have hlt := hk.lt
  refine go ?_
  refine c_if (fun h3 => ?_) (fun h3 => ?_)
  · have hy : 0 < y := by omega
    have hp := hk.prod hy
    have hm := Nat.mod_lt x hy
    have hd : x - x / y * y = x % y := by have := Nat.div_add_mod x y; rw [Nat.mul_comm] at this; omega
    have hdm : x / y * y ≤ x := Nat.div_mul_le_self x y
    have hq := Nat.div_le_self x y
    have hnx := hk.next hy
    have hnb := hnx.bnd
    refine go ?_
    refine ⟨(y, x % y, v, u - ((x / y : Nat) : Int) * v), ⟨hnx, (eu_step hy).symm.trans he⟩, hm, ?_⟩
    dsimp only
    rw [hd]
    exact sub
  · obtain rfl : y = 0 := by omega
    rw [eu_end] at he
    have hu : -(2 * u) ≤ n ∧ 2 * u ≤ n := by rcases hk.sg with ⟨_, _, _, _⟩ | ⟨_, _, _, _⟩ <;> omega
    obtain ⟨r, hr⟩ : ∃ r, resI u n = r := ⟨_, rfl⟩
    obtain ⟨hru, hrn⟩ := resI_of hu h2
    rw [hr] at hru hrn
    have hV : invV a n = if x = 1 then r else 0 := by unfold invV; rw [← he, hr]
    have hB : invB a n = decide (x = 1) := by unfold invB; rw [← he]
    rw [hV, hB]
    refine go ?_
    refine c_if (fun h4 => ?_) (fun h4 => ?_)
    · refine go ?_
      rw [if_neg (show ¬ x = 1 by omega), decide_eq_false (show ¬ x = 1 by omega)]
      refine fin ?_
      exact cv
    · refine go ?_
      rw [if_pos (show x = 1 by omega), decide_eq_true (show x = 1 by omega)]
      refine c_cut0 [(8, .val (.int .i64 (r : Int)))] ?_ ?_
      · refine c_if (fun h5 => ?_) (fun h5 => ?_)
        · rw [if_pos h5] at hru
          refine go ?_
          exact sub
        · rw [if_neg h5] at hru
          refine go ?_
          exact sub
      · refine go ?_
        refine fin ?_
        exact cv
end Go.Proofs.YtefoddjclngckaaGreat

namespace Go.Proofs.YtefoddjclngckaaGreat
open Go.RowKit
set_option maxRecDepth 20000
set_option maxHeartbeats 4000000
theorem r01modulus_den (n : Nat) (h2 : 2 ≤ n) (hn : n ≤ 2147483647) : Den Tryz.prog 169 [.val (.int .u32 (n : Int))] (.val (.bool true)) := by
  refine den_intro (fn := Tryz.f169) rfl rfl rfl rfl rfl ?_
  refine go ?_
  refine fin ?_
  rw [decide_eq_true h2, decide_eq_true hn]
  exact cv
theorem r01Balanced_den (a n : Nat) (h2 : 2 ≤ n) (hn : n ≤ 2147483647) (ha : a < n) : Den Tryz.prog 153 [.val (.int .u32 (a : Int)), .val (.int .u32 (n : Int))] (.tup [.val (.int .i64 (balI a n)), .val (.int .i64 0)]) := by
  refine den_intro (fn := Tryz.f153) rfl rfl rfl rfl rfl ?_
  refine go ?_
  refine r_call (r01modulus_den n h2 hn) ?_
  refine go ?_
  unfold balI
  refine c_if (fun h5 => ?_) (fun h5 => ?_)
  · rw [if_pos (show (n : Int) < 2 * (a : Int) by omega)]
    refine go ?_
    refine fin ?_
    exact cv
  · rw [if_neg (show ¬ (n : Int) < 2 * (a : Int) by omega)]
    refine go ?_
    refine fin ?_
    exact cv
end Go.Proofs.YtefoddjclngckaaGreat
