/- Pick returns an index. -/
import Derived.Test.YtkjfpaaiomioaaaRows
import Derived.WalkKit
import Derived.WalkSpells
import Derived.WalkLawsBesides
import Derived.Outline
namespace Go.Proofs.Ytkjfpaaiomioaaa
open Go.RowKit

theorem tmod_low (n m : Int) (hm : 1 ≤ m) : (n.tmod m < 0 → n.tmod m + m = n % m) ∧ (¬ n.tmod m < 0 → n.tmod m = n % m) := by
  by_cases h : 0 ≤ n
  · have e : n.tmod m = n % m := Int.tmod_eq_emod_of_nonneg h
    have := Int.emod_nonneg n (show m ≠ 0 by omega)
    exact ⟨fun h => by omega, fun _ => e⟩
  · obtain ⟨k, rfl⟩ : ∃ k, n = -k := ⟨-n, by omega⟩
    have hk : 0 ≤ k := by omega
    have e : (-k).tmod m = -(k % m) := by rw [Int.neg_tmod, Int.tmod_eq_emod_of_nonneg hk]
    have h1 := Int.emod_nonneg k (show m ≠ 0 by omega)
    have h2 := Int.emod_lt_of_pos k (show 0 < m by omega)
    have h3 := Int.emod_nonneg (-k) (show m ≠ 0 by omega)
    have h4 := Int.emod_lt_of_pos (-k) (show 0 < m by omega)
    have h5 := Int.mul_ediv_add_emod k m
    have h6 := Int.mul_ediv_add_emod (-k) m
    rw [e]
    have hq : m * (k / m + (-k) / m) = -(k % m) - (-k) % m := by rw [Int.mul_add]; omega
    obtain ⟨z, hz⟩ : ∃ z, k / m + (-k) / m = z := ⟨_, rfl⟩
    rw [hz] at hq
    have hz1 : -2 < z := by
      rcases Int.lt_or_le (-2) z with h | h
      · exact h
      · have : m * z ≤ m * (-2) := Int.mul_le_mul_of_nonneg_left h (by omega)
        omega
    have hz2 : z < 1 := by
      rcases Int.lt_or_le z 1 with h | h
      · exact h
      · have : m * 1 ≤ m * z := Int.mul_le_mul_of_nonneg_left h (by omega)
        omega
    rcases (show z = -1 ∨ z = 0 by omega) with rfl | rfl
    · exact ⟨fun _ => by omega, fun h => by omega⟩
    · exact ⟨fun h => by omega, fun h => by omega⟩

theorem pick_any (n m : Int) (w : World) (hm : 1 ≤ m) (hm2 : m ≤ 1000000) :
    Calls Try.prog 8 #[.int .i64 n, .int .i64 m] w fun e w' => e = .returned (.int .i64 (n % m)) ∧ w' = w := by
  obtain ⟨h1, h2⟩ := tmod_low n m hm
  have h3 := Int.emod_nonneg n (show m ≠ 0 by omega)
  have h4 := Int.emod_lt_of_pos n (show 0 < m by omega)
  have hm0 : ¬ m = 0 := by omega
  obtain ⟨t, ht⟩ : ∃ t, n.tmod m = t := ⟨_, rfl⟩
  obtain ⟨r, hr⟩ : ∃ r, n % m = r := ⟨_, rfl⟩
  rw [ht, hr] at h1 h2
  rw [hr] at h3 h4 ⊢
  clear hr
  by_cases h : t < 0
  · have h5 := h1 h
    clear h1 h2
    have hlo : -1000000 ≤ t := by omega
    subst ht
    go_enter Try.func8, Try.ntmps8
    go_wp2
    go_ret
    exact ⟨by rw [← h5]; rfl, rfl⟩
  · have h5 := h2 h
    clear h1 h2
    have h6 : 0 ≤ t := by omega
    subst ht
    go_enter Try.func8, Try.ntmps8
    go_wp2
    go_ret
    exact ⟨by rw [← h5]; rfl, rfl⟩
end Go.Proofs.Ytkjfpaaiomioaaa
