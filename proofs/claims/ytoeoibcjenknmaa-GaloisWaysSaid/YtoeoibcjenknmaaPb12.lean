/- The reference's test of parameters. -/
import Derived.Test.YtoeoibcjenknmaaPb06
namespace Go.Proofs.Ytoeoibcjenknmaa
open Go.RowKit

set_option maxHeartbeats 1600000 in
theorem r12dim_walk (n : Int) (w : World) : Calls Try.prog 20 #[.int .i64 n] w fun e w' => e = .returned (.bool (tr (IsDim n))) ∧ w' = w := by
  by_cases h4 : n = 4
  · subst h4
    go_enter Try.func20, Try.ntmps20
    go_wp2
    go_ret
    rw [tr_pos (.inl rfl)]
    exact ⟨rfl, rfl⟩
  by_cases h8 : n = 8
  · subst h8
    go_enter Try.func20, Try.ntmps20
    go_wp2
    go_ret
    rw [tr_pos (.inr (.inl rfl))]
    exact ⟨rfl, rfl⟩
  by_cases h16 : n = 16
  · subst h16
    go_enter Try.func20, Try.ntmps20
    go_wp2
    go_ret
    rw [tr_pos (.inr (.inr (.inl rfl)))]
    exact ⟨rfl, rfl⟩
  by_cases h32 : n = 32
  · subst h32
    go_enter Try.func20, Try.ntmps20
    go_wp2
    go_ret
    rw [tr_pos (.inr (.inr (.inr rfl)))]
    exact ⟨rfl, rfl⟩
  have g4 : (n == 4) = false := by simpa using h4
  have g8 : (n == 8) = false := by simpa using h8
  have g16 : (n == 16) = false := by simpa using h16
  have g32 : (n == 32) = false := by simpa using h32
  have HN : Hid (¬ IsDim n) := by rintro (h | h | h | h) <;> omega
  clear h4 h8 h16 h32
  go_enter Try.func20, Try.ntmps20
  go_wp2
  go_ret
  rw [tr_neg HN.out]
  exact ⟨rfl, rfl⟩

set_option maxHeartbeats 3200000 in
set_option maxRecDepth 100000 in
theorem r12plain_walk (n prime : Nat) (power : Int) (w : World) (hn : n = 4 ∨ n = 8 ∨ n = 16 ∨ n = 32) (hp : prime ≤ 4294967295) (hw1 : -9223372036854775808 ≤ power) (hw2 : power ≤ 9223372036854775807) :
    Calls Try.prog 21 #[.int .i64 n, .int .u32 prime, .int .i64 power] w fun e w' => e = .returned (.int .i64 (plainV n prime power : Nat)) ∧ w = w' := by
  have hn4 : 4 ≤ n := by omega
  have hn32 : n ≤ 32 := by omega
  by_cases h3 : prime < 3
  · have g3 : decide ((prime : Int) < 3) = true := decide_eq_true (by omega)
    have HV : Hid (plainV n prime power = 0) := plainV_neg (fun h => by have := h.1; omega)
    go_enter Try.func21, Try.ntmps21
    go_wp2
    go_ret
    rw [HV.out]
    exact ⟨rfl, rfl⟩
  have g3 : decide ((prime : Int) < 3) = false := decide_eq_false (by omega)
  by_cases h6 : 65536 ≤ prime
  · have g6 : decide ((65536 : Int) ≤ (prime : Int)) = true := decide_eq_true (by omega)
    have HV : Hid (plainV n prime power = 0) := plainV_neg (fun h => by have := h.2.1; omega)
    go_enter Try.func21, Try.ntmps21
    go_wp2
    go_ret
    rw [HV.out]
    exact ⟨rfl, rfl⟩
  have g6 : decide ((65536 : Int) ≤ (prime : Int)) = false := decide_eq_false (by omega)
  have HC := Lib.hid (rprime_walk prime w (by omega))
  by_cases hP : PrimeR prime
  case neg =>
    have HV : Hid (plainV n prime power = 0) := plainV_neg (fun h => hP (h.2.2.1))
    rw [tr_neg hP] at HC
    go_enter Try.func21, Try.ntmps21
    go_wp2_with fail
    (with_reducible refine Calls.mono HC.out ?_)
    rintro e w1 ⟨rfl, rfl⟩
    go_wp2
    go_ret
    rw [HV.out]
    exact ⟨rfl, rfl⟩
  rw [tr_pos hP] at HC
  obtain ⟨r, hr⟩ : ∃ r, prime % (2 * n) = r := ⟨_, rfl⟩
  have er : (prime : Int) % (2 * (n : Int)) = (r : Int) := by rw [← hr]; simp
  by_cases hm : r = 1
  case neg =>
    have HV : Hid (plainV n prime power = 0) := plainV_neg (fun h => hm (by rw [← hr]; exact h.2.2.2.1))
    have g7 : ((r : Int) != 1) = true := by simp; omega
    clear hr
    go_enter Try.func21, Try.ntmps21
    go_wp2_with fail
    (with_reducible refine Calls.mono HC.out ?_)
    rintro e w1 ⟨rfl, rfl⟩
    go_wp2
    go_ret
    rw [HV.out]
    exact ⟨rfl, rfl⟩
  subst hm
  have g7 : (prime : Int) % (2 * (n : Int)) = 1 := by rw [er]; rfl
  clear er
  have HR := Lib.hid hr
  clear hr
  by_cases h1 : power < 1
  · have HV : Hid (plainV n prime power = 0) := plainV_neg (fun h => by have := h.2.2.2.2.1; omega)
    go_enter Try.func21, Try.ntmps21
    go_wp2_with fail
    (with_reducible refine Calls.mono HC.out ?_)
    rintro e w1 ⟨rfl, rfl⟩
    go_wp2
    go_ret
    rw [HV.out]
    exact ⟨rfl, rfl⟩
  obtain ⟨N, hN⟩ : ∃ N : Nat, power = (N : Int) := ⟨power.toNat, by omega⟩
  subst hN
  have hV : prime ^ N ≤ 2147483647 → plainV n prime (N : Int) = prime ^ N := fun h =>
    plainV_pos ⟨by omega, by omega, hP, HR.out, by omega, h⟩
  have hV0 : 2147483647 < prime ^ N → plainV n prime (N : Int) = 0 := fun h => plainV_neg (fun k => by have := k.2.2.2.2.2; simp at this; omega)
  have HV := Lib.hid hV
  have HV0 := Lib.hid hV0
  clear hV hV0 hP
  have g1 : decide ((N : Int) < 1) = false := decide_eq_false (by omega)
  go_enter Try.func21, Try.ntmps21
  go_wp2_with fail
  (with_reducible refine Calls.mono HC.out ?_)
  rintro e w1 ⟨rfl, rfl⟩
  go_wp2
  go_loopg [7, 8] N (fun k vt vi wr => ∃ i y : Nat, vt = .int .i64 y ∧ vi = .int .i64 i ∧ i ≤ N ∧ N - i ≤ k ∧ y ≤ 2147483647 ∧ Hid (y = prime ^ i) ∧ w1 = wr)
  case atStart => exact ⟨0, 1, rfl, rfl, by omega, by omega, by omega, Lib.hid rfl, rfl⟩
  case round =>
    clear HC
    obtain ⟨i, y, rfl, rfl, hi, hk, hy, HY, rfl⟩ := hrel
    by_cases hlt : i < N
    · obtain ⟨z, hz⟩ : ∃ z, y * prime = z := ⟨_, rfl⟩
      have ez : (y : Int) * (prime : Int) = (z : Int) := by rw [← hz]; simp
      have hz2 : z ≤ 2147483647 * 65535 := by rw [← hz]; exact Nat.mul_le_mul hy (by omega)
      have HZ : Hid (z = prime ^ (i + 1)) := Lib.hid (by rw [← hz, HY.out, Nat.pow_succ])
      clear hz
      by_cases hov : 2147483647 < z
      · go_wp2
        go_ret
        rw [HV0.out (pow_over (i := i + 1) (by omega) (by rw [← HZ.out]; exact hov) (by omega))]
        exact ⟨rfl, rfl⟩
      · go_wp2
        go_roundg (N - (i + 1))
        case measure => omega
        case rel => exact ⟨i + 1, z, rfl, by go_num, by omega, Nat.le_refl _, by omega, HZ, rfl⟩
    · obtain rfl : i = N := by omega
      go_wp2
      go_ret
      rw [HV.out (by rw [← HY.out]; exact hy), ← HY.out]
      exact ⟨rfl, rfl⟩
end Go.Proofs.Ytoeoibcjenknmaa
