/- The reference's products and powers of residues.
The reference's strong test and Prime. -/
import Derived.Test.YtmjildbdkecolaaGreatRows
import Derived.Test.YtmjildbdkecolaaGreatPsr02
import Derived.WalkKit
import Derived.WalkSpells
import Derived.WalkLawsBesides
import Derived.BigQuiet
import Derived.Outline
import Derived.Deep.LoopGhost
import Derived.Lib.Hide
set_option linter.unusedSimpArgs false
set_option linter.unusedVariables false
set_option linter.unnecessarySimpa false
namespace Go.Proofs.YtmjildbdkecolaaGreat
open Go.RowKit

set_option maxHeartbeats 400000 in
theorem rtimes_walk (a b n : Nat) (w : World) (ha : a ≤ 4294967295) (hb : b ≤ 4294967295) (hn : 1 ≤ n) (hn2 : n ≤ 4294967295) :
  Calls Tryz.prog 185 #[.int .u32 a, .int .u32 b, .int .u32 n] w fun e w' => e = .returned (.int .u32 ((a * b % n : Nat) : Int)) ∧ w' = w := by
 have h1 : a * b ≤ 4294967295 * 4294967295 := Nat.mul_le_mul ha hb
 have h2 : a * b % n < n := Nat.mod_lt _ (by omega)
 go_enter Tryz.func185, Tryz.ntmps185
 go_wp2
 go_ret
 refine ⟨?_, rfl⟩
 have h3 : (a : Int) * b % n = ((a * b % n : Nat) : Int) := by rw [Int.natCast_emod, Int.natCast_mul]
 go_num

theorem pow_half {n a e : Nat} : (a * a % n) ^ (e / 2) % n = a ^ (2 * (e / 2)) % n := by
 rw [← Nat.pow_mod, Nat.pow_mul, Nat.pow_two]
theorem pow_round (n out a e : Nat) : ((if e % 2 = 1 then out * a % n else out) * (a * a % n) ^ (e / 2)) % n = out * a ^ e % n := by
 have h := pow_half (n := n) (a := a) (e := e)
 rcases Nat.mod_two_eq_zero_or_one e with h0 | h0
 ·rw [if_neg (by omega), Nat.mul_mod, h, ← Nat.mul_mod, show 2 * (e / 2) = e from by omega]
 ·rw [if_pos h0, Nat.mul_mod, h, Nat.mod_mod, ← Nat.mul_mod, Nat.mul_assoc]
  congr 2
  rw [Nat.mul_comm, ← Nat.pow_succ]
  congr 1; omega

set_option maxHeartbeats 400000 in
theorem rpower_walk (a x n : Nat) (w : World) (ha : a ≤ 4294967295) (hx : x ≤ 18446744073709551615) (hn : 2 ≤ n) (hn2 : n ≤ 4294967295) :
  Calls Tryz.prog 216 #[.int .u32 a, .int .u64 x, .int .u32 n] w fun e w' => e = .returned (.int .u32 ((a ^ x % n : Nat) : Int)) ∧ w' = w := by
 go_enter Tryz.func216, Tryz.ntmps216
 go_wp2
 go_loopw [7, 0, 1] (fun o b y wr => ∃ p c d : Nat, Hid (p * c ^ d % n = a ^ x % n) ∧ o = .int .u32 p ∧ b = .int .u32 c ∧ y = .int .u64 d ∧ p < n ∧ c ≤ 4294967295 ∧ d ≤ 18446744073709551615 ∧ wr = w) (fun _ _ y _ => (intOf y).toNat)
 case atStart => exact ⟨1, a, x, Lib.hid (by rw [Nat.one_mul]), rfl, rfl, rfl, by omega, ha, hx, rfl⟩
 case round =>
  obtain ⟨p, c, d, HE, rfl, rfl, rfl, hp, hc, hd, rfl⟩ := hrel
  have hl1 : p * c % n < n := Nat.mod_lt _ (by omega)
  have hl2 : c * c % n < n := Nat.mod_lt _ (by omega)
  by_cases h0 : 0 < d
  ·by_cases h1 : d % 2 = 1
   ·go_wp2_with fail
    refine (rtimes_walk p c n _ (by omega) hc (by omega) hn2).mono ?_
    rintro e w1 ⟨rfl, rfl⟩
    go_wp2_with fail
    refine (rtimes_walk c c n _ hc hc (by omega) hn2).mono ?_
    rintro e w1 ⟨rfl, rfl⟩
    go_wp2
    go_roundw
    case rel =>
     exact ⟨p * c % n, c * c % n, d / 2, Lib.hid (by have := pow_round n p c d; rw [if_pos h1] at this; rw [this]; exact HE.out), rfl, rfl, by go_num, hl1, by omega, by omega, trivial⟩
    case measure => simp [intOf]; omega
   ·go_wp2_with fail
    refine (rtimes_walk c c n _ hc hc (by omega) hn2).mono ?_
    rintro e w1 ⟨rfl, rfl⟩
    go_wp2
    go_roundw
    case rel =>
     exact ⟨p, c * c % n, d / 2, Lib.hid (by have := pow_round n p c d; rw [if_neg h1] at this; rw [this]; exact HE.out), rfl, rfl, by go_num, hp, by omega, by omega, trivial⟩
    case measure => simp [intOf]; omega
  ·go_wp2
   go_ret
   obtain rfl : d = 0 := by omega
   refine ⟨?_, rfl⟩
   have h := HE.out
   rw [Nat.pow_zero, Nat.mul_one, Nat.mod_eq_of_lt hp] at h
   rw [h]
   rfl
open Go.RowKit

/-- Whether something holds. -/
noncomputable def tr (p : Prop) : Bool := @decide p (Classical.propDecidable p)
theorem tr_pos {p : Prop} (h : p) : tr p = true := @decide_eq_true p (Classical.propDecidable p) h
theorem tr_neg {p : Prop} (h : ¬ p) : tr p = false := @decide_eq_false p (Classical.propDecidable p) h

/-- The strong test as the reference makes it: from the exponent d on. -/
theorem strong_sq (a n u i : Nat) : (a ^ (u * 2 ^ i) % n) * (a ^ (u * 2 ^ i) % n) % n = a ^ (u * 2 ^ (i + 1)) % n := by
 rw [← Nat.mul_mod, ← Nat.pow_two, ← Nat.pow_mul, Nat.mul_assoc, ← Nat.pow_succ]

theorem tr_iff {p q : Prop} (h : p ↔ q) : tr p = tr q := by rw [propext h]

set_option maxHeartbeats 800000 in
set_option maxRecDepth 100000 in
theorem rstrong_walk (a n u k : Nat) (w : World) (ha : a ≤ 4294967295) (hn : 3 ≤ n) (hn2 : n ≤ 2147483647) (hu : u % 2 = 1) (huk : n - 1 = u * 2 ^ k) :
  Calls Tryz.prog 201 #[.int .u32 a, .int .u32 n] w fun e w' => e = .returned (.bool (tr (Strong a n u k))) ∧ w' = w := by
 have hrem := Nat.mod_lt a (show 0 < n by omega)
 have hu1 : u ≤ n - 1 := by
  have := Nat.mul_le_mul_left u (show 1 ≤ 2 ^ k from Nat.pow_pos (by omega))
  omega
 have HUK := Lib.hid huk
 clear huk
 go_enter Tryz.func201, Tryz.ntmps201
 go_wp2
 go_loopw [5] (fun y wr => ∃ d j : Nat, Hid (d = u * 2 ^ j) ∧ y = .int .u32 d ∧ 1 ≤ d ∧ d ≤ n - 1 ∧ wr = w) (fun y _ => (intOf y).toNat)
 case atStart => exact ⟨n - 1, k, HUK, by go_num, by omega, by omega, rfl⟩
 case round =>
  obtain ⟨d, j, HD, rfl, hd1, hd2, rfl⟩ := hrel
  by_cases h0 : d % 2 = 0
  ·go_wp2
   go_roundw
   case rel =>
    obtain ⟨i, rfl⟩ : ∃ i, j = i + 1 := ⟨j - 1, by
     have h := HD.out
     rcases Nat.eq_zero_or_pos j with e | e
     ·subst e; rw [Nat.pow_zero, Nat.mul_one] at h; omega
     ·omega⟩
    refine ⟨d / 2, i, Lib.hid ?_, by go_num, by omega, by omega, trivial⟩
    have h := HD.out
    rw [Nat.pow_succ, ← Nat.mul_assoc] at h
    omega
   case measure => simp [intOf]; omega
  ·have hdu : d = u := by
    have h := HD.out
    exact odd_unique (j := 0) (k := j) (by omega) hu (by rw [Nat.pow_zero, Nat.mul_one]; exact h)
   subst hdu
   have hx := Nat.mod_lt (a ^ d) (show 0 < n by omega)
   go_wp2_with fail
   refine (rpower_walk (a % n) d n _ (by omega) (by omega) (by omega) (by omega)).mono ?_
   rintro e w1 ⟨rfl, rfl⟩
   rw [← Nat.pow_mod]
   generalize hy : a ^ d % n = y at *
   have HY := Lib.hid hy
   clear hy
   by_cases h1 : y = 1
   ·subst h1
    go_wp2
    go_ret
    rw [tr_pos (.inl HY.out)]
    exact ⟨rfl, rfl⟩
   ·have hy1 : ((y : Int) == 1) = false := by simp; omega
    go_wp2
    go_loopw [4, 5, 6] (fun r z x wr => ∃ c i v : Nat, r = .bool false ∧ Hid (c = d * 2 ^ i) ∧ Hid (v = a ^ (d * 2 ^ i) % n) ∧ Hid (∀ j, j < i → a ^ (d * 2 ^ j) % n ≠ n - 1) ∧ z = .int .u32 c ∧ x = .int .u32 v ∧ i ≤ k ∧ v < n ∧ wr = w1) (fun _ z _ _ => n - (intOf z).toNat)
    case atStart => exact ⟨d, 0, y, rfl, Lib.hid (by rw [Nat.pow_zero, Nat.mul_one]), Lib.hid (by rw [Nat.pow_zero, Nat.mul_one]; exact HY.out.symm), Lib.hid (by intro j hj; omega), rfl, rfl, Nat.zero_le _, hx, rfl⟩
    case round =>
     obtain ⟨c, i, v, rfl, HC, HV, HN, rfl, rfl, hik, hv, rfl⟩ := hrel
     have hvv := Nat.mod_lt (v * v) (show 0 < n by omega)
     have hc2 : c ≤ n - 1 ∧ (i < k → 2 * c ≤ n - 1 ∧ 1 ≤ c) ∧ (i = k → c = n - 1) := by
      have h1 := HC.out
      have h2 := HUK.out
      refine ⟨?_, ?_, ?_⟩
      ·rw [h1, h2]; exact Nat.mul_le_mul_left _ (Nat.pow_le_pow_right (by decide) hik)
      ·intro hlt
       refine ⟨?_, ?_⟩
       ·rw [h1, h2, Nat.mul_comm, Nat.mul_assoc, ← Nat.pow_succ]
        exact Nat.mul_le_mul_left _ (Nat.pow_le_pow_right (by decide) hlt)
       ·rw [h1]; exact Nat.mul_pos (by omega) (Nat.pow_pos (by decide))
      ·intro e; rw [h1, h2, e]
     obtain ⟨hc0, hc1, hc3⟩ := hc2
     by_cases hlt : i < k
     ·have hc1 := hc1 hlt
      clear hc3
      by_cases hvn : v = n - 1
      ·go_wp2
       go_ret
       rw [tr_pos (.inr ⟨i, hlt, by rw [← HV.out]; exact hvn⟩)]
       exact ⟨rfl, rfl⟩
      ·have hne : ¬ (v : Int) = (n : Int) - 1 := by omega
       go_wp2_with fail
       refine (rtimes_walk v v n _ (by omega) (by omega) (by omega) (by omega)).mono ?_
       rintro e w2 ⟨rfl, rfl⟩
       go_wp2
       go_roundw
       case rel =>
        refine ⟨2 * c, i + 1, v * v % n, rfl, Lib.hid ?_, Lib.hid ?_, Lib.hid ?_, by go_num, rfl, by omega, hvv, trivial⟩
        ·rw [HC.out, Nat.pow_succ, Nat.mul_comm 2, Nat.mul_assoc]
        ·have := strong_sq a n d i
         rw [HV.out]; exact this
        ·intro j hj
         rcases Nat.lt_or_eq_of_le (Nat.le_of_lt_succ hj) with h | h
         ·exact HN.out j h
         ·subst h; rw [← HV.out]; exact hvn
       case measure => simp [intOf]; omega
     ·obtain rfl : i = k := by omega
      have hc3 := hc3 rfl
      clear hc1
      go_wp2
      go_ret
      rw [tr_neg (show ¬ Strong a n d i from ?_)]
      exact ⟨rfl, rfl⟩
      intro h
      rcases h with h | ⟨j, hj, h⟩
      ·exact absurd (HY.out.symm.trans h) h1
      ·exact absurd h (HN.out j hj)

/-- What the reference's Prime asks. -/
def PrimeR (n : Nat) : Prop := n = 2 ∨ n = 7 ∨ n = 61 ∨ (2 < n ∧ n % 2 = 1 ∧ 0 < n % 7 ∧ 0 < n % 61 ∧ ∃ u k, n - 1 = u * 2 ^ k ∧ u % 2 = 1 ∧ Strong 2 n u k ∧ Strong 7 n u k ∧ Strong 61 n u k)

theorem odd_part {n : Nat} (h : 2 < n) (h2 : n ≤ 2147483647) : ∃ u k, n - 1 = u * 2 ^ k ∧ u % 2 = 1 := by
 obtain ⟨h1, k, hk⟩ := oddp_spec 32 (n - 1) (by omega) (by omega)
 exact ⟨_, k, hk, h1⟩
theorem Strong.same {a n u k v j : Nat} (h : Strong a n u k) (hu : u % 2 = 1) (hv : v % 2 = 1) (e1 : n - 1 = u * 2 ^ k) (e2 : n - 1 = v * 2 ^ j) : Strong a n v j := by
 have e := odd_unique hu hv (e1.symm.trans e2)
 subst e
 have hu0 : 0 < u := by omega
 have : k = j := by
  have e := Nat.eq_of_mul_eq_mul_left hu0 (e1.symm.trans e2)
  exact (Nat.pow_right_inj (by decide)).1 e
 subst this
 exact h

set_option maxHeartbeats 800000 in
set_option maxRecDepth 100000 in
theorem rprime_walk (n : Nat) (w : World) (hn2 : n ≤ 2147483647) :
  Calls Tryz.prog 187 #[.int .u32 n] w fun e w' => e = .returned (.bool (tr (PrimeR n))) ∧ w' = w := by
 go_enter Tryz.func187, Tryz.ntmps187
 by_cases h2 : n = 2
 ·subst h2; go_wp2; go_ret; rw [tr_pos (by simp [PrimeR])]; exact ⟨rfl, rfl⟩
 by_cases h7 : n = 7
 ·subst h7; go_wp2; go_ret; rw [tr_pos (by simp [PrimeR])]; exact ⟨rfl, rfl⟩
 by_cases h61 : n = 61
 ·subst h61; go_wp2; go_ret; rw [tr_pos (by simp [PrimeR])]; exact ⟨rfl, rfl⟩
 by_cases ho : 2 < n ∧ n % 2 = 1 ∧ 0 < n % 7 ∧ 0 < n % 61
 ·obtain ⟨ho1, ho2, ho3, ho4⟩ := ho
  obtain ⟨u, k, hk, hu⟩ := odd_part ho1 hn2
  have HK := Lib.hid hk
  clear hk
  have hp : PrimeR n ↔ Strong 2 n u k ∧ Strong 7 n u k ∧ Strong 61 n u k := by
   constructor
   ·rintro (h | h | h | ⟨_, _, _, _, v, j, e, hv, s2, s7, s61⟩)
    ·exact absurd h h2
    ·exact absurd h h7
    ·exact absurd h h61
    ·exact ⟨s2.same hv hu e HK.out, s7.same hv hu e HK.out, s61.same hv hu e HK.out⟩
   ·rintro ⟨s2, s7, s61⟩
    exact .inr (.inr (.inr ⟨ho1, ho2, ho3, ho4, u, k, HK.out, hu, s2, s7, s61⟩))
  have HP := Lib.hid hp
  clear hp
  go_wp2_with fail
  ·exfalso
   rename_i hh
   simp at hh
   omega
  refine (rstrong_walk 2 n u k _ (by omega) (by omega) (by omega) hu HK.out).mono ?_
  rintro e w1 ⟨rfl, rfl⟩
  generalize h2 : tr (Strong 2 n u k) = b2
  have H2 := Lib.hid h2
  clear h2
  cases b2
  ·go_wp2
   go_ret
   rw [tr_neg fun h => by have := H2.out; rw [tr_pos (HP.out.1 h).1] at this; exact absurd this (by simp)]
   exact ⟨rfl, rfl⟩
  go_wp2_with fail
  refine (rstrong_walk 7 n u k _ (by omega) (by omega) (by omega) hu HK.out).mono ?_
  rintro e w1 ⟨rfl, rfl⟩
  generalize h7 : tr (Strong 7 n u k) = b7
  have H7 := Lib.hid h7
  clear h7
  cases b7
  ·go_wp2
   go_ret
   rw [tr_neg fun h => by have := H7.out; rw [tr_pos (HP.out.1 h).2.1] at this; exact absurd this (by simp)]
   exact ⟨rfl, rfl⟩
  go_wp2_with fail
  refine (rstrong_walk 61 n u k _ (by omega) (by omega) (by omega) hu HK.out).mono ?_
  rintro e w1 ⟨rfl, rfl⟩
  generalize h61 : tr (Strong 61 n u k) = b61
  go_wp2
  go_ret
  have t : ∀ p : Prop, tr p = true → p := fun p h => @of_decide_eq_true p (Classical.propDecidable p) h
  rw [← h61, tr_iff (p := PrimeR n) (q := Strong 61 n u k) ⟨fun h => (HP.out.1 h).2.2, fun h => HP.out.2 ⟨t _ H2.out, t _ H7.out, h⟩⟩]
  exact ⟨rfl, rfl⟩
 ·have hf : ¬ PrimeR n := by
   rintro (h | h | h | ⟨a1, a2, a3, a4, _⟩)
   ·exact h2 h
   ·exact h7 h
   ·exact h61 h
   ·exact ho ⟨a1, a2, a3, a4⟩
  have HF := Lib.hid hf
  clear hf
  rw [tr_neg HF.out]
  have q1 : ((n : Int) == 2) = false := by simp; omega
  have q2 : ((n : Int) == 7) = false := by simp; omega
  have q3 : ((n : Int) == 61) = false := by simp; omega
  by_cases c1 : 2 < n
  ·by_cases c2 : n % 2 = 1
   ·by_cases c3 : 0 < n % 7
    ·have c4 : ¬ 0 < n % 61 := fun h => ho ⟨c1, c2, c3, h⟩
     clear ho
     go_wp2
     go_ret
     exact ⟨rfl, rfl⟩
    ·clear ho
     go_wp2
     go_ret
     exact ⟨rfl, rfl⟩
   ·clear ho
    go_wp2
    go_ret
    exact ⟨rfl, rfl⟩
  ·clear ho
   go_wp2
   go_ret
   exact ⟨rfl, rfl⟩
end Go.Proofs.YtmjildbdkecolaaGreat
