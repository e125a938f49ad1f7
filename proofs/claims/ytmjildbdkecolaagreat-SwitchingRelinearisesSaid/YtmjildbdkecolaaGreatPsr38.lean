/- What passes the strong tests to 2, 7 and 61 is a prime: the numbers that can stand in parameters. -/
import Derived.Test.YtmjildbdkecolaaGreatPsr02
import Derived.Test.YtmjildbdkecolaaGreatPsr09
import Derived.Test.YtmjildbdkecolaaGreatPsr08
import Derived.Test.YtmjildbdkecolaaGreatPsr06
set_option linter.unusedSimpArgs false
set_option linter.unusedVariables false
set_option linter.unnecessarySimpa false
namespace Go.Proofs.YtmjildbdkecolaaGreat
theorem evFB {r : Nat} (h1 : 3000 < r) (h2 : r ≤ 46400) (ho : r % 2 = 1) : midF r = true := by
 rcases Nat.lt_or_ge ((r - 3001) / 2) 7040 with h | h
 ·have := allB_sound evFB2 _ h
  rwa [show 2 * (1500 + (r - 3001) / 2) + 1 = r from by omega] at this
 ·rcases Nat.lt_or_ge ((r - 3001) / 2) 14400 with q | q
  ·have := allB_sound evFB3 ((r - 3001) / 2 - 7040) (by omega)
   rwa [show 2 * (8540 + ((r - 3001) / 2 - 7040)) + 1 = r from by omega] at this
  ·have := allB_sound evFB4 ((r - 3001) / 2 - 14400) (by omega)
   rwa [show 2 * (15900 + ((r - 3001) / 2 - 14400)) + 1 = r from by omega] at this
theorem Psp.none {n : Nat} (h : Psp n) : Pr n := by
 have lo := h.lo
 rcases Classical.em (Pr n) with hp | hp
 ·exact hp
 ·exfalso
  have cof : ∀ r, Pr r → r ∣ n → ∃ k, n = r * k ∧ 2 ≤ k := fun r hr ⟨k, hk⟩ => by
   refine ⟨k, hk, ?_⟩
   rcases Nat.lt_or_ge k 2 with q | q
   ·exfalso
    rcases Nat.eq_zero_or_pos k with z | z
    ·subst z; rw [Nat.mul_zero] at hk; omega
    ·have : k = 1 := by omega
     subst this
     rw [Nat.mul_one] at hk
     exact hp (hk ▸ hr)
   ·exact q
  refine h.noC hp (fun r hr hd => ?_) evFC
  rcases Nat.lt_or_ge 3000 r with q | q
  ·exfalso
   rcases Nat.lt_or_ge 46400 r with q2 | q2
   ·obtain ⟨k, hk, hk2⟩ := cof r hr hd
    exact h.noA hr hk hk2 q2 evFA
   ·exact h.noB hr hd q q2 (evFB q q2 (h.odd hd))
  ·exact q
theorem strong_prime {n u k : Nat} (hn : 2 ≤ n) (h8 : n % 8 = 1) (hr : n < 65536 ∨ (1073741824 < n ∧ n < 2147483648)) (huk : n - 1 = u * 2 ^ k) (hu : u % 2 = 1)
  (h2 : Strong 2 n u k) (h7 : Strong 7 n u k) (h61 : Strong 61 n u k) (d7 : n % 7 ≠ 0) (d61 : n % 61 ≠ 0) : Pr n := by
 have no := strong_no hn h8 hr huk hu h2 h7 h61
 have h31 : n < 2147483648 := by omega
 have s2 := strB_of hn h31 huk hu h2
 have s7 := strB_of hn h31 huk hu h7
 have s61 := strB_of hn h31 huk hu h61
 rcases hr with hr | ⟨hr1, hr2⟩
 ·refine lowF_prime hn hr s2 s7 s61 ?_
  have := allB_sound evFL ((n - 9) / 8) (by omega)
  rwa [show 8 * ((n - 9) / 8) + 9 = n from by omega] at this
 ·refine Psp.none ⟨hr1, hr2, h8, ?_, s2, s7, s61, ⟨h2.one hn huk, h7.one hn huk, h61.one hn huk⟩, ?_⟩
  rotate_left
  ·obtain ⟨d2, e2⟩ := h2.sg hn h31 (by omega) huk hu
   obtain ⟨d7, e7⟩ := h7.sg hn h31 (by omega) huk hu
   obtain ⟨d61, e61⟩ := h61.sg hn h31 (by omega) huk hu
   intro p q hp hpd hq hqd
   unfold sg
   rw [e2 p hp hpd, e7 p hp hpd, e61 p hp hpd, e2 q hq hqd, e7 q hq hqd, e61 q hq hqd]
  have c : ∀ l, Pr l → n % l ≠ 0 → Nat.Coprime n l := fun l hl h => by
   show Nat.gcd n l = 1
   rw [Nat.gcd_comm]
   exact hl.coprime (fun hd => h (Nat.mod_eq_zero_of_dvd hd))
  have e : 915915 = 3 * (5 * (7 * (11 * (13 * 61)))) := rfl
  show Nat.Coprime n 915915
  rw [e]
  refine .mul_right (c 3 (pr_of (by decide)) (by omega)) (.mul_right (c 5 (pr_of (by decide)) (by omega)) (.mul_right (c 7 (pr_of (by decide)) d7) (.mul_right (c 11 (pr_of (by decide)) (by omega)) (.mul_right (c 13 (pr_of (by decide)) (by omega)) (c 61 (pr_of (by decide +kernel)) d61)))))
end Go.Proofs.YtmjildbdkecolaaGreat
