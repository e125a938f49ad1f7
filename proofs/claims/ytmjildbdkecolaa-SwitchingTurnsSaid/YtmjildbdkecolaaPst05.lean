/- The strong tests to 2, 7 and 61, and the small divisors: the law for the numbers that can stand in parameters -/
import Derived.Test.YtmjildbdkecolaaPst03
import Derived.Test.YtmjildbdkecolaaPst01
set_option linter.unusedSimpArgs false
set_option linter.unusedVariables false
set_option linter.unnecessarySimpa false
namespace Go.Proofs.Ytmjildbdkecolaa

theorem pr_of {l : Nat} (h : 2 ≤ l ∧ ∀ d, d ≤ l → l % d = 0 → d = 1 ∨ d = l) : Pr l :=
 ⟨h.1, fun d hd => h.2 d (Nat.le_of_dvd (by have := h.1; omega) hd) (Nat.mod_eq_zero_of_dvd hd)⟩
theorem all_T {S : List Nat} (h : (S.all fun s => Nat.ble 1 s && Nat.ble s 46340) = true) : ∀ s ∈ S, 0 < s ∧ s ≤ 46340 := by
 intro s hs
 have := List.all_eq_true.1 h s hs
 rw [Bool.and_eq_true] at this
 exact ⟨(ble_iff _ _).1 this.1, (ble_iff _ _).1 this.2⟩
theorem isS3 : ∀ r, isSmall3 r = true → r ∈ small3 := by
 intro r h
 unfold isSmall3 at h
 unfold small3
 cases h3 : Nat.beq r 3 with
 | true => rw [(beq_iff _ _).1 h3]; decide
 | false =>
 rw [h3, cond_false] at h
 cases h19 : Nat.beq r 19 with
 | true => rw [(beq_iff _ _).1 h19]; decide
 | false =>
 rw [h19, cond_false] at h
 cases h83 : Nat.beq r 83 with
 | true => rw [(beq_iff _ _).1 h83]; decide
 | false =>
 rw [h83, cond_false] at h
 cases h131 : Nat.beq r 131 with
 | true => rw [(beq_iff _ _).1 h131]; decide
 | false =>
 rw [h131, cond_false] at h
 cases h283 : Nat.beq r 283 with
 | true => rw [(beq_iff _ _).1 h283]; decide
 | false =>
 rw [h283, cond_false] at h
 exact absurd h (by simp)
theorem isS5 : ∀ r, isSmall5 r = true → r ∈ small5 := by
 intro r h
 unfold isSmall5 at h
 unfold small5
 cases h5 : Nat.beq r 5 with
 | true => rw [(beq_iff _ _).1 h5]; decide
 | false =>
 rw [h5, cond_false] at h
 cases h13 : Nat.beq r 13 with
 | true => rw [(beq_iff _ _).1 h13]; decide
 | false =>
 rw [h13, cond_false] at h
 cases h229 : Nat.beq r 229 with
 | true => rw [(beq_iff _ _).1 h229]; decide
 | false =>
 rw [h229, cond_false] at h
 cases h269 : Nat.beq r 269 with
 | true => rw [(beq_iff _ _).1 h269]; decide
 | false =>
 rw [h269, cond_false] at h
 exact absurd h (by simp)
theorem isS13 : ∀ r, isSmall13 r = true → r ∈ small13 := by
 intro r h
 unfold isSmall13 at h
 unfold small13
 cases h5 : Nat.beq r 5 with
 | true => rw [(beq_iff _ _).1 h5]; decide
 | false =>
 rw [h5, cond_false] at h
 cases h13 : Nat.beq r 13 with
 | true => rw [(beq_iff _ _).1 h13]; decide
 | false =>
 rw [h13, cond_false] at h
 cases h229 : Nat.beq r 229 with
 | true => rw [(beq_iff _ _).1 h229]; decide
 | false =>
 rw [h229, cond_false] at h
 cases h269 : Nat.beq r 269 with
 | true => rw [(beq_iff _ _).1 h269]; decide
 | false =>
 rw [h269, cond_false] at h
 exact absurd h (by simp)
theorem isS11 : ∀ r, isSmall11 r = true → r ∈ small11 := by
 intro r h
 unfold isSmall11 at h
 unfold small11
 cases h11 : Nat.beq r 11 with
 | true => rw [(beq_iff _ _).1 h11]; decide
 | false =>
 rw [h11, cond_false] at h
 cases h43 : Nat.beq r 43 with
 | true => rw [(beq_iff _ _).1 h43]; decide
 | false =>
 rw [h43, cond_false] at h
 cases h67 : Nat.beq r 67 with
 | true => rw [(beq_iff _ _).1 h67]; decide
 | false =>
 rw [h67, cond_false] at h
 cases h211 : Nat.beq r 211 with
 | true => rw [(beq_iff _ _).1 h211]; decide
 | false =>
 rw [h211, cond_false] at h
 exact absurd h (by simp)
theorem none3 {q : Nat} (h1 : 1073741824 < q) (h2 : q < 2147483648) (h8 : q % 8 = 1) (hq : 3 ∣ q) (hc : cls3.conds (oddp 32 (q - 1)) q = true) : False :=
 cls3.nothing small3 great3 isSmall3 121 (pr_of (by decide)) (by decide) (by decide) (all_T evT3) isS3 (by decide) (List.all_eq_true.1 evS3) evA3 (by decide) evB3 evB3' evC3 h1 h2 h8 hq hc
theorem none5 {q : Nat} (h1 : 1073741824 < q) (h2 : q < 2147483648) (h8 : q % 8 = 1) (hq : 5 ∣ q) (hc : cls5.conds (oddp 32 (q - 1)) q = true) : False :=
 cls5.nothing small5 great5 isSmall5 73 (pr_of (by decide)) (by decide) (by decide) (all_T evT5) isS5 (by decide) (List.all_eq_true.1 evS5) evA5 (by decide) evB5 evB5' evC5 h1 h2 h8 hq hc
theorem none13 {q : Nat} (h1 : 1073741824 < q) (h2 : q < 2147483648) (h8 : q % 8 = 1) (hq : 13 ∣ q) (hc : cls13.conds (oddp 32 (q - 1)) q = true) : False :=
 cls13.nothing small13 great13 isSmall13 28 (pr_of (by decide)) (by decide) (by decide) (all_T evT13) isS13 (by decide) (List.all_eq_true.1 evS13) evA13 (by decide) evB13 evB13' evC13 h1 h2 h8 hq hc
theorem none11 {q : Nat} (h1 : 1073741824 < q) (h2 : q < 2147483648) (h8 : q % 8 = 1) (hq : 11 ∣ q) (hc : cls11.conds (oddp 32 (q - 1)) q = true) : False :=
 cls11.nothing small11 great11 isSmall11 33 (pr_of (by decide)) (by decide) (by decide) (all_T evT11) isS11 (by decide) (List.all_eq_true.1 evS11) evA11 (by decide) evB11 evB11' evC11 h1 h2 h8 hq hc
/-- The numbers below 2^16. -/
theorem evLow : allB (fun i => cls3.ref (8 * i + 9) && cls5.ref (8 * i + 9) && cls13.ref (8 * i + 9) && cls11.ref (8 * i + 9)) 128 = true := by decide +kernel
theorem low_no (c : Cls) {q : Nat} (h1 : 2 ≤ q) (h2 : q < 65536) (h8 : q % 8 = 1) (hr : c.ref q = true) (hq : c.l ∣ q) (hc : c.conds (oddp 32 (q - 1)) q = true) : False := by
 rw [c.ref_no h1 (by omega) h8 hq hc] at hr
 exact absurd hr (by simp)
theorem dvd_of_some {n : Nat} (h : n % 3 = 0 ∨ n % 5 = 0 ∨ n % 11 = 0 ∨ n % 13 = 0) : 3 ∣ n ∨ 5 ∣ n ∨ 11 ∣ n ∨ 13 ∣ n := by omega

/-- What passes the strong tests to 2, 7 and 61, and is 1 modulo 8, and either is below 2^16 or stands between 2^30 and 2^31, none of 3, 5, 11 and 13 divides. -/
theorem strong_no {n u k : Nat} (hn : 2 ≤ n) (h8 : n % 8 = 1) (hr : n < 65536 ∨ (1073741824 < n ∧ n < 2147483648)) (huk : n - 1 = u * 2 ^ k) (hu : u % 2 = 1)
  (h2 : Strong 2 n u k) (h7 : Strong 7 n u k) (h61 : Strong 61 n u k) : ¬ (n % 3 = 0 ∨ n % 5 = 0 ∨ n % 11 = 0 ∨ n % 13 = 0) := by
 intro hd
 obtain ⟨ho, j, hj⟩ := oddp_spec 32 (n - 1) (by omega) (by omega)
 have e : oddp 32 (n - 1) = u := odd_unique (j := j) (k := k) ho hu (by rw [← hj, huk])
 have hd' := dvd_of_some hd
 rcases hr with hr | ⟨hr1, hr2⟩
 ·have h := allB_sound evLow ((n - 9) / 8) (by omega)
  rw [show 8 * ((n - 9) / 8) + 9 = n from by omega] at h
  simp only [Bool.and_eq_true] at h
  obtain ⟨⟨⟨r3, r5⟩, r13⟩, r11⟩ := h
  rcases hd' with hl | hl | hl | hl
  ·exact low_no cls3 hn hr h8 r3 hl (by rw [e]; exact conds3 hn hl hu h2 h7 h61)
  ·exact low_no cls5 hn hr h8 r5 hl (by rw [e]; exact conds5 hn hl hu h2 h7 h61)
  ·exact low_no cls11 hn hr h8 r11 hl (by rw [e]; exact conds11 hn hl hu h2 h7 h61)
  ·exact low_no cls13 hn hr h8 r13 hl (by rw [e]; exact conds13 hn hl hu h2 h7 h61)
 ·rcases hd' with hl | hl | hl | hl
  ·exact none3 hr1 hr2 h8 hl (by rw [e]; exact conds3 hn hl hu h2 h7 h61)
  ·exact none5 hr1 hr2 h8 hl (by rw [e]; exact conds5 hn hl hu h2 h7 h61)
  ·exact none11 hr1 hr2 h8 hl (by rw [e]; exact conds11 hn hl hu h2 h7 h61)
  ·exact none13 hr1 hr2 h8 hl (by rw [e]; exact conds13 hn hl hu h2 h7 h61)
end Go.Proofs.Ytmjildbdkecolaa
