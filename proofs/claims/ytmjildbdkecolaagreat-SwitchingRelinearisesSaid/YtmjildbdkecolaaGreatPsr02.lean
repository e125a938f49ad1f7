/- What the checks mean: no number between 2^30 and 2^31 of a class passes
The classes: which bases, with which signs, and which small primes
The class of 11: what the kernel evaluates
The class of 13: what the kernel evaluates
The class of 3: what the kernel evaluates
The class of 5: what the kernel evaluates
The strong test, and the class that a divisor puts a number in
The strong tests to 2, 7 and 61, and the small divisors: the law for the numbers that can stand in parameters -/
import Derived.Test.YtmjildbdkecolaaGreatPsr01
set_option linter.unusedSimpArgs false
set_option linter.unusedVariables false
set_option linter.unnecessarySimpa false
namespace Go.Proofs.YtmjildbdkecolaaGreat

def prodL : List Nat → Nat
 | [] => 1
 | s :: S => s * prodL S
theorem Pr.prodL {r : Nat} (hr : Pr r) : ∀ S : List Nat, r ∣ Go.Proofs.YtmjildbdkecolaaGreat.prodL S → ∃ s ∈ S, r ∣ s
 | [], h => by
  have := Nat.le_of_dvd Nat.one_pos h
  have := hr.1
  omega
 | s :: S, h => by
  rcases hr.mul h with h1 | h1
  ·exact ⟨s, List.mem_cons_self .., h1⟩
  ·obtain ⟨x, hx, hd⟩ := hr.prodL S h1
   exact ⟨x, List.mem_cons_of_mem _ hx, hd⟩
theorem sqfree_le : ∀ (S : List Nat) (m : Nat), 0 < m → (∀ p, Pr p → p ∣ m → p ∈ S) → (∀ p, Pr p → p ∣ m → ¬ p * p ∣ m) →
  (∀ s ∈ S, 0 < s) → m ≤ prodL S
 | [], m, h0, h1, _, _ => by
  rcases Nat.lt_or_ge m 2 with h | h
  ·show m ≤ 1; omega
  ·obtain ⟨p, hp, hd⟩ := exists_pr m m (Nat.le_refl _) h
   exact absurd (h1 p hp hd) (by simp)
 | s :: S, m, h0, h1, h2, h3 => by
  have h3' : ∀ x ∈ S, 0 < x := fun x hx => h3 x (List.mem_cons_of_mem _ hx)
  by_cases h : Pr s ∧ s ∣ m
  ·obtain ⟨hp, z, rfl⟩ := h
   have hz : 0 < z := by
    rcases Nat.eq_zero_or_pos z with h | h
    ·subst h; exact absurd h0 (by simp)
    ·exact h
   refine Nat.mul_le_mul_left s (sqfree_le S z hz ?_ ?_ h3')
   ·intro p hp' hd
    rcases List.mem_cons.1 (h1 p hp' (Nat.dvd_trans hd (Nat.dvd_mul_left _ _))) with e | e
    ·subst e
     exact absurd (Nat.mul_dvd_mul_left p hd) (h2 p hp' (Nat.dvd_mul_right _ _))
    ·exact e
   ·intro p hp' hd hh
    exact h2 p hp' (Nat.dvd_trans hd (Nat.dvd_mul_left _ _)) (Nat.dvd_trans hh (Nat.dvd_mul_left _ _))
  ·have := sqfree_le S m h0 (fun p hp hd => by
    rcases List.mem_cons.1 (h1 p hp hd) with e | e
    ·subst e; exact absurd ⟨hp, hd⟩ h
    ·exact e) h2 h3'
   refine Nat.le_trans this ?_
   have := Nat.mul_le_mul_right (prodL S) (h3 s (List.mem_cons_self ..))
   rwa [Nat.one_mul] at this

theorem beq_false {a b : Nat} (h : a ≠ b) : Nat.beq a b = false := by
 cases hb : Nat.beq a b with
 | false => rfl
 | true => exact absurd ((beq_iff _ _).1 hb) h
theorem ble_iff (a b : Nat) : Nat.ble a b = true ↔ a ≤ b := ⟨Nat.le_of_ble_eq_true, Nat.ble_eq_true_of_le⟩
theorem ble_false {a b : Nat} (h : ¬ a ≤ b) : Nat.ble a b = false := by
 cases hb : Nat.ble a b with
 | false => rfl
 | true => exact absurd ((ble_iff _ _).1 hb) h

/-- The exponents that a prime divisor shares divide the cofactor minus one. -/
theorem share_cof {r c u q : Nat} (hr : 2 ≤ r) (hc : 1 ≤ c) (hq : q = r * c) (hu : u ∣ q - 1) : Nat.gcd u (r - 1) ∣ c - 1 := by
 have h1 : Nat.gcd u (r - 1) ∣ q - 1 := Nat.dvd_trans (Nat.gcd_dvd_left _ _) hu
 have h2 : Nat.gcd u (r - 1) ∣ (r - 1) * c := Nat.dvd_trans (Nat.gcd_dvd_right _ _) (Nat.dvd_mul_right _ _)
 have e : q - 1 = (r - 1) * c + (c - 1) := by
  rw [hq, Nat.mul_comm r c, Nat.mul_comm (r - 1) c, Nat.mul_sub, Nat.mul_one]
  have := Nat.mul_le_mul_left c hr
  omega
 rw [e] at h1
 exact (Nat.dvd_add_right h2).1 h1

theorem pone_minus {x u q : Nat} (hq : 2 ≤ q) (h : pone x true u q = true) : x ^ u % q = q - 1 := by
 have h' : (x ^ u + 1) % q = 0 := (beq_iff _ _).1 h
 have hlt := Nat.mod_lt (x ^ u) (show 0 < q by omega)
 rw [Nat.add_mod, Nat.mod_eq_of_lt (show 1 < q by omega)] at h'
 generalize x ^ u % q = y at *
 rcases Nat.lt_or_ge (y + 1) q with h1 | h1
 ·rw [Nat.mod_eq_of_lt h1] at h'; omega
 ·omega
theorem Cls.ref_no (c : Cls) {q : Nat} (h1 : 2 ≤ q) (h2 : q < 2147483648) (h8 : q % 8 = 1) (hq : c.l ∣ q)
  (hc : c.conds (oddp 32 (q - 1)) q = true) : c.ref q = false := by
 have hw := oddp_spec 32 (q - 1) (by omega) (by omega)
 have hlt : oddp 32 (q - 1) < 2 ^ 32 := by
  obtain ⟨_, k, hk⟩ := hw
  have := Nat.mul_le_mul_left (oddp 32 (q - 1)) (show 1 ≤ 2 ^ k from Nat.pow_pos (by omega))
  omega
 obtain ⟨p1, p2, _⟩ := (c.conds_iff _ _).1 hc
 unfold Cls.ref
 rw [(beq_iff _ _).2 h8, (beq_iff _ _).2 (Nat.mod_eq_zero_of_dvd hq)]
 rw [pm_spec _ _ _ _ hlt, pm_spec _ _ _ _ hlt]
 cases hs1 : c.s1 with
 | false => rfl
 | true =>
  rw [hs1] at p1
  rw [(beq_iff _ _).2 (pone_minus (by omega) p1)]
  cases hs2 : c.s2 with
  | true =>
   rw [hs2] at p2
   rw [(beq_iff _ _).2 (pone_minus (by omega) p2)]
   rfl
  | false =>
   rw [hs2] at p2
   have p3 : c.x2 ^ oddp 32 (q - 1) % q = 1 % q := (beq_iff _ _).1 p2
   rw [Nat.mod_eq_of_lt (show 1 < q by omega)] at p3
   rw [p3]
   rfl
theorem Cls.noA (c : Cls) (T : List Nat) (nA : Nat) (hl : Pr c.l) (hl3 : c.l ≤ 300) (hT : ∀ s ∈ T, 0 < s ∧ s ≤ 46340)
  (hA : c.chkA (prodL T) nA = true) (hn : 46340 < c.l * (2 * (64 * nA) + 1))
  {q r : Nat} (h1 : 1073741824 < q) (h2 : q < 2147483648) (h8 : q % 8 = 1) (hq : c.l ∣ q) (hc : c.conds (oddp 32 (q - 1)) q = true)
  (hr : Pr r) (hd : r ∣ q) (hr3 : 46340 < r) : False := by
 obtain ⟨huo, j0, hj0⟩ := oddp_spec 32 (q - 1) (by omega) (by omega)
 have hu : oddp 32 (q - 1) ∣ q - 1 := ⟨2 ^ j0, hj0⟩
 have hrefno := c.ref_no (by omega) h2 h8 hq hc
 generalize oddp 32 (q - 1) = u at *
 obtain ⟨k, hk⟩ := hd
 have hk1 : k ≤ 46340 := by
  rcases Nat.lt_or_ge 46340 k with h | h
  ·have := Nat.mul_le_mul (show 46341 ≤ r from hr3) (show 46341 ≤ k from h)
   omega
  ·exact h
 have hlk : c.l ∣ k := by
  rw [hk] at hq
  rcases hl.mul hq with h | h
  ·rcases hr.2 _ h with h' | h'
   ·have := hl.1; omega
   ·omega
  ·exact h
 have hk0 : 1 ≤ k := by
  rcases Nat.eq_zero_or_pos k with h | h
  ·subst h; rw [Nat.mul_zero] at hk; omega
  ·exact h
 have hk2 : 2 ≤ k := by have := Nat.le_of_dvd hk0 hlk; have := hl.1; omega
 obtain ⟨m, hm⟩ := hlk
 have hqo : q % 2 = 1 := by omega
 have hko : k % 2 = 1 := dvd_odd ⟨r, by rw [hk, Nat.mul_comm]⟩ hqo
 have hmo : m % 2 = 1 := dvd_odd ⟨c.l, by rw [hm, Nat.mul_comm]⟩ hko
 obtain ⟨i, hi⟩ : ∃ i, m = 2 * i + 1 := ⟨m / 2, by omega⟩
 have hin : i < 64 * nA := by
  rcases Nat.lt_or_ge i (64 * nA) with h | h
  ·exact h
  ·have : c.l * (2 * (64 * nA) + 1) ≤ c.l * m := Nat.mul_le_mul_left _ (by omega)
   omega
 have hs : c.small (prodL T) (c.l * (2 * i + 1)) = true := allB_sound hA i hin
 rw [← hi, ← hm] at hs
 have hw := oddp_spec 20 (k - 1) (by omega) (by omega)
 have hg : Nat.gcd u (r - 1) ∣ oddp 20 (k - 1) := by
  obtain ⟨_, j, hj⟩ := hw
  have h := share_cof hr.1 hk0 hk hu
  rw [hj] at h
  exact odd_dvd (dvd_odd (Nat.gcd_dvd_left _ _) huo) j h
 have hcw := c.share hr huo ⟨k, hk⟩ hc hw.1 hg
 obtain ⟨v1, v2, v3⟩ := (c.conds_iff _ _).1 hcw
 have g1 : r ∣ Nat.gcd (val c.x1 c.s1 (oddp 20 (k - 1))) (val c.x2 c.s2 (oddp 20 (k - 1))) := Nat.dvd_gcd (val_dvd v1) (val_dvd v2)
 have g2 : r ∣ Nat.gcd (Nat.gcd (val c.x1 c.s1 (oddp 20 (k - 1))) (val c.x2 c.s2 (oddp 20 (k - 1)))) (val c.x3 c.s3 (oddp 20 (k - 1))) :=
  Nat.dvd_gcd g1 (val_dvd v3)
 unfold Cls.small at hs
 rw [beq_false (show k ≠ 1 by omega)] at hs
 dsimp only at hs
 generalize Nat.gcd (val c.x1 c.s1 (oddp 20 (k - 1))) (val c.x2 c.s2 (oddp 20 (k - 1))) = G at *
 generalize hG2 : Nat.gcd G (val c.x3 c.s3 (oddp 20 (k - 1))) = G2 at *
 by_cases hG : G = 0
 ·subst hG
  exact absurd hs (by simp [Nat.beq])
 ·have hle := Nat.le_of_dvd (by omega) g1
  rw [beq_false hG, ble_false (by omega)] at hs
  have hG2p : 0 < G2 := by rw [← hG2]; exact Nat.gcd_pos_of_pos_left _ (by omega)
  have hle2 := Nat.le_of_dvd hG2p g2
  rw [ble_false (by omega)] at hs
  have hs : c.rest k (G2 / Nat.gcd G2 (prodL T * prodL T)) = true := hs
  have hnT : ¬ r ∣ prodL T := by
   intro this
   obtain ⟨s, hs1, hs2⟩ := hr.prodL T this
   have := hT s hs1
   have := Nat.le_of_dvd (by omega) hs2
   omega
  have hrest : r ∣ G2 / Nat.gcd G2 (prodL T * prodL T) := by
   have e : G2 = Nat.gcd G2 (prodL T * prodL T) * (G2 / Nat.gcd G2 (prodL T * prodL T)) := (Nat.mul_div_cancel' (Nat.gcd_dvd_left _ _)).symm
   rw [e] at g2
   rcases hr.mul g2 with h | h
   ·have := Nat.dvd_trans h (Nat.gcd_dvd_right _ _)
    exact absurd (by rcases hr.mul this with h | h <;> exact h) hnT
   ·exact h
  have hH : 0 < G2 / Nat.gcd G2 (prodL T * prodL T) :=
   Nat.div_pos (Nat.le_of_dvd hG2p (Nat.gcd_dvd_left _ _)) (Nat.gcd_pos_of_pos_left _ hG2p)
  generalize G2 / Nat.gcd G2 (prodL T * prodL T) = H at *
  have hleH := Nat.le_of_dvd hH hrest
  unfold Cls.rest at hs
  rw [ble_false (by omega), cond_false] at hs
  obtain ⟨m', hm'⟩ := hrest
  have hm0 : 0 < m' := by
   rcases Nat.eq_zero_or_pos m' with h | h
   ·subst h; rw [Nat.mul_zero] at hm'; omega
   ·exact h
  have hmle : m' ≤ H / 46341 := by
   rw [Nat.le_div_iff_mul_le (by omega), hm', Nat.mul_comm]
   exact Nat.mul_le_mul_right _ (by omega)
  have := allB_sound hs m' (by omega)
  rw [beq_false (by omega), (beq_iff _ _).2 (Nat.mod_eq_zero_of_dvd ⟨r, by rw [hm', Nat.mul_comm]⟩),
   show H / m' = r from by rw [hm']; exact Nat.mul_div_cancel _ hm0, ← hk, ble_false (by omega), ble_false (by omega), hrefno] at this
  exact absurd this (by simp)

theorem Cls.enum_no (c : Cls) {q r g k : Nat} (hr : 2 ≤ r) (hg : 0 < g) (hk : q = r * (1 + g * k)) (h1 : 1073741824 < q) (h2 : q < 2147483648)
  (h8 : q % 8 = 1) (hq : c.l ∣ q) (hc : c.conds (oddp 32 (q - 1)) q = true) : c.enum r g = false := by
 cases he : c.enum r g with
 | false => rfl
 | true =>
  have a1 : 1073741824 / r ≤ g * k := by
   have : 1073741824 / r < 1 + g * k := (Nat.div_lt_iff_lt_mul (by omega)).2 (by rw [Nat.mul_comm]; omega)
   omega
  have a2 : 1073741824 / r / g ≤ k := by
   have := Nat.div_le_div_right (c := g) a1
   rwa [Nat.mul_div_cancel_left _ hg] at this
  have a3 : k ≤ 2147483648 / (r * g) := by
   rw [Nat.le_div_iff_mul_le (Nat.mul_pos (by omega) hg)]
   have : r * (1 + g * k) = r + k * (r * g) := by
    rw [Nat.mul_add, Nat.mul_one, ← Nat.mul_assoc, Nat.mul_comm (r * g)]
   omega
  have h := allB_sound he (k - 1073741824 / r / g) (by omega)
  rw [show 1073741824 / r / g + (k - 1073741824 / r / g) = k from by omega, ← hk, c.ref_no (by omega) h2 h8 hq hc] at h
  exact absurd h (by simp)
theorem Cls.noB (c : Cls) (hB1 : c.chkB 150 20 = true) (hB2 : c.chkB 1430 340 = true)
  {q r : Nat} (h1 : 1073741824 < q) (h2 : q < 2147483648) (h8 : q % 8 = 1) (hq : c.l ∣ q) (hc : c.conds (oddp 32 (q - 1)) q = true)
  (hr : Pr r) (hd : r ∣ q) (hr1 : 300 < r) (hr3 : r ≤ 46340) : False := by
 have hqo : q % 2 = 1 := by omega
 have hro := dvd_odd hd hqo
 have hm : c.mid r = true := by
  rcases Nat.lt_or_ge ((r - 301) / 2) (64 * 20) with h | h
  ·have := allB_sound hB1 _ h
   rwa [show 2 * (150 + (r - 301) / 2) + 1 = r from by omega] at this
  ·have := allB_sound hB2 ((r - 301) / 2 - 1280) (by omega)
   rwa [show 2 * (1430 + ((r - 301) / 2 - 1280)) + 1 = r from by omega] at this
 obtain ⟨huo, j, hj⟩ := oddp_spec 32 (q - 1) (by omega) (by omega)
 obtain ⟨k, hk⟩ := hd
 have hk0 : 1 ≤ k := by
  rcases Nat.eq_zero_or_pos k with h | h
  ·subst h; rw [Nat.mul_zero] at hk; omega
  ·exact h
 have hud : oddp 32 (q - 1) ∣ q - 1 := ⟨2 ^ j, hj⟩
 have hgc := share_cof hr.1 hk0 hk hud
 have hgo : Nat.gcd (oddp 32 (q - 1)) (r - 1) % 2 = 1 := dvd_odd (Nat.gcd_dvd_left _ _) huo
 obtain ⟨hwo, i, hi⟩ := oddp_spec 20 (r - 1) (by omega) (by omega)
 have hgw : Nat.gcd (oddp 32 (q - 1)) (r - 1) ∣ oddp 20 (r - 1) := by
  have h := Nat.gcd_dvd_right (oddp 32 (q - 1)) (r - 1)
  refine odd_dvd hgo i ?_
  rw [← hi]
  exact h
 have cw := c.share hr huo ⟨k, hk⟩ hc hwo hgw
 have cg := c.share hr huo ⟨k, hk⟩ hc hgo (Nat.dvd_refl _)
 unfold Cls.mid at hm
 dsimp only at hm
 have hwlt : oddp 20 (r - 1) < 25600 := by
  cases i with
  | zero => rw [Nat.pow_zero, Nat.mul_one] at hi; omega
  | succ i =>
   rw [Nat.pow_succ, ← Nat.mul_assoc] at hi
   have := Nat.mul_le_mul_left (oddp 20 (r - 1)) (show 1 ≤ 2 ^ i from Nat.pow_pos (by omega))
   omega
 rw [cw, cond_true] at hm
 generalize oddp 20 (r - 1) = w at *
 generalize hgg : Nat.gcd (oddp 32 (q - 1)) (r - 1) = g at *
 have hg0 : 0 < g := by omega
 obtain ⟨kk, hkk⟩ := hgc
 have en := c.enum_no (k := kk) hr.1 hg0 (by rw [← hkk, hk]; congr 1; omega) h1 h2 h8 hq hc
 obtain ⟨d, hd⟩ := hgw
 have hd0 : 0 < d := by
  rcases Nat.eq_zero_or_pos d with h | h
  ·subst h; rw [Nat.mul_zero] at hd; omega
  ·exact h
 rcases Nat.lt_or_ge g 160 with h | h
 ·have := allN_sound _ 160 hm g h
  rw [beq_false (by omega), (beq_iff _ _).2 (Nat.mod_eq_zero_of_dvd ⟨d, hd⟩), cg, en] at this
  exact absurd this (by simp)
 ·have hd1 : d < 160 := by
   rcases Nat.lt_or_ge d 160 with h' | h'
   ·exact h'
   ·have := Nat.mul_le_mul h h'; omega
  have := allN_sound _ 160 hm d hd1
  rw [beq_false (by omega), (beq_iff _ _).2 (Nat.mod_eq_zero_of_dvd ⟨g, by rw [hd, Nat.mul_comm]⟩),
   show w / d = g from by rw [hd]; exact Nat.mul_div_cancel _ hd0, cg, en] at this
  cases c.conds d r <;> cases c.enum r d <;> exact absurd this (by simp)

/-- The order modulo s squared is divisible by s. -/
def Cls.sqs (c : Cls) (s : Nat) : Bool :=
 cond (Nat.beq (oddp 20 (s * (s - 1))) (s * oddp 20 (s - 1))) (cond (pone c.x1 c.s1 (oddp 20 (s * (s - 1))) (s * s))
  (cond (pone c.x1 c.s1 (oddp 20 (s - 1)) (s * s)) false true) false) false
theorem Cls.no_square (c : Cls) {q u s : Nat} (hs : Pr s) (hs3 : s ≤ 300) (h2 : 2 < s) (hq : 1 ≤ q) (huo : u % 2 = 1) (hu : u ∣ q - 1)
  (hc : c.conds u q = true) (h : c.sqs s = true) : ¬ s * s ∣ q := by
 intro hd
 have hss : s * (s - 1) < 2 ^ 20 := by
  have := Nat.mul_le_mul hs3 (show s - 1 ≤ 300 by omega)
  omega
 have hsp : 0 < s * (s - 1) := Nat.mul_pos (by omega) (by omega)
 have h22 : 2 ≤ s * s := by have := Nat.mul_le_mul (show 2 ≤ s by omega) (show 2 ≤ s by omega); omega
 obtain ⟨w1, _⟩ := oddp_spec 20 (s * (s - 1)) hsp hss
 obtain ⟨w2, _⟩ := oddp_spec 20 (s - 1) (by omega) (by omega)
 unfold Cls.sqs at h
 cases hb : Nat.beq (oddp 20 (s * (s - 1))) (s * oddp 20 (s - 1)) with
 | false => rw [hb] at h; exact absurd h (by simp)
 | true =>
  rw [hb] at h
  have hb := (beq_iff _ _).1 hb
  cases hp : pone c.x1 c.s1 (oddp 20 (s * (s - 1))) (s * s) with
  | false => rw [hp] at h; exact absurd h (by simp)
  | true =>
   rw [hp] at h
   have o1 := (pone_iff _ w1 h22).1 hp
   have o2 := (pone_iff c.s1 huo h22).1 (pone_sub ((c.conds_iff _ _).1 hc).1 hd)
   have o3 := One.gcd _ _ o2 o1
   have hsu : ¬ s ∣ u := by
    intro hh
    have e1 := Nat.dvd_trans hh hu
    have e2 := Nat.dvd_trans (Nat.dvd_mul_right s s) hd
    have e3 : s ∣ 1 := by
     have : q = (q - 1) + 1 := by omega
     rw [this] at e2
     exact (Nat.dvd_add_right e1).1 e2
    have := Nat.le_of_dvd Nat.one_pos e3
    omega
   have hg : Nat.gcd u (oddp 20 (s * (s - 1))) ∣ oddp 20 (s - 1) := by
    have e1 := Nat.gcd_dvd_right u (oddp 20 (s * (s - 1)))
    rw [hb] at e1 ⊢
    have e2 := Nat.gcd_dvd_left u (s * oddp 20 (s - 1))
    have hcop : Nat.Coprime (Nat.gcd u (s * oddp 20 (s - 1))) s := by
     show Nat.gcd _ s = 1
     rw [Nat.gcd_comm]
     exact hs.coprime fun hh => hsu (Nat.dvd_trans hh e2)
    exact hcop.dvd_of_dvd_mul_left e1
   have := (pone_iff c.s1 w2 h22).2 (o3.dvd hg)
   rw [this] at h
   exact absurd h (by simp)
theorem Cls.noC (c : Cls) (S : List Nat) (isS : Nat → Bool) (hS : ∀ r, isS r = true → r ∈ S) (hC : allB (fun r => c.low isS r) 5 = true)
  {q u r : Nat} (h8 : q % 8 = 1) (huo : u % 2 = 1) (hc : c.conds u q = true)
  (hr : Pr r) (hd : r ∣ q) (hr3 : r ≤ 300) : r ∈ S ∧ 2 < r := by
 have hro := dvd_odd hd (by omega : q % 2 = 1)
 have hr2 := hr.1
 have hlow : c.low isS r = true := allB_sound hC r (by omega)
 obtain ⟨hwo, i, hi⟩ := oddp_spec 20 (r - 1) (by omega) (by omega)
 have hgo : Nat.gcd u (r - 1) % 2 = 1 := dvd_odd (Nat.gcd_dvd_left _ _) huo
 have hgw : Nat.gcd u (r - 1) ∣ oddp 20 (r - 1) := by
  refine odd_dvd hgo i ?_
  rw [← hi]
  exact Nat.gcd_dvd_right _ _
 have cw := c.share hr huo hd hc hwo hgw
 refine ⟨?_, by omega⟩
 cases hs : isS r with
 | true => exact hS r hs
 | false =>
  exfalso
  unfold Cls.low at hlow
  rw [beq_false (by omega), ble_false (by omega), hs, cw] at hlow
  have : allN (fun d => cond (Nat.ble d 1) true (cond (Nat.beq (r % d) 0) (Nat.beq d r) true)) 18 = true := by
   have key : ∀ n, allN (fun d => cond (Nat.ble d 1) true (cond (Nat.beq (r % d) 0) (Nat.beq d r) true)) n = true := by
    intro n
    induction n with
    | zero => rfl
    | succ n ih =>
     show cond (cond (Nat.ble n 1) true (cond (Nat.beq (r % n) 0) (Nat.beq n r) true)) (allN _ n) false = true
     rw [ih]
     by_cases h1 : n ≤ 1
     ·rw [(ble_iff _ _).2 h1]; rfl
     ·rw [ble_false h1]
      by_cases h2 : r % n = 0
      ·rw [(beq_iff _ _).2 h2]
       have : n = r := by
        rcases hr.2 n (Nat.dvd_of_mod_eq_zero h2) with h | h
        ·omega
        ·exact h
       rw [(beq_iff _ _).2 this]; rfl
      ·rw [beq_false h2]; rfl
   exact key 18
  rw [this] at hlow
  exact absurd hlow (by simp)

/-- No number between 2^30 and 2^31 that is 1 modulo 8 and that the class's prime divides passes. -/
theorem Cls.nothing (c : Cls) (S T : List Nat) (isS : Nat → Bool) (nA : Nat) (hl : Pr c.l) (hl3 : c.l ≤ 300) (hS : ∀ s ∈ S, 0 < s) (hT : ∀ s ∈ T, 0 < s ∧ s ≤ 46340)
  (hSi : ∀ r, isS r = true → r ∈ S) (hP : prodL S < 1073741824) (hsq : ∀ s ∈ S, c.sqs s = true)
  (hA : c.chkA (prodL T) nA = true) (hn : 46340 < c.l * (2 * (64 * nA) + 1)) (hB1 : c.chkB 150 20 = true) (hB2 : c.chkB 1430 340 = true)
  (hC : allB (fun r => c.low isS r) 5 = true)
  {q : Nat} (h1 : 1073741824 < q) (h2 : q < 2147483648) (h8 : q % 8 = 1) (hq : c.l ∣ q) (hc : c.conds (oddp 32 (q - 1)) q = true) : False := by
 obtain ⟨huo, j, hj⟩ := oddp_spec 32 (q - 1) (by omega) (by omega)
 have hud : oddp 32 (q - 1) ∣ q - 1 := ⟨2 ^ j, hj⟩
 have small : ∀ r, Pr r → r ∣ q → r ≤ 300 := by
  intro r hr hd
  rcases Nat.lt_or_ge 300 r with h | h
  ·rcases Nat.lt_or_ge 46340 r with h' | h'
   ·exact (c.noA T nA hl hl3 hT hA hn h1 h2 h8 hq hc hr hd h').elim
   ·exact (c.noB hB1 hB2 h1 h2 h8 hq hc hr hd h h').elim
  ·exact h
 have mem : ∀ r, Pr r → r ∣ q → r ∈ S ∧ 2 < r := fun r hr hd => c.noC S isS hSi hC h8 huo hc hr hd (small r hr hd)
 have := sqfree_le S q (by omega) (fun p hp hd => (mem p hp hd).1)
  (fun p hp hd => c.no_square hp (small p hp hd) (mem p hp hd).2 (by omega) huo hud hc (hsq p (mem p hp hd).1)) hS
 omega
/-- The numbers that 3 divides. -/
def cls3 : Cls := ⟨3, 2, true, 7, false, 61, false⟩
def small3 : List Nat := [3, 19, 83, 131, 283]
def isSmall3 (r : Nat) : Bool := cond (Nat.beq r 3) true ( cond (Nat.beq r 19) true ( cond (Nat.beq r 83) true ( cond (Nat.beq r 131) true ( cond (Nat.beq r 283) true (false)))))
/-- The numbers that 5 divides. -/
def cls5 : Cls := ⟨5, 4, true, 49, true, 61, false⟩
def small5 : List Nat := [5, 13, 229, 269]
def isSmall5 (r : Nat) : Bool := cond (Nat.beq r 5) true ( cond (Nat.beq r 13) true ( cond (Nat.beq r 229) true ( cond (Nat.beq r 269) true (false))))
/-- The numbers that 13 divides. -/
def cls13 : Cls := ⟨13, 4, true, 49, true, 61, false⟩
def small13 : List Nat := [5, 13, 229, 269]
def isSmall13 (r : Nat) : Bool := cond (Nat.beq r 5) true ( cond (Nat.beq r 13) true ( cond (Nat.beq r 229) true ( cond (Nat.beq r 269) true (false))))
/-- The numbers that 11 divides. -/
def cls11 : Cls := ⟨11, 2, true, 7, true, 61, true⟩
def small11 : List Nat := [11, 43, 67, 211]
def isSmall11 (r : Nat) : Bool := cond (Nat.beq r 11) true ( cond (Nat.beq r 43) true ( cond (Nat.beq r 67) true ( cond (Nat.beq r 211) true (false))))
def great3 : List Nat := [3, 83, 131, 563, 971, 1571, 5003, 7307, 8867, 9491, 13859, 14843, 16091, 16187, 16547, 16763, 16883, 16931, 17099, 17419, 17939, 18059, 18539, 18731, 19211, 19379, 19403, 19739, 20627, 21059, 21227, 21467, 22067, 22091, 22307, 22571, 22643, 22739, 22811, 23099, 46219]
def great5 : List Nat := [5, 13, 229, 269, 733, 797, 853, 1277, 2309, 2693, 2749, 3533, 3709, 3877, 4133, 4373, 4597, 5669, 5869, 6173, 6709, 7573, 7789, 9029, 9677, 10253, 10853, 11093, 11549, 12277, 12829, 13093, 13789, 13933, 14437, 14717, 15053, 15277, 15413, 15629, 15973, 16229, 16253, 17093, 17909, 18133, 18413, 18749, 18773, 19157, 20149, 20389, 20509, 21773, 22109, 22189, 22853, 23917, 23957, 24197, 24709, 24889, 25189, 26981, 27109, 28069, 28229, 28789, 28793, 29077, 29917, 30509, 30637, 30757, 34057, 34429, 36109, 42457, 42569, 44189]
def great13 : List Nat := [5, 13, 229, 269, 733, 797, 853, 1181, 1277, 2309, 2693, 2749, 3461, 3533, 3709, 3877, 4373, 4597, 4861, 5381, 5869, 6173, 7573, 7621, 7789, 8221, 8501, 9677, 9901, 10253, 10853, 11093, 11549, 11941, 12277, 12829, 13789, 14437, 14461, 15053, 15973, 17093, 18133, 20149, 20261, 22109, 22853, 22861, 24709, 24889, 26981, 28573, 28661, 29077, 30133, 30637, 30757, 32213, 34057, 35437, 42457, 43801]
def great11 : List Nat := [11, 43, 211, 499, 547, 739, 883, 1019, 1499, 1619, 2339, 2347, 3067, 3571, 3691, 3739, 4691, 5107, 5147, 5419, 6763, 6841, 7043, 7219, 8731, 9851, 10459, 12251, 14891, 17033, 17683, 18211, 19531, 21379, 22171]
theorem evA11 : cls11.chkA (prodL great11) 33 = true := by decide +kernel
theorem evC11 : allB (fun r => cls11.low isSmall11 r) 5 = true := by decide +kernel
theorem evS11 : (small11.all fun s => cls11.sqs s) = true := by decide +kernel
theorem evT11 : (great11.all fun s => Nat.ble 1 s && Nat.ble s 46340) = true := by decide +kernel
theorem evB11 : cls11.chkB 150 20 = true := by decide +kernel
theorem evB11' : cls11.chkB 1430 340 = true := by decide +kernel
theorem evA13 : cls13.chkA (prodL great13) 28 = true := by decide +kernel
theorem evC13 : allB (fun r => cls13.low isSmall13 r) 5 = true := by decide +kernel
theorem evS13 : (small13.all fun s => cls13.sqs s) = true := by decide +kernel
theorem evT13 : (great13.all fun s => Nat.ble 1 s && Nat.ble s 46340) = true := by decide +kernel
theorem evB13 : cls13.chkB 150 20 = true := by decide +kernel
theorem evB13' : cls13.chkB 1430 340 = true := by decide +kernel
theorem evA3 : cls3.chkA (prodL great3) 121 = true := by decide +kernel
theorem evC3 : allB (fun r => cls3.low isSmall3 r) 5 = true := by decide +kernel
theorem evS3 : (small3.all fun s => cls3.sqs s) = true := by decide +kernel
theorem evT3 : (great3.all fun s => Nat.ble 1 s && Nat.ble s 46340) = true := by decide +kernel
theorem evB3 : cls3.chkB 150 20 = true := by decide +kernel
theorem evB3' : cls3.chkB 1430 340 = true := by decide +kernel
theorem evA5 : cls5.chkA (prodL great5) 73 = true := by decide +kernel
theorem evC5 : allB (fun r => cls5.low isSmall5 r) 5 = true := by decide +kernel
theorem evS5 : (small5.all fun s => cls5.sqs s) = true := by decide +kernel
theorem evT5 : (great5.all fun s => Nat.ble 1 s && Nat.ble s 46340) = true := by decide +kernel
theorem evB5 : cls5.chkB 150 20 = true := by decide +kernel
theorem evB5' : cls5.chkB 1430 340 = true := by decide +kernel

/-- The strong test to the base a: n - 1 = u 2^k. -/
def Strong (a n u k : Nat) : Prop := a ^ u % n = 1 ∨ ∃ i, i < k ∧ a ^ (u * 2 ^ i) % n = n - 1

theorem minus_of {x n l : Nat} (hn : 2 ≤ n) (hl : l ∣ n) (h : x % n = n - 1) : (x + 1) % n = 0 ∧ (x + 1) % l = 0 := by
 have h1 : (x + 1) % n = 0 := by
  rw [Nat.add_mod, h]
  rcases Nat.lt_or_ge 1 n with h2 | h2
  ·rw [Nat.mod_eq_of_lt h2, show n - 1 + 1 = n from by omega, Nat.mod_self]
  ·omega
 exact ⟨h1, by rw [← Nat.mod_mod_of_dvd _ hl, h1, Nat.zero_mod]⟩
theorem plus_of {x n l : Nat} (hl2 : 2 ≤ l) (hl : l ∣ n) (h : x % n = 1) : x % l = 1 := by
 rw [← Nat.mod_mod_of_dvd _ hl, h, Nat.mod_eq_of_lt (by omega)]
theorem even_exp {u i m : Nat} (hi : 1 ≤ i) (hm : m % 2 = 0) : u * 2 ^ i % m % 2 = 0 := by
 rw [Nat.mod_mod_of_dvd _ (Nat.dvd_of_mod_eq_zero hm)]
 obtain ⟨j, rfl⟩ : ∃ j, i = j + 1 := ⟨i - 1, by omega⟩
 rw [Nat.pow_succ, ← Nat.mul_assoc, Nat.mul_mod_left]
theorem four_exp {u i m : Nat} (hi : 2 ≤ i) (hm : m % 4 = 0) : u * 2 ^ i % m % 4 = 0 := by
 rw [Nat.mod_mod_of_dvd _ (Nat.dvd_of_mod_eq_zero hm)]
 obtain ⟨j, rfl⟩ : ∃ j, i = j + 2 := ⟨i - 2, by omega⟩
 rw [Nat.pow_add, ← Nat.mul_assoc, show (2 : Nat) ^ 2 = 4 from rfl, Nat.mul_mod_left]

/-- The base is a half's nonresidue: -1 comes at once. -/
theorem Strong.first {a n u k l m : Nat} (h : Strong a n u k) (hn : 2 ≤ n) (hl : l ∣ n) (hl2 : 2 ≤ l) (hu : u % 2 = 1) (hm : One a m l) (hme : m % 2 = 0) (hm0 : 0 < m)
  (h1 : ∀ t, t < m → t % 2 = 1 → a ^ t % l ≠ 1) (h2 : ∀ t, t < m → t % 2 = 0 → (a ^ t + 1) % l ≠ 0) : pone a true u n = true := by
 rcases h with h | ⟨i, hi, h⟩
 ·exfalso
  have h3 := plus_of hl2 hl h
  rw [pow_cycle hm] at h3
  exact h1 _ (Nat.mod_lt _ hm0) (by rw [Nat.mod_mod_of_dvd _ (Nat.dvd_of_mod_eq_zero hme)]; exact hu) h3
 ·rcases Nat.eq_zero_or_pos i with e | e
  ·subst e
   rw [Nat.pow_zero, Nat.mul_one] at h
   exact (beq_iff _ _).2 (minus_of hn hl h).1
  ·exfalso
   have h3 := (minus_of hn hl h).2
   rw [Nat.add_mod, pow_cycle hm, ← Nat.add_mod] at h3
   exact h2 _ (Nat.mod_lt _ hm0) (even_exp e hme) h3
/-- -1 comes at the second step. -/
theorem Strong.second {a n u k l m : Nat} (h : Strong a n u k) (hn : 2 ≤ n) (hl : l ∣ n) (hl2 : 2 ≤ l) (hu : u % 2 = 1) (hm : One a m l) (hme : m % 4 = 0) (hm0 : 0 < m)
  (h1 : ∀ t, t < m → t % 2 = 1 → a ^ t % l ≠ 1) (h2 : ∀ t, t < m → t % 2 = 1 → (a ^ t + 1) % l ≠ 0) (h3 : ∀ t, t < m → t % 4 = 0 → (a ^ t + 1) % l ≠ 0) :
  pone (a ^ 2) true u n = true := by
 have hodd : u % m % 2 = 1 := by rw [Nat.mod_mod_of_dvd _ (Nat.dvd_of_mod_eq_zero (by omega))]; exact hu
 rcases h with h | ⟨i, hi, h⟩
 ·exfalso
  have h4 := plus_of hl2 hl h
  rw [pow_cycle hm] at h4
  exact h1 _ (Nat.mod_lt _ hm0) hodd h4
 ·have h4 := minus_of hn hl h
  match i, h4 with
  | 0, h4 =>
   exfalso
   have h5 := h4.2
   rw [Nat.pow_zero, Nat.mul_one, Nat.add_mod, pow_cycle hm, ← Nat.add_mod] at h5
   exact h2 _ (Nat.mod_lt _ hm0) hodd h5
  | 1, h4 =>
   have h5 := h4.1
   rw [show u * 2 ^ 1 = 2 * u from by omega, Nat.pow_mul] at h5
   exact (beq_iff _ _).2 h5
  | j + 2, h4 =>
   exfalso
   have h5 := h4.2
   rw [Nat.add_mod, pow_cycle hm, ← Nat.add_mod] at h5
   exact h3 _ (Nat.mod_lt _ hm0) (four_exp (by omega) hme) h5
/-- The base has an odd order: -1 never comes. -/
theorem Strong.never {a n u k l m : Nat} (h : Strong a n u k) (hn : 2 ≤ n) (hl : l ∣ n) (hm : One a m l) (hm0 : 0 < m)
  (h2 : ∀ t, t < m → (a ^ t + 1) % l ≠ 0) : pone a false u n = true := by
 rcases h with h | ⟨i, _, h⟩
 ·exact (beq_iff _ _).2 (by rw [h, Nat.mod_eq_of_lt (by omega)])
 ·exfalso
  have h3 := (minus_of hn hl h).2
  rw [Nat.add_mod, pow_cycle hm, ← Nat.add_mod] at h3
  exact h2 _ (Nat.mod_lt _ hm0) h3

theorem odd_unique {u v j k : Nat} (hu : u % 2 = 1) (hv : v % 2 = 1) (h : u * 2 ^ j = v * 2 ^ k) : u = v :=
 Nat.dvd_antisymm (odd_dvd hu k ⟨2 ^ j, h.symm⟩) (odd_dvd hv j ⟨2 ^ k, h⟩)

theorem conds3 {n u k : Nat} (hn : 2 ≤ n) (hl : 3 ∣ n) (hu : u % 2 = 1) (h2 : Strong 2 n u k) (h7 : Strong 7 n u k) (h61 : Strong 61 n u k) : cls3.conds u n = true :=
 (cls3.conds_iff u n).2 ⟨h2.first (m := 2) hn hl (by decide) hu (by unfold One; decide) (by decide) (by decide) (by decide) (by decide),
  h7.never (m := 1) hn hl (by unfold One; decide) (by decide) (by decide), h61.never (m := 1) hn hl (by unfold One; decide) (by decide) (by decide)⟩
theorem conds5 {n u k : Nat} (hn : 2 ≤ n) (hl : 5 ∣ n) (hu : u % 2 = 1) (h2 : Strong 2 n u k) (h7 : Strong 7 n u k) (h61 : Strong 61 n u k) : cls5.conds u n = true :=
 (cls5.conds_iff u n).2 ⟨h2.second (m := 4) hn hl (by decide) hu (by unfold One; decide) (by decide) (by decide) (by decide) (by decide) (by decide),
  h7.second (m := 4) hn hl (by decide) hu (by unfold One; decide) (by decide) (by decide) (by decide) (by decide) (by decide),
  h61.never (m := 1) hn hl (by unfold One; decide) (by decide) (by decide)⟩
theorem conds13 {n u k : Nat} (hn : 2 ≤ n) (hl : 13 ∣ n) (hu : u % 2 = 1) (h2 : Strong 2 n u k) (h7 : Strong 7 n u k) (h61 : Strong 61 n u k) : cls13.conds u n = true :=
 (cls13.conds_iff u n).2 ⟨h2.second (m := 12) hn hl (by decide) hu (by unfold One; decide) (by decide) (by decide) (by decide) (by decide) (by decide),
  h7.second (m := 12) hn hl (by decide) hu (by unfold One; decide) (by decide) (by decide) (by decide) (by decide) (by decide),
  h61.never (m := 3) hn hl (by unfold One; decide) (by decide) (by decide)⟩
theorem conds11 {n u k : Nat} (hn : 2 ≤ n) (hl : 11 ∣ n) (hu : u % 2 = 1) (h2 : Strong 2 n u k) (h7 : Strong 7 n u k) (h61 : Strong 61 n u k) : cls11.conds u n = true :=
 (cls11.conds_iff u n).2 ⟨h2.first (m := 10) hn hl (by decide) hu (by unfold One; decide) (by decide) (by decide) (by decide) (by decide),
  h7.first (m := 10) hn hl (by decide) hu (by unfold One; decide) (by decide) (by decide) (by decide) (by decide),
  h61.first (m := 10) hn hl (by decide) hu (by unfold One; decide) (by decide) (by decide) (by decide) (by decide)⟩

theorem pr_of {l : Nat} (h : 2 ≤ l ∧ ∀ d, d ≤ l → l % d = 0 → d = 1 ∨ d = l) : Pr l :=
 ⟨h.1, fun d hd => h.2 d (Nat.le_of_dvd (by have := h.1; omega) hd) (Nat.mod_eq_zero_of_dvd hd)⟩
theorem all_T {S : List Nat} (h : (S.all fun s => Nat.ble 1 s && Nat.ble s 46340) = true) : ∀ s ∈ S, 0 < s ∧ s ≤ 46340 := by
 intro s hs
 have := List.all_eq_true.1 h s hs
 rw [Bool.and_eq_true] at this
 exact ⟨(ble_iff _ _).1 this.1, (ble_iff _ _).1 this.2⟩
theorem isS3 : ∀ r, isSmall3 r = true → r ∈ small3 := by
 intro r h
 unfold isSmall3 at h
 unfold small3
 cases h3 : Nat.beq r 3 with
 | true => rw [(beq_iff _ _).1 h3]; decide
 | false =>
 rw [h3, cond_false] at h
 cases h19 : Nat.beq r 19 with
 | true => rw [(beq_iff _ _).1 h19]; decide
 | false =>
 rw [h19, cond_false] at h
 cases h83 : Nat.beq r 83 with
 | true => rw [(beq_iff _ _).1 h83]; decide
 | false =>
 rw [h83, cond_false] at h
 cases h131 : Nat.beq r 131 with
 | true => rw [(beq_iff _ _).1 h131]; decide
 | false =>
 rw [h131, cond_false] at h
 cases h283 : Nat.beq r 283 with
 | true => rw [(beq_iff _ _).1 h283]; decide
 | false =>
 rw [h283, cond_false] at h
 exact absurd h (by simp)
theorem isS5 : ∀ r, isSmall5 r = true → r ∈ small5 := by
 intro r h
 unfold isSmall5 at h
 unfold small5
 cases h5 : Nat.beq r 5 with
 | true => rw [(beq_iff _ _).1 h5]; decide
 | false =>
 rw [h5, cond_false] at h
 cases h13 : Nat.beq r 13 with
 | true => rw [(beq_iff _ _).1 h13]; decide
 | false =>
 rw [h13, cond_false] at h
 cases h229 : Nat.beq r 229 with
 | true => rw [(beq_iff _ _).1 h229]; decide
 | false =>
 rw [h229, cond_false] at h
 cases h269 : Nat.beq r 269 with
 | true => rw [(beq_iff _ _).1 h269]; decide
 | false =>
 rw [h269, cond_false] at h
 exact absurd h (by simp)
theorem isS13 : ∀ r, isSmall13 r = true → r ∈ small13 := by
 intro r h
 unfold isSmall13 at h
 unfold small13
 cases h5 : Nat.beq r 5 with
 | true => rw [(beq_iff _ _).1 h5]; decide
 | false =>
 rw [h5, cond_false] at h
 cases h13 : Nat.beq r 13 with
 | true => rw [(beq_iff _ _).1 h13]; decide
 | false =>
 rw [h13, cond_false] at h
 cases h229 : Nat.beq r 229 with
 | true => rw [(beq_iff _ _).1 h229]; decide
 | false =>
 rw [h229, cond_false] at h
 cases h269 : Nat.beq r 269 with
 | true => rw [(beq_iff _ _).1 h269]; decide
 | false =>
 rw [h269, cond_false] at h
 exact absurd h (by simp)
theorem isS11 : ∀ r, isSmall11 r = true → r ∈ small11 := by
 intro r h
 unfold isSmall11 at h
 unfold small11
 cases h11 : Nat.beq r 11 with
 | true => rw [(beq_iff _ _).1 h11]; decide
 | false =>
 rw [h11, cond_false] at h
 cases h43 : Nat.beq r 43 with
 | true => rw [(beq_iff _ _).1 h43]; decide
 | false =>
 rw [h43, cond_false] at h
 cases h67 : Nat.beq r 67 with
 | true => rw [(beq_iff _ _).1 h67]; decide
 | false =>
 rw [h67, cond_false] at h
 cases h211 : Nat.beq r 211 with
 | true => rw [(beq_iff _ _).1 h211]; decide
 | false =>
 rw [h211, cond_false] at h
 exact absurd h (by simp)
theorem none3 {q : Nat} (h1 : 1073741824 < q) (h2 : q < 2147483648) (h8 : q % 8 = 1) (hq : 3 ∣ q) (hc : cls3.conds (oddp 32 (q - 1)) q = true) : False :=
 cls3.nothing small3 great3 isSmall3 121 (pr_of (by decide)) (by decide) (by decide) (all_T evT3) isS3 (by decide) (List.all_eq_true.1 evS3) evA3 (by decide) evB3 evB3' evC3 h1 h2 h8 hq hc
theorem none5 {q : Nat} (h1 : 1073741824 < q) (h2 : q < 2147483648) (h8 : q % 8 = 1) (hq : 5 ∣ q) (hc : cls5.conds (oddp 32 (q - 1)) q = true) : False :=
 cls5.nothing small5 great5 isSmall5 73 (pr_of (by decide)) (by decide) (by decide) (all_T evT5) isS5 (by decide) (List.all_eq_true.1 evS5) evA5 (by decide) evB5 evB5' evC5 h1 h2 h8 hq hc
theorem none13 {q : Nat} (h1 : 1073741824 < q) (h2 : q < 2147483648) (h8 : q % 8 = 1) (hq : 13 ∣ q) (hc : cls13.conds (oddp 32 (q - 1)) q = true) : False :=
 cls13.nothing small13 great13 isSmall13 28 (pr_of (by decide)) (by decide) (by decide) (all_T evT13) isS13 (by decide) (List.all_eq_true.1 evS13) evA13 (by decide) evB13 evB13' evC13 h1 h2 h8 hq hc
theorem none11 {q : Nat} (h1 : 1073741824 < q) (h2 : q < 2147483648) (h8 : q % 8 = 1) (hq : 11 ∣ q) (hc : cls11.conds (oddp 32 (q - 1)) q = true) : False :=
 cls11.nothing small11 great11 isSmall11 33 (pr_of (by decide)) (by decide) (by decide) (all_T evT11) isS11 (by decide) (List.all_eq_true.1 evS11) evA11 (by decide) evB11 evB11' evC11 h1 h2 h8 hq hc
/-- The numbers below 2^16. -/
theorem evLow : allB (fun i => cls3.ref (8 * i + 9) && cls5.ref (8 * i + 9) && cls13.ref (8 * i + 9) && cls11.ref (8 * i + 9)) 128 = true := by decide +kernel
theorem low_no (c : Cls) {q : Nat} (h1 : 2 ≤ q) (h2 : q < 65536) (h8 : q % 8 = 1) (hr : c.ref q = true) (hq : c.l ∣ q) (hc : c.conds (oddp 32 (q - 1)) q = true) : False := by
 rw [c.ref_no h1 (by omega) h8 hq hc] at hr
 exact absurd hr (by simp)
theorem dvd_of_some {n : Nat} (h : n % 3 = 0 ∨ n % 5 = 0 ∨ n % 11 = 0 ∨ n % 13 = 0) : 3 ∣ n ∨ 5 ∣ n ∨ 11 ∣ n ∨ 13 ∣ n := by omega

/-- What passes the strong tests to 2, 7 and 61, and is 1 modulo 8, and either is below 2^16 or stands between 2^30 and 2^31, none of 3, 5, 11 and 13 divides. -/
theorem strong_no {n u k : Nat} (hn : 2 ≤ n) (h8 : n % 8 = 1) (hr : n < 65536 ∨ (1073741824 < n ∧ n < 2147483648)) (huk : n - 1 = u * 2 ^ k) (hu : u % 2 = 1)
  (h2 : Strong 2 n u k) (h7 : Strong 7 n u k) (h61 : Strong 61 n u k) : ¬ (n % 3 = 0 ∨ n % 5 = 0 ∨ n % 11 = 0 ∨ n % 13 = 0) := by
 intro hd
 obtain ⟨ho, j, hj⟩ := oddp_spec 32 (n - 1) (by omega) (by omega)
 have e : oddp 32 (n - 1) = u := odd_unique (j := j) (k := k) ho hu (by rw [← hj, huk])
 have hd' := dvd_of_some hd
 rcases hr with hr | ⟨hr1, hr2⟩
 ·have h := allB_sound evLow ((n - 9) / 8) (by omega)
  rw [show 8 * ((n - 9) / 8) + 9 = n from by omega] at h
  simp only [Bool.and_eq_true] at h
  obtain ⟨⟨⟨r3, r5⟩, r13⟩, r11⟩ := h
  rcases hd' with hl | hl | hl | hl
  ·exact low_no cls3 hn hr h8 r3 hl (by rw [e]; exact conds3 hn hl hu h2 h7 h61)
  ·exact low_no cls5 hn hr h8 r5 hl (by rw [e]; exact conds5 hn hl hu h2 h7 h61)
  ·exact low_no cls11 hn hr h8 r11 hl (by rw [e]; exact conds11 hn hl hu h2 h7 h61)
  ·exact low_no cls13 hn hr h8 r13 hl (by rw [e]; exact conds13 hn hl hu h2 h7 h61)
 ·rcases hd' with hl | hl | hl | hl
  ·exact none3 hr1 hr2 h8 hl (by rw [e]; exact conds3 hn hl hu h2 h7 h61)
  ·exact none5 hr1 hr2 h8 hl (by rw [e]; exact conds5 hn hl hu h2 h7 h61)
  ·exact none11 hr1 hr2 h8 hl (by rw [e]; exact conds11 hn hl hu h2 h7 h61)
  ·exact none13 hr1 hr2 h8 hl (by rw [e]; exact conds13 hn hl hu h2 h7 h61)
end Go.Proofs.YtmjildbdkecolaaGreat
