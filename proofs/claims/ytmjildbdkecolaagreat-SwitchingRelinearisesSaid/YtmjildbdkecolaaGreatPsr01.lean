/- The product of two rows modulo x^n + 1 and q: as the program adds, as the reference adds. Plain.
Elementary number theory: primes, their divisors, Fermat's little theorem, exponents with the residue 1. No program.
Exponents with the residue 1, and with the residue -1
The finite checks: functions that the kernel evaluates, and what they mean -/
import Derived.Test.YtmjildbdkecolaaGreatRows
set_option linter.unusedSimpArgs false
set_option linter.unusedVariables false
set_option linter.unnecessarySimpa false
namespace Go.Proofs.YtmjildbdkecolaaGreat

/-- The first j terms of coefficient k. -/
def ncSum (x y : Nat → Nat) (n k : Nat) : Nat → Int
 | 0 => 0
 | j + 1 => ncSum x y n k j + (if j ≤ k then ((x j * y (k - j) : Nat) : Int) else -((x j * y (k + n - j) : Nat) : Int))
/-- Coefficient k of the product. -/
def nc (x y : Nat → Nat) (q n k : Nat) : Nat := (ncSum x y n k n % (q : Int)).toNat
/-- What the program adds and what it takes away. -/
def mpl (x y : Nat → Nat) (q k : Nat) : Nat → Nat
 | 0 => 0
 | j + 1 => if j ≤ k then (mpl x y q k j + x j * y (k - j)) % q else mpl x y q k j
def mmi (x y : Nat → Nat) (q n k : Nat) : Nat → Nat
 | 0 => 0
 | j + 1 => if j ≤ k then mmi x y q n k j else (mmi x y q n k j + x j * y (k + n - j)) % q
theorem mpl_lt {x y : Nat → Nat} {q k : Nat} (hq : 0 < q) : ∀ j, mpl x y q k j < q
 | 0 => hq
 | j + 1 => by unfold mpl; split; exact Nat.mod_lt _ hq; exact mpl_lt hq j
theorem mmi_lt {x y : Nat → Nat} {q n k : Nat} (hq : 0 < q) : ∀ j, mmi x y q n k j < q
 | 0 => hq
 | j + 1 => by unfold mmi; split; exact mmi_lt hq j; exact Nat.mod_lt _ hq
theorem mpl_mmi {x y : Nat → Nat} {q n k : Nat} : ∀ j, ((mpl x y q k j : Nat) - (mmi x y q n k j : Nat) - ncSum x y n k j : Int) % (q : Int) = 0
 | 0 => by simp [mpl, mmi, ncSum]
 | j + 1 => by
  have ih := mpl_mmi (x := x) (y := y) (q := q) (n := n) (k := k) j
  unfold mpl mmi ncSum
  by_cases h : j ≤ k
  ·rw [if_pos h, if_pos h, if_pos h]
   generalize mpl x y q k j = a at *
   generalize mmi x y q n k j = b at *
   generalize ncSum x y n k j = s at *
   generalize x j * y (k - j) = z at *
   have e : (((a + z) % q : Nat) : Int) = (a + z : Int) - q * ((a + z : Int) / q) := by
    have := Int.emod_add_mul_ediv ((a : Int) + z) q
    push_cast
    omega
   rw [e]
   have e2 : (a + z : Int) - q * ((a + z : Int) / q) - b - (s + z) = (a - b - s : Int) + q * (-((a + z : Int) / q)) := by
    rw [Int.mul_neg]; omega
   rw [e2, Int.add_mul_emod_self_left]
   exact ih
  ·rw [if_neg h, if_neg h, if_neg h]
   generalize mpl x y q k j = a at *
   generalize mmi x y q n k j = b at *
   generalize ncSum x y n k j = s at *
   generalize x j * y (k + n - j) = z at *
   have e : (((b + z) % q : Nat) : Int) = (b + z : Int) - q * ((b + z : Int) / q) := by
    have := Int.emod_add_mul_ediv ((b : Int) + z) q
    push_cast
    omega
   rw [e]
   have e2 : (a : Int) - ((b + z : Int) - q * ((b + z : Int) / q)) - (s + -z) = (a - b - s : Int) + q * ((b + z : Int) / q) := by omega
   rw [e2, Int.add_mul_emod_self_left]
   exact ih
/-- The program's coefficient. -/
theorem prog_nc {x y : Nat → Nat} {q n k : Nat} (hq : 0 < q) : (mpl x y q k n + q - mmi x y q n k n) % q = nc x y q n k := by
 have h1 := mpl_lt (x := x) (y := y) (k := k) hq n
 have h2 := mmi_lt (x := x) (y := y) (n := n) (k := k) hq n
 have h3 := mpl_mmi (x := x) (y := y) (q := q) (n := n) (k := k) n
 unfold nc
 generalize mpl x y q k n = a at *
 generalize mmi x y q n k n = b at *
 generalize ncSum x y n k n = s at *
 apply Int.ofNat.inj
 show (((a + q - b) % q : Nat) : Int) = ((s % (q : Int)).toNat : Int)
 rw [Int.toNat_of_nonneg (Int.emod_nonneg _ (by omega))]
 have e : ((a + q - b : Nat) : Int) = (s + (a - b - s)) + q * 1 := by omega
 rw [Int.natCast_emod, e, Int.add_mul_emod_self_left, Int.add_emod, h3, Int.add_zero, Int.emod_emod]
/-- Which number of the second row goes with number i to coefficient t. -/
def kOf (n t i : Nat) : Nat := if i ≤ t then t - i else t + n - i
/-- The reference's row: i rows are through, and k numbers of the next one. -/
def rfRow (x y : Nat → Nat) (q n i k t : Nat) : Nat := (ncSum x y n t (if kOf n t i < k then i + 1 else i) % (q : Int)).toNat
theorem rfRow_lt {x y : Nat → Nat} {q n i k t : Nat} (hq : 0 < q) : rfRow x y q n i k t < q := by
 unfold rfRow
 generalize ncSum x y n t (if kOf n t i < k then i + 1 else i) = s
 have := Int.emod_lt_of_pos s (show (0 : Int) < (q : Int) by omega)
 have := Int.emod_nonneg s (show (q : Int) ≠ 0 by omega)
 omega
theorem rfRow_zero {x y : Nat → Nat} {q n t : Nat} : rfRow x y q n 0 0 t = 0 := by
 unfold rfRow
 rw [if_neg (by omega)]
 simp [ncSum]
theorem rfRow_next {x y : Nat → Nat} {q n i t : Nat} (hi : i < n) (ht : t < n) : rfRow x y q n i n t = rfRow x y q n (i + 1) 0 t := by
 unfold rfRow
 rw [if_pos (by unfold kOf; split <;> omega), if_neg (by omega)]
theorem rfRow_end {x y : Nat → Nat} {q n t : Nat} : rfRow x y q n n 0 t = nc x y q n t := by
 unfold rfRow nc
 rw [if_neg (by omega)]
theorem rfRow_other {x y : Nat → Nat} {q n i k t : Nat} (hi : i < n) (hk : k < n) (ht : t < n) (h : t ≠ if i + k < n then i + k else i + k - n) : rfRow x y q n i (k + 1) t = rfRow x y q n i k t := by
 unfold rfRow
 have : (kOf n t i < k + 1) ↔ (kOf n t i < k) := by
  unfold kOf
  split at h <;> split <;> omega
 simp only [this]
theorem rfRow_low {x y : Nat → Nat} {q n i k : Nat} (hq : 0 < q) (_ : i < n) (h : i + k < n) : (rfRow x y q n i k (i + k) + x i * y k % q) % q = rfRow x y q n i (k + 1) (i + k) := by
 unfold rfRow
 have e : kOf n (i + k) i = k := by unfold kOf; rw [if_pos (by omega)]; omega
 rw [e, if_neg (by omega), if_pos (by omega)]
 conv => rhs; unfold ncSum
 rw [if_pos (by omega), show i + k - i = k by omega]
 generalize ncSum x y n (i + k) i = s
 generalize x i * y k = z
 apply Int.ofNat.inj
 show ((((s % (q : Int)).toNat + z % q) % q : Nat) : Int) = (((s + (z : Int)) % (q : Int)).toNat : Int)
 rw [Int.toNat_of_nonneg (Int.emod_nonneg _ (by omega)), Int.natCast_emod, Int.natCast_add, Int.toNat_of_nonneg (Int.emod_nonneg _ (by omega)), Int.natCast_emod, ← Int.add_emod]
theorem rfRow_high {x y : Nat → Nat} {q n i k : Nat} (hq : 0 < q) (hi : i < n) (hk : k < n) (h : n ≤ i + k) : (rfRow x y q n i k (i + k - n) + (q - x i * y k % q) % q) % q = rfRow x y q n i (k + 1) (i + k - n) := by
 unfold rfRow
 have e : kOf n (i + k - n) i = k := by unfold kOf; rw [if_neg (by omega)]; omega
 rw [e, if_neg (by omega), if_pos (by omega)]
 conv => rhs; unfold ncSum
 rw [if_neg (by omega), show i + k - n + n - i = k by omega]
 generalize ncSum x y n (i + k - n) i = s
 generalize x i * y k = z
 have hz : z % q < q := Nat.mod_lt _ hq
 apply Int.ofNat.inj
 show ((((s % (q : Int)).toNat + (q - z % q) % q) % q : Nat) : Int) = (((s + -(z : Int)) % (q : Int)).toNat : Int)
 rw [Int.toNat_of_nonneg (Int.emod_nonneg _ (by omega)), Int.natCast_emod, Int.natCast_add, Int.toNat_of_nonneg (Int.emod_nonneg _ (by omega)), Int.natCast_emod]
 have e1 : ((q - z % q : Nat) : Int) = -(z : Int) + q * (1 + (z : Int) / q) := by
  have := Int.emod_add_mul_ediv (z : Int) q
  have e2 : ((z % q : Nat) : Int) = (z : Int) % q := by simp
  rw [Int.mul_add]
  omega
 rw [e1, Int.add_mul_emod_self_left, ← Int.add_emod]

/-- A prime. -/
def Pr (p : Nat) : Prop := 2 ≤ p ∧ ∀ d, d ∣ p → d = 1 ∨ d = p

theorem exists_pr : ∀ (n m : Nat), m ≤ n → 2 ≤ m → ∃ p, Pr p ∧ p ∣ m := by
 intro n
 induction n with
 | zero => intro m h1 h2; omega
 | succ n ih =>
  intro m h1 h2
  by_cases h : ∀ d, d ∣ m → d = 1 ∨ d = m
  ·exact ⟨m, ⟨h2, h⟩, Nat.dvd_refl m⟩
  ·have ⟨d, hd⟩ : ∃ d, ¬ (d ∣ m → d = 1 ∨ d = m) := by
    rcases Classical.em (∃ d, ¬ (d ∣ m → d = 1 ∨ d = m)) with h' | h'
    ·exact h'
    ·exact absurd (fun d => Classical.not_not.1 (fun hn => h' ⟨d, hn⟩)) h
   have hdm : d ∣ m := Classical.not_not.1 (fun hn => hd (fun hh => absurd hh hn))
   have hd1 : d ≠ 1 := fun e => hd (fun _ => .inl e)
   have hd2 : d ≠ m := fun e => hd (fun _ => .inr e)
   have hle := Nat.le_of_dvd (by omega) hdm
   have h0 : d ≠ 0 := by rintro rfl; have := Nat.eq_zero_of_zero_dvd hdm; omega
   obtain ⟨p, hp, hpd⟩ := ih d (by omega) (by omega)
   exact ⟨p, hp, Nat.dvd_trans hpd hdm⟩

theorem Pr.coprime {p a : Nat} (hp : Pr p) (h : ¬ p ∣ a) : Nat.gcd p a = 1 := by
 rcases hp.2 _ (Nat.gcd_dvd_left p a) with h1 | h1
 ·exact h1
 ·exact absurd (h1 ▸ Nat.gcd_dvd_right p a) h
/-- Euclid's lemma. -/
theorem Pr.mul {p a b : Nat} (hp : Pr p) (h : p ∣ a * b) : p ∣ a ∨ p ∣ b := by
 by_cases ha : p ∣ a
 ·exact .inl ha
 ·exact .inr (Nat.Coprime.dvd_of_dvd_mul_left (hp.coprime ha) h)

/-- Binomial coefficients. -/
def bin : Nat → Nat → Nat
 | _, 0 => 1
 | 0, _ + 1 => 0
 | n + 1, k + 1 => bin n k + bin n (k + 1)
theorem bin_above : ∀ (n k : Nat), n < k → bin n k = 0
 | 0, 0, h => by omega
 | 0, k + 1, _ => rfl
 | n + 1, 0, h => by omega
 | n + 1, k + 1, h => by rw [bin, bin_above n k (by omega), bin_above n (k + 1) (by omega)]
theorem bin_self : ∀ n, bin n n = 1
 | 0 => rfl
 | n + 1 => by rw [bin, bin_self n, bin_above n (n + 1) (by omega)]
theorem bin_zero (n : Nat) : bin n 0 = 1 := by cases n <;> rfl
theorem bin_absorb : ∀ (n k : Nat), (k + 1) * bin (n + 1) (k + 1) = (n + 1) * bin n k
 | 0, 0 => rfl
 | 0, k + 1 => by simp [bin]
 | n + 1, 0 => by
  have h := bin_absorb n 0
  have e : bin (n + 1 + 1) (0 + 1) = bin (n + 1) 0 + bin (n + 1) (0 + 1) := rfl
  rw [e, bin_zero]
  rw [bin_zero] at h
  omega
 | n + 1, k + 1 => by
  have h1 := bin_absorb n k
  have h2 := bin_absorb n (k + 1)
  have e : bin (n + 1 + 1) (k + 1 + 1) = bin (n + 1) (k + 1) + bin (n + 1) (k + 1 + 1) := rfl
  have e2 : bin (n + 1) (k + 1) = bin n k + bin n (k + 1) := rfl
  rw [e2] at h1 ⊢
  rw [e, e2, Nat.mul_add, h2]
  generalize bin n k = x at *
  generalize bin n (k + 1) = y at *
  have a1 : (k + 1 + 1) * (x + y) = (k + 1) * (x + y) + (x + y) := by rw [Nat.add_mul (k + 1) 1, Nat.one_mul]
  have a2 : (n + 1 + 1) * (x + y) = (n + 1) * (x + y) + (x + y) := by rw [Nat.add_mul (n + 1) 1, Nat.one_mul]
  have a3 : (n + 1) * (x + y) = (n + 1) * x + (n + 1) * y := Nat.mul_add _ _ _
  omega
/-- The terms of the binomial theorem, the first m. -/
def binSum (a n : Nat) : Nat → Nat
 | 0 => 0
 | m + 1 => binSum a n m + bin n m * a ^ m
theorem binSum_succ (a n : Nat) : ∀ m, binSum a (n + 1) (m + 1) = a * binSum a n m + binSum a n (m + 1)
 | 0 => by simp [binSum, bin_zero]
 | m + 1 => by
  rw [binSum, binSum_succ a n m]
  have e : bin (n + 1) (m + 1) = bin n m + bin n (m + 1) := rfl
  rw [e]
  show _ = a * (binSum a n m + bin n m * a ^ m) + (binSum a n (m + 1) + bin n (m + 1) * a ^ (m + 1))
  rw [Nat.add_mul, Nat.mul_add, Nat.pow_succ]
  have : bin n m * (a ^ m * a) = a * (bin n m * a ^ m) := by rw [← Nat.mul_assoc, Nat.mul_comm]
  omega
theorem binomial (a : Nat) : ∀ n, (a + 1) ^ n = binSum a n (n + 1)
 | 0 => by simp [binSum, bin]
 | n + 1 => by
  rw [binSum_succ, Nat.pow_succ, binomial a n]
  have : binSum a n (n + 1 + 1) = binSum a n (n + 1) := by
   rw [binSum, bin_above n (n + 1) (by omega)]; simp
  rw [this, Nat.mul_add, Nat.mul_one, Nat.mul_comm]
theorem Pr.bin {p : Nat} (hp : Pr p) (k : Nat) (h0 : 0 < k) (hk : k < p) : p ∣ Go.Proofs.YtmjildbdkecolaaGreat.bin p k := by
 obtain ⟨j, rfl⟩ : ∃ j, k = j + 1 := ⟨k - 1, by omega⟩
 obtain ⟨n, rfl⟩ : ∃ n, p = n + 1 := ⟨p - 1, by have := hp.1; omega⟩
 have h := bin_absorb n j
 rcases hp.mul (a := j + 1) (b := Go.Proofs.YtmjildbdkecolaaGreat.bin (n + 1) (j + 1)) (by rw [h]; exact Nat.dvd_mul_right _ _) with h1 | h1
 ·have := Nat.le_of_dvd (by omega) h1; omega
 ·exact h1
theorem Pr.binSum {p : Nat} (hp : Pr p) (a : Nat) : ∀ m, m < p → p ∣ (Go.Proofs.YtmjildbdkecolaaGreat.binSum a p (m + 1) - 1) ∧ 1 ≤ Go.Proofs.YtmjildbdkecolaaGreat.binSum a p (m + 1)
 | 0, _ => by simp [Go.Proofs.YtmjildbdkecolaaGreat.binSum, bin_zero]
 | m + 1, hm => by
  obtain ⟨h1, h2⟩ := hp.binSum a m (by omega)
  have h3 := hp.bin (m + 1) (by omega) hm
  rw [Go.Proofs.YtmjildbdkecolaaGreat.binSum]
  refine ⟨?_, by omega⟩
  rw [Nat.sub_add_comm h2]
  exact Nat.dvd_add h1 (Nat.dvd_trans h3 (Nat.dvd_mul_right _ _))
/-- Fermat's little theorem: a^p is a modulo p. -/
theorem Pr.pow_self {p : Nat} (hp : Pr p) : ∀ a : Nat, a ^ p % p = a % p
 | 0 => by rw [Nat.zero_pow (by have := hp.1; omega)]
 | a + 1 => by
  have ih := hp.pow_self a
  have hp2 := hp.1
  obtain ⟨n, hn⟩ : ∃ n, p = n + 1 := ⟨p - 1, by omega⟩
  obtain ⟨h1, h2⟩ := hp.binSum a n (by omega)
  have e : (a + 1) ^ p = Go.Proofs.YtmjildbdkecolaaGreat.binSum a p (n + 1) + a ^ p := by
   rw [binomial a p, Go.Proofs.YtmjildbdkecolaaGreat.binSum]
   rw [← hn, bin_self, Nat.one_mul]
  obtain ⟨z, hz⟩ := h1
  rw [e, show Go.Proofs.YtmjildbdkecolaaGreat.binSum a p (n + 1) = p * z + 1 from by omega]
  rw [Nat.add_assoc, Nat.mul_add_mod, Nat.add_mod, ih, ← Nat.add_mod, Nat.add_comm]
theorem Pr.pow_pred {p a : Nat} (hp : Pr p) (h : ¬ p ∣ a) : a ^ (p - 1) % p = 1 := by
 have hp2 := hp.1
 have h1 := hp.pow_self a
 obtain ⟨n, rfl⟩ : ∃ n, p = n + 1 := ⟨p - 1, by omega⟩
 rw [Nat.add_sub_cancel]
 have ha : 0 < a := by rcases Nat.eq_zero_or_pos a with e | e; (subst e; exact absurd (Nat.dvd_zero _) h); exact e
 have hpos : 1 ≤ a ^ n := Nat.pow_pos ha
 have hd : (n + 1) ∣ a * (a ^ n - 1) := by
  rw [Nat.mul_sub, Nat.mul_one, Nat.mul_comm, ← Nat.pow_succ]
  exact Nat.dvd_of_mod_eq_zero (Nat.sub_mod_eq_zero_of_mod_eq h1)
 rcases hp.mul hd with h2 | h2
 ·exact absurd h2 h
 ·obtain ⟨z, hz⟩ := h2
  rw [show a ^ n = (n + 1) * z + 1 from by omega, Nat.mul_add_mod]
  exact Nat.mod_eq_of_lt (by omega)

/-- b^e is 1 modulo m. -/
def One (b e m : Nat) : Prop := b ^ e % m = 1 % m

theorem pow_cycle {a m l : Nat} (h : One a m l) (e : Nat) : a ^ e % l = a ^ (e % m) % l := by
 have h' : a ^ m % l = 1 % l := h
 have e1 : a ^ e = (a ^ m) ^ (e / m) * a ^ (e % m) := by
  rw [← Nat.pow_mul, ← Nat.pow_add, Nat.div_add_mod]
 rw [e1, Nat.mul_mod, Nat.pow_mod, h', ← Nat.pow_mod, Nat.one_pow, ← Nat.mul_mod, Nat.one_mul]
theorem One.times {b e m : Nat} (h : One b e m) (k : Nat) : One b (e * k) m := by
 have h' : b ^ e % m = 1 % m := h
 show b ^ (e * k) % m = 1 % m
 rw [Nat.pow_mul, Nat.pow_mod, h', ← Nat.pow_mod, Nat.one_pow]
theorem One.dvd {b e m f : Nat} (h : One b e m) (hd : e ∣ f) : One b f m := by
 obtain ⟨k, rfl⟩ := hd
 exact h.times k
theorem One.rem {b x y m : Nat} (hx : One b x m) (hy : One b y m) : One b (x % y) m := by
 have := pow_cycle hy x
 have h' : b ^ x % m = 1 % m := hx
 show b ^ (x % y) % m = 1 % m
 rw [← this, h']
theorem One.gcd {b m : Nat} : ∀ (x y : Nat), One b x m → One b y m → One b (Nat.gcd x y) m := by
 intro x y
 induction x, y using Nat.gcd.induction with
 | H0 n => intro _ h; rw [Nat.gcd_zero_left]; exact h
 | H1 x y hx ih =>
  intro h1 h2
  rw [Nat.gcd_rec]
  exact ih (h2.rem h1) h1
theorem One.sub {b e m r : Nat} (h : One b e m) (hd : r ∣ m) : One b e r := by
 have h' : b ^ e % m = 1 % m := h
 show b ^ e % r = 1 % r
 rw [← Nat.mod_mod_of_dvd _ hd, h', Nat.mod_mod_of_dvd _ hd]
theorem One.ndvd {b e r : Nat} (h : One b e r) (he : 0 < e) (hr : 2 ≤ r) : ¬ r ∣ b := by
 intro hd
 have h' : b ^ e % r = 1 % r := h
 have : r ∣ b ^ e := by
  obtain ⟨f, rfl⟩ : ∃ f, e = f + 1 := ⟨e - 1, by omega⟩
  rw [Nat.pow_succ]
  exact Nat.dvd_trans hd (Nat.dvd_mul_left _ _)
 rw [Nat.mod_eq_zero_of_dvd this, Nat.mod_eq_of_lt (by omega)] at h'
 omega

theorem odd_sum (a b : Nat) : ∀ k, (a + b) ∣ a ^ (2 * k + 1) + b ^ (2 * k + 1)
 | 0 => by simp
 | k + 1 => by
  have h := odd_sum a b k
  have e1 : a ^ (2 * (k + 1) + 1) = a ^ 2 * a ^ (2 * k + 1) := by rw [← Nat.pow_add]; congr 1; omega
  have e2 : b ^ (2 * (k + 1) + 1) = b ^ 2 * b ^ (2 * k + 1) := by rw [← Nat.pow_add]; congr 1; omega
  rw [e1, e2]
  generalize a ^ (2 * k + 1) = x at *
  generalize b ^ (2 * k + 1) = y at *
  -- a²x + b²y = (a + b)(a x + b y) - a b (x + y)
  have h2 : (a + b) ∣ (a ^ 2 * x + b ^ 2 * y) + a * b * (x + y) := by
   refine ⟨a * x + b * y, ?_⟩
   simp only [Nat.pow_two, Nat.mul_add, Nat.mul_comm, Nat.mul_left_comm]
   omega
  exact (Nat.dvd_add_left (Nat.dvd_trans h (Nat.dvd_mul_left _ _))).1 h2

/-- The base with its sign. -/
def sb (x : Nat) (s : Bool) (r : Nat) : Nat := cond s (r - x % r) x
/-- x^u is 1, or -1. -/
def pone (x : Nat) (s : Bool) (u r : Nat) : Bool := cond s (Nat.beq ((x ^ u + 1) % r) 0) (Nat.beq (x ^ u % r) (1 % r))

theorem beq_iff (a b : Nat) : Nat.beq a b = true ↔ a = b := ⟨Nat.eq_of_beq_eq_true, fun h => by subst h; exact Nat.beq_refl a⟩
theorem one_of_dvd {y r : Nat} (h1 : 1 ≤ y) (h : r ∣ y - 1) : y % r = 1 % r := by
 obtain ⟨z, hz⟩ := h
 rw [show y = r * z + 1 from by omega, Nat.mul_add_mod]
theorem pone_iff {x u r : Nat} (s : Bool) (hu : u % 2 = 1) (hr : 2 ≤ r) : pone x s u r = true ↔ One (sb x s r) u r := by
 cases s with
 | false => exact beq_iff _ _
 | true =>
  show Nat.beq ((x ^ u + 1) % r) 0 = true ↔ (r - x % r) ^ u % r = 1 % r
  rw [beq_iff]
  have hx := Nat.mod_lt x (show 0 < r by omega)
  have h0 : r ∣ (r - x % r) + x := by
   refine ⟨1 + x / r, ?_⟩
   have := Nat.div_add_mod x r
   rw [Nat.mul_add, Nat.mul_one]
   omega
  have hd : r ∣ (r - x % r) ^ u + x ^ u := by
   have := odd_sum (r - x % r) x (u / 2)
   rw [show 2 * (u / 2) + 1 = u from by omega] at this
   exact Nat.dvd_trans h0 this
  have hp : 1 ≤ (r - x % r) ^ u := Nat.pow_pos (by omega)
  generalize (r - x % r) ^ u = y at *
  generalize x ^ u = z at *
  constructor
  ·intro h
   apply one_of_dvd hp
   have h2 := Nat.dvd_of_mod_eq_zero h
   have : y + z = (y - 1) + (z + 1) := by omega
   rw [this] at hd
   exact (Nat.dvd_add_left h2).1 hd
  ·intro h
   have h2 : r ∣ y - 1 := Nat.dvd_of_mod_eq_zero (Nat.sub_mod_eq_zero_of_mod_eq h)
   have : y + z = (y - 1) + (z + 1) := by omega
   rw [this] at hd
   exact Nat.mod_eq_zero_of_dvd ((Nat.dvd_add_right h2).1 hd)
theorem pone_sub {x u m r : Nat} {s : Bool} (h : pone x s u m = true) (hd : r ∣ m) : pone x s u r = true := by
 cases s with
 | false =>
  have h' : x ^ u % m = 1 % m := (beq_iff _ _).1 h
  refine (beq_iff _ _).2 ?_
  rw [← Nat.mod_mod_of_dvd _ hd, h', Nat.mod_mod_of_dvd _ hd]
 | true =>
  have h' : (x ^ u + 1) % m = 0 := (beq_iff _ _).1 h
  refine (beq_iff _ _).2 ?_
  rw [← Nat.mod_mod_of_dvd _ hd, h', Nat.zero_mod]

/-- The odd part of a number. -/
def oddp (fuel : Nat) : Nat → Nat := Nat.rec (fun n => n) (fun _ ih n => cond (Nat.beq (n % 2) 0) (ih (n / 2)) n) fuel
theorem oddp_spec : ∀ (fuel n : Nat), 0 < n → n < 2 ^ fuel → oddp fuel n % 2 = 1 ∧ ∃ k, n = oddp fuel n * 2 ^ k
 | 0, n, h0, h1 => by simp at h1; omega
 | f + 1, n, h0, h1 => by
  show (cond (Nat.beq (n % 2) 0) (oddp f (n / 2)) n) % 2 = 1 ∧ ∃ k, n = (cond (Nat.beq (n % 2) 0) (oddp f (n / 2)) n) * 2 ^ k
  by_cases h : n % 2 = 0
  ·rw [(beq_iff _ _).2 h]
   rw [Nat.pow_succ] at h1
   obtain ⟨h2, k, hk⟩ := oddp_spec f (n / 2) (by omega) (by omega)
   refine ⟨h2, k + 1, ?_⟩
   show n = oddp f (n / 2) * 2 ^ (k + 1)
   rw [Nat.pow_succ, ← Nat.mul_assoc, ← hk]
   omega
  ·have : Nat.beq (n % 2) 0 = false := by
    cases hb : Nat.beq (n % 2) 0 with
    | false => rfl
    | true => exact absurd ((beq_iff _ _).1 hb) h
   rw [this]
   exact ⟨by show n % 2 = 1; omega, 0, by simp⟩
theorem odd_dvd {g w : Nat} (hg : g % 2 = 1) : ∀ k, g ∣ w * 2 ^ k → g ∣ w
 | 0, h => by simpa using h
 | k + 1, h => by
  rw [Nat.pow_succ, ← Nat.mul_assoc] at h
  have hc : Nat.Coprime g 2 := by
   show Nat.gcd g 2 = 1
   rw [Nat.gcd_comm, Nat.gcd_rec, hg]
   rfl
  exact odd_dvd hg k (hc.dvd_of_dvd_mul_right h)
theorem dvd_odd {g u : Nat} (h : g ∣ u) (hu : u % 2 = 1) : g % 2 = 1 := by
 obtain ⟨z, rfl⟩ := h
 rcases Nat.mod_two_eq_zero_or_one g with h | h
 ·rw [Nat.mul_mod, h, Nat.zero_mul] at hu; simp at hu
 ·exact h

/-- What a prime that divides q has of q's powers: the greatest common divisor of the exponents. -/
theorem Pr.share {r x u q : Nat} {s : Bool} (hr : Pr r) (hu : u % 2 = 1) (hd : r ∣ q) (h : pone x s u q = true) :
  One (sb x s r) (Nat.gcd u (r - 1)) r := by
 have h1 := (pone_iff s hu hr.1).1 (pone_sub h hd)
 have h2 := h1.ndvd (by omega) hr.1
 have h3 : One (sb x s r) (r - 1) r := by
  show _ % r = 1 % r
  rw [hr.pow_pred h2, Nat.mod_eq_of_lt (by have := hr.1; omega)]
 exact One.gcd _ _ h1 h3
theorem Pr.share_of {r x u q w : Nat} {s : Bool} (hr : Pr r) (hu : u % 2 = 1) (hd : r ∣ q) (h : pone x s u q = true)
  (hw : w % 2 = 1) (hg : Nat.gcd u (r - 1) ∣ w) : pone x s w r = true :=
 (pone_iff s hw hr.1).2 ((hr.share hu hd h).dvd hg)

/-- All numbers below n. -/
def allN (p : Nat → Bool) (n : Nat) : Bool := Nat.rec true (fun k ih => cond (p k) ih false) n
theorem allN_sound (p : Nat → Bool) : ∀ n, allN p n = true → ∀ k, k < n → p k = true
 | 0, _, k, hk => by omega
 | n + 1, h, k, hk => by
  have h' : cond (p n) (allN p n) false = true := h
  cases hp : p n with
  | false => rw [hp] at h'; exact absurd h' (by simp)
  | true =>
   rw [hp] at h'
   rcases Nat.lt_or_eq_of_le (Nat.le_of_lt_succ hk) with h1 | h1
   ·exact allN_sound p n h' k h1
   ·exact h1 ▸ hp
/-- All numbers below 64 n, in blocks. -/
def allB (p : Nat → Bool) (n : Nat) : Bool := allN (fun i => allN (fun j => p (64 * i + j)) 64) n
theorem allB_sound {p : Nat → Bool} {n : Nat} (h : allB p n = true) (k : Nat) (hk : k < 64 * n) : p k = true := by
 have h1 := allN_sound _ n h (k / 64) (by omega)
 have h2 := allN_sound _ 64 h1 (k % 64) (by omega)
 rw [Nat.div_add_mod] at h2
 exact h2

/-- Three bases with their signs, and the small primes that may divide. -/
structure Cls where
 l : Nat
 x1 : Nat
 s1 : Bool
 x2 : Nat
 s2 : Bool
 x3 : Nat
 s3 : Bool
def Cls.conds (c : Cls) (u r : Nat) : Bool := cond (pone c.x1 c.s1 u r) (cond (pone c.x2 c.s2 u r) (pone c.x3 c.s3 u r) false) false
theorem Cls.conds_iff (c : Cls) (u r : Nat) : c.conds u r = true ↔ pone c.x1 c.s1 u r = true ∧ pone c.x2 c.s2 u r = true ∧ pone c.x3 c.s3 u r = true := by
 show cond (pone c.x1 c.s1 u r) (cond (pone c.x2 c.s2 u r) (pone c.x3 c.s3 u r) false) false = true ↔ _
 cases pone c.x1 c.s1 u r <;> cases pone c.x2 c.s2 u r <;> cases pone c.x3 c.s3 u r <;> simp

theorem Cls.share (c : Cls) {r u q w : Nat} (hr : Pr r) (hu : u % 2 = 1) (hd : r ∣ q) (h : c.conds u q = true)
  (hw : w % 2 = 1) (hg : Nat.gcd u (r - 1) ∣ w) : c.conds w r = true := by
 obtain ⟨h1, h2, h3⟩ := (c.conds_iff u q).1 h
 exact (c.conds_iff w r).2 ⟨hr.share_of hu hd h1 hw hg, hr.share_of hu hd h2 hw hg, hr.share_of hu hd h3 hw hg⟩

/-- x^u + 1, or x^u - 1. -/
def val (x : Nat) (s : Bool) (u : Nat) : Nat := cond s (x ^ u + 1) (x ^ u - 1)
theorem val_dvd {x u r : Nat} {s : Bool} (h : pone x s u r = true) : r ∣ val x s u := by
 cases s with
 | true => exact Nat.dvd_of_mod_eq_zero ((beq_iff _ _).1 h)
 | false => exact Nat.dvd_of_mod_eq_zero (Nat.sub_mod_eq_zero_of_mod_eq ((beq_iff _ _).1 h))

/-! ## B: a prime divisor of middling size -/
def pm (m : Nat) (fuel : Nat) : Nat → Nat → Nat :=
 Nat.rec (fun _ _ => 1 % m) (fun _ ih b e => cond (Nat.beq e 0) (1 % m) (cond (Nat.beq (e % 2) 1) (b * ih (b * b % m) (e / 2) % m) (ih (b * b % m) (e / 2)))) fuel
theorem pm_spec (m : Nat) : ∀ (fuel b e : Nat), e < 2 ^ fuel → pm m fuel b e = b ^ e % m
 | 0, b, e, h => by
  have : e = 0 := by simpa using h
  subst this
  rfl
 | f + 1, b, e, h => by
  rw [Nat.pow_succ] at h
  show cond (Nat.beq e 0) (1 % m) (cond (Nat.beq (e % 2) 1) (b * pm m f (b * b % m) (e / 2) % m) (pm m f (b * b % m) (e / 2))) = b ^ e % m
  rw [pm_spec m f (b * b % m) (e / 2) (by omega)]
  have e1 : (b * b % m) ^ (e / 2) % m = b ^ (2 * (e / 2)) % m := by
   rw [← Nat.pow_mod, Nat.pow_mul, Nat.pow_two]
  rw [e1]
  cases h0 : Nat.beq e 0 with
  | true =>
   have := (beq_iff _ _).1 h0
   subst this
   rfl
  | false =>
   cases h1 : Nat.beq (e % 2) 1 with
   | true =>
    have := (beq_iff _ _).1 h1
    show b * (b ^ (2 * (e / 2)) % m) % m = _
    rw [Nat.mul_mod, Nat.mod_mod, ← Nat.mul_mod, Nat.mul_comm, ← Nat.pow_succ]
    congr 2; omega
   | false =>
    have : e % 2 ≠ 1 := fun hh => by rw [(beq_iff _ _).2 hh] at h1; exact absurd h1 (by simp)
    show b ^ (2 * (e / 2)) % m = _
    congr 2; omega
/-- The first base refutes q. -/
def Cls.ref (c : Cls) (q : Nat) : Bool :=
 cond (Nat.beq (q % 8) 1) (cond (Nat.beq (q % c.l) 0)
  (cond c.s1 (cond (Nat.beq (pm q 32 c.x1 (oddp 32 (q - 1))) (q - 1))
    (cond c.s2 (cond (Nat.beq (pm q 32 c.x2 (oddp 32 (q - 1))) (q - 1)) false true) (cond (Nat.beq (pm q 32 c.x2 (oddp 32 (q - 1))) 1) false true)) true) false) true) true
/-! ## A: a great prime divisor, and a small cofactor -/
/-- What is left of g without the primes of Q is small, or all its great divisors are refuted. -/
def Cls.rest (c : Cls) (k h : Nat) : Bool :=
 cond (Nat.ble h 46340) true (allB (fun m => cond (Nat.beq m 0) true (cond (Nat.beq (h % m) 0)
  (cond (Nat.ble 2147483648 (h / m * k)) true (cond (Nat.ble (h / m * k) 1073741824) true (c.ref (h / m * k)))) true)) (h / 46341 / 64 + 1))
/-- The check of the cofactor k: what a prime above the bound would divide. -/
def Cls.small (c : Cls) (Q k : Nat) : Bool :=
 cond (Nat.beq k 1) true (
  let g := Nat.gcd (val c.x1 c.s1 (oddp 20 (k - 1))) (val c.x2 c.s2 (oddp 20 (k - 1)))
  cond (Nat.beq g 0) false (cond (Nat.ble g 46340) true (
   let g := Nat.gcd g (val c.x3 c.s3 (oddp 20 (k - 1)))
   cond (Nat.ble g 46340) true (c.rest k (g / Nat.gcd g (Q * Q))))))
def Cls.chkA (c : Cls) (Q n : Nat) : Bool := allB (fun i => c.small Q (c.l * (2 * i + 1))) n

/-- All multiples of r that are 1 modulo g. -/
def Cls.enum (c : Cls) (r g : Nat) : Bool :=
 allB (fun k => c.ref (r * (1 + g * ((1073741824 / r) / g + k)))) (((2147483648 / (r * g)) + 1 - (1073741824 / r) / g) / 64 + 1)
def Cls.mid (c : Cls) (r : Nat) : Bool :=
 let w := oddp 20 (r - 1)
 cond (c.conds w r)
  (allN (fun d => cond (Nat.beq d 0) true (cond (Nat.beq (w % d) 0)
   (cond (cond (c.conds d r) (c.enum r d) true) (cond (c.conds (w / d) r) (c.enum r (w / d)) true) false) true)) 160) true
def Cls.chkB (c : Cls) (a n : Nat) : Bool := allB (fun i => c.mid (2 * (a + i) + 1)) n

/-! ## C: small prime divisors -/
def Cls.low (c : Cls) (S : Nat → Bool) (r : Nat) : Bool :=
 cond (Nat.beq (r % 2) 0) true (cond (Nat.ble r 2) true (cond (S r) true (cond (c.conds (oddp 20 (r - 1)) r)
  (cond (allN (fun d => cond (Nat.ble d 1) true (cond (Nat.beq (r % d) 0) (Nat.beq d r) true)) 18) false true) true)))
end Go.Proofs.YtmjildbdkecolaaGreat
