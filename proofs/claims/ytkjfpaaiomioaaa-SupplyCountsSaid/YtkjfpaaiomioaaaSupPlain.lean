/- The plain law of a supply of bits: bits, the number of the next bits, a number below n, lists of such numbers. No program. -/
import Derived.WalkKit
namespace Go.Proofs.Ytkjfpaaiomioaaa

/-- Byte i of a string (0 beyond its end). -/
def byteAt (s : ByteArray) (i : Nat) : Nat := (s.data.toList.getD i 0).toNat
/-- Bit i of a string, of each byte the highest one first. -/
def bitAt (s : ByteArray) (i : Nat) : Nat := byteAt s (i / 8) / 2 ^ (7 - i % 8) % 2
/-- The number of the k bits from a on. -/
def valAt (s : ByteArray) (a : Nat) : Nat → Nat
  | 0 => 0
  | k + 1 => 2 * valAt s a k + bitAt s (a + k)

theorem bitAt_lt (s : ByteArray) (i : Nat) : bitAt s i < 2 := Nat.mod_lt _ (by decide)
theorem valAt_lt (s : ByteArray) (a k : Nat) : valAt s a k < 2 ^ k := by
  induction k with
  | zero => exact Nat.one_pos
  | succ k ih => have := bitAt_lt s (a + k); rw [valAt, Nat.pow_succ]; omega

/-- The number of binary digits. -/
def lenBits (n : Nat) : Nat := if n = 0 then 0 else Nat.log2 n + 1

theorem lenBits_zero : lenBits 0 = 0 := rfl
theorem lenBits_pos {n : Nat} (h : 0 < n) : 0 < lenBits n := by unfold lenBits; rw [if_neg (by omega)]; omega
theorem lt_lenBits (n : Nat) : n < 2 ^ lenBits n := by
  unfold lenBits
  by_cases h : n = 0
  · subst h; decide
  · rw [if_neg h]; exact Nat.lt_log2_self
theorem lenBits_half {n : Nat} (h : 0 < n) : lenBits n = lenBits (n / 2) + 1 := by
  unfold lenBits
  rw [if_neg (by omega)]
  by_cases h2 : n / 2 = 0
  · rw [if_pos h2]
    have : n = 1 := by omega
    subst this; rfl
  · rw [if_neg h2]
    have hn : 2 ≤ n := by omega
    rw [Nat.log2_def, if_pos hn]
theorem lenBits_le {n k : Nat} (h : n < 2 ^ k) : lenBits n ≤ k := by
  unfold lenBits
  by_cases h0 : n = 0
  · rw [if_pos h0]; omega
  · rw [if_neg h0]
    have := (Nat.log2_lt h0).2 h
    omega

/-- A number below n, of the bits from a on, with so many tries at most: the number, and where the next bit stands. -/
def belowF (s : ByteArray) (n k : Nat) : Nat → Nat → Option (Nat × Nat)
  | 0, _ => none
  | f + 1, a => if a + k ≤ 8 * s.size then (if valAt s a k < n then some (valAt s a k, a + k) else belowF s n k f (a + k)) else none

/-- A number below n. -/
def belowL (s : ByteArray) (n a : Nat) : Option (Nat × Nat) := belowF s n (lenBits (n - 1)) (8 * s.size + 1 - a) a

theorem belowF_more (s : ByteArray) (n k : Nat) (hk : 0 < k) : ∀ (f g a : Nat), 8 * s.size + 1 - a ≤ f → 8 * s.size + 1 - a ≤ g → a ≤ 8 * s.size → belowF s n k f a = belowF s n k g a
  | 0, g, a, hf, _, ha => by omega
  | f + 1, 0, a, _, hg, ha => by omega
  | f + 1, g + 1, a, hf, hg, ha => by
    unfold belowF
    by_cases h : a + k ≤ 8 * s.size
    · rw [if_pos h, if_pos h]
      by_cases h2 : valAt s a k < n
      · rw [if_pos h2, if_pos h2]
      · rw [if_neg h2, if_neg h2]; exact belowF_more s n k hk f g (a + k) (by omega) (by omega) h
    · rw [if_neg h, if_neg h]

/-- The bits do not suffice. -/
theorem belowL_none {s : ByteArray} {n a : Nat} (ha : a ≤ 8 * s.size) (h : 8 * s.size < a + lenBits (n - 1)) : belowL s n a = none := by
  unfold belowL
  rw [show 8 * s.size + 1 - a = (8 * s.size - a) + 1 from by omega, belowF, if_neg (by omega)]
/-- They are below n. -/
theorem belowL_some {s : ByteArray} {n a : Nat} (h : a + lenBits (n - 1) ≤ 8 * s.size) (hv : valAt s a (lenBits (n - 1)) < n) : belowL s n a = some (valAt s a (lenBits (n - 1)), a + lenBits (n - 1)) := by
  unfold belowL
  rw [show 8 * s.size + 1 - a = (8 * s.size - a) + 1 from by omega, belowF, if_pos h, if_pos hv]
/-- They are not. -/
theorem belowL_again {s : ByteArray} {n a : Nat} (hn : 0 < n) (h : a + lenBits (n - 1) ≤ 8 * s.size) (hv : ¬ valAt s a (lenBits (n - 1)) < n) : belowL s n a = belowL s n (a + lenBits (n - 1)) := by
  have hk : 0 < lenBits (n - 1) := by
    rcases Nat.eq_zero_or_pos (n - 1) with h0 | h0
    · exfalso; apply hv
      have := valAt_lt s a (lenBits (n - 1))
      rw [h0, lenBits_zero] at this ⊢
      simp at this; omega
    · exact lenBits_pos h0
  conv => lhs; unfold belowL
  rw [show 8 * s.size + 1 - a = (8 * s.size - a) + 1 from by omega, belowF, if_pos h, if_neg hv]
  unfold belowL
  exact belowF_more s n _ hk _ _ _ (by omega) (by omega) h
theorem belowF_spec (s : ByteArray) (n k : Nat) : ∀ (f a v c : Nat), belowF s n k f a = some (v, c) → v < n ∧ a + k ≤ c ∧ c ≤ 8 * s.size ∧ k ≤ c
  | 0, _, _, _, h => by simp [belowF] at h
  | f + 1, a, v, c, h => by
    unfold belowF at h
    by_cases h1 : a + k ≤ 8 * s.size
    · rw [if_pos h1] at h
      by_cases h2 : valAt s a k < n
      · rw [if_pos h2] at h; simp at h; obtain ⟨rfl, rfl⟩ := h; exact ⟨h2, by omega, h1, by omega⟩
      · rw [if_neg h2] at h; have := belowF_spec s n k f _ _ _ h; omega
    · rw [if_neg h1] at h; simp at h
theorem belowL_spec {s : ByteArray} {n a v c : Nat} (h : belowL s n a = some (v, c)) : v < n ∧ a ≤ c ∧ c ≤ 8 * s.size := by
  have := belowF_spec s n _ _ _ _ _ h; omega

/-- k numbers below m, one after the other: the numbers, and where the next bit stands. -/
def takeL (s : ByteArray) (m : Nat) : Nat → Nat → Option (List Nat × Nat)
  | 0, c => some ([], c)
  | k + 1, c => match takeL s m k c with
    | none => none
    | some (l, d) => match belowL s m d with
      | none => none
      | some (v, d') => some (l ++ [v], d')
theorem takeL_zero (s : ByteArray) (m c : Nat) : takeL s m 0 c = some ([], c) := rfl
theorem takeL_more {s : ByteArray} {m k c d v d' : Nat} {l : List Nat} (h : takeL s m k c = some (l, d)) (h2 : belowL s m d = some (v, d')) : takeL s m (k + 1) c = some (l ++ [v], d') := by
  rw [takeL, h]; simp only [h2]
theorem takeL_stop {s : ByteArray} {m k c d : Nat} {l : List Nat} (h : takeL s m k c = some (l, d)) (h2 : belowL s m d = none) : takeL s m (k + 1) c = none := by
  rw [takeL, h]; simp only [h2]
theorem takeL_none {s : ByteArray} {m k c : Nat} (h : takeL s m k c = none) : ∀ n, k ≤ n → takeL s m n c = none := by
  intro n hn
  obtain ⟨j, rfl⟩ : ∃ j, n = k + j := ⟨n - k, by omega⟩
  clear hn
  induction j with
  | zero => exact h
  | succ j ih => rw [← Nat.add_assoc, takeL, ih]
theorem takeL_spec {s : ByteArray} {m c : Nat} (hc : c ≤ 8 * s.size) : ∀ {k d : Nat} {l : List Nat}, takeL s m k c = some (l, d) → l.length = k ∧ (∀ v ∈ l, v < m) ∧ c ≤ d ∧ d ≤ 8 * s.size
  | 0, d, l, h => by simp [takeL] at h; obtain ⟨rfl, rfl⟩ := h; simp [hc]
  | k + 1, d, l, h => by
    rw [takeL] at h
    rcases h1 : takeL s m k c with _ | ⟨l1, d1⟩
    · rw [h1] at h; simp at h
    · rw [h1] at h
      obtain ⟨e1, e2, e3, e4⟩ := takeL_spec hc h1
      simp only at h
      rcases h2 : belowL s m d1 with _ | ⟨v, d2⟩
      · rw [h2] at h; simp at h
      · rw [h2] at h
        simp only [Option.some.injEq, Prod.mk.injEq] at h
        obtain ⟨rfl, rfl⟩ := h
        have := belowL_spec h2
        refine ⟨by simp [e1], ?_, by omega, by omega⟩
        intro x hx
        rw [List.mem_append] at hx
        rcases hx with hx | hx
        · exact e2 x hx
        · simp at hx; omega
theorem takeL_spec1 {s : ByteArray} {m c k d : Nat} {l : List Nat} (hc : c ≤ 8 * s.size) (h : takeL s m k c = some (l, d)) : l.length = k := (takeL_spec hc h).1
/-- What is filled up to k, and one more. -/
theorem fill_set {α : Type} (L : List α) (x z : α) (n : Nat) (h : L.length < n) : (L ++ List.replicate (n - L.length) z).set L.length x = (L ++ [x]) ++ List.replicate (n - (L.length + 1)) z := by
  obtain ⟨j, hj⟩ : ∃ j, n - L.length = j + 1 := ⟨n - L.length - 1, by omega⟩
  rw [hj, List.set_append_right _ _ (Nat.le_refl _), Nat.sub_self, List.replicate_succ, List.set_cons_zero, show n - (L.length + 1) = j from by omega]
  simp

theorem byteAt_eq (s : ByteArray) (i : Nat) (h : i < s.size) : byteAt s i = (s[i]'h).toNat := by
  unfold byteAt
  rw [List.getD_eq_getElem?_getD, List.getElem?_eq_getElem (by simpa using h)]
  rfl
theorem byteAt_lt (s : ByteArray) (i : Nat) : byteAt s i < 256 := UInt8.toNat_lt _

theorem and_one_u8 (x : Nat) (h : x < 256) : bits .and .u8 (x : Int) 1 = ((x % 2 : Nat) : Int) := by
  have := bits_mask .u8 8 (by decide) wraps_u8 1 (by decide) (x : Int) (by omega) (by omega)
  simpa using this
/-- One bit as the code takes it. -/
theorem bit_code (x e : Nat) (h : x < 256) : bits .and .u8 ((x : Int) / 2 ^ e) 1 = ((x / 2 ^ e % 2 : Nat) : Int) := by
  have e1 : ((x : Int) / 2 ^ e) = ((x / 2 ^ e : Nat) : Int) := by simp
  rw [e1]
  exact and_one_u8 _ (Nat.lt_of_le_of_lt (Nat.div_le_self _ _) h)
/-- One bit more, by a shift and an 'or'. -/
theorem bit_shift (v x e : Nat) (hv : v < 9223372036854775808) (hx : x < 256) :
    bits .or .u64 (IntKind.u64.wrap ((v : Int) * 2)) (IntKind.u64.wrap (bits .and .u8 ((x : Int) / 2 ^ e) 1)) = ((2 * v + x / 2 ^ e % 2 : Nat) : Int) := by
  rw [bit_code x e hx, IntWalk.u64_in _ (by omega), IntWalk.u64_in _ (by omega)]
  have e1 : ((v : Int) * 2) = ((2 ^ 1 * v : Nat) : Int) := by omega
  rw [e1, bits_or_u64_nat _ _ (by omega) (by omega), ← Nat.two_pow_add_eq_or_of_lt (by omega) v]
theorem valAt_step (s : ByteArray) (a k : Nat) (hk : k < 64) (h : (a + k) / 8 < s.size) :
    bits .or .u64 (IntKind.u64.wrap ((valAt s a k : Int) * 2)) (IntKind.u64.wrap (bits .and .u8 (((s[(a + k) / 8]'h).toNat : Int) / 2 ^ (7 - (a + k) % 8)) 1)) = ((valAt s a (k + 1) : Nat) : Int) := by
  have hv : valAt s a k < 9223372036854775808 := Nat.lt_of_lt_of_le (valAt_lt s a k) (by
    have := Nat.pow_le_pow_right (n := 2) (by decide) (show k ≤ 63 by omega)
    exact this)
  rw [bit_shift _ _ _ hv (UInt8.toNat_lt _), valAt, bitAt, byteAt_eq s _ h]

end Go.Proofs.Ytkjfpaaiomioaaa
