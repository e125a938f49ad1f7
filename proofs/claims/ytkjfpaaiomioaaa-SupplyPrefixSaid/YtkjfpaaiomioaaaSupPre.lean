/- The plain law of a prefix: what succeeded comes to the same of two strings that have the taken bits in common. -/
import Derived.Test.YtkjfpaaiomioaaaSupDL
namespace Go.Proofs.Ytkjfpaaiomioaaa

/-- Two strings have their first m bits in common. -/
structure Alike (s1 s2 : ByteArray) (m : Nat) : Prop where
  bit : ∀ i, i < m → bitAt s2 i = bitAt s1 i
  fit : m ≤ 8 * s2.size

section
variable {s1 s2 : ByteArray} {m : Nat}
theorem Alike.val (h : Alike s1 s2 m) (c : Nat) : ∀ k, c + k ≤ m → valAt s2 c k = valAt s1 c k
  | 0, _ => rfl
  | k + 1, hk => by rw [valAt, valAt, h.val c k (by omega), h.bit (c + k) (by omega)]
theorem Alike.below (h : Alike s1 s2 m) {n : Nat} (hn : 0 < n) : ∀ (g c v d : Nat), 8 * s1.size - c ≤ g → belowL s1 n c = some (v, d) → d ≤ m → belowL s2 n c = some (v, d) := by
  intro g
  induction g with
  | zero =>
    intro c v d hg hb hd
    have hs := belowL_spec hb
    by_cases h1 : 8 * s1.size < c + lenBits (n - 1)
    · rw [belowL_none (by omega) h1] at hb; simp at hb
    · by_cases h2 : valAt s1 c (lenBits (n - 1)) < n
      · rw [belowL_some (by omega) h2] at hb
        simp only [Option.some.injEq, Prod.mk.injEq] at hb
        obtain ⟨rfl, rfl⟩ := hb
        have hv := h.val c (lenBits (n - 1)) hd
        have hf := h.fit
        rw [← hv] at h2 ⊢
        exact belowL_some (by omega) h2
      · have hk : 0 < lenBits (n - 1) := by
          rcases Nat.eq_zero_or_pos (lenBits (n - 1)) with h0 | h0
          · rw [h0] at h2; exact absurd hn h2
          · exact h0
        omega
  | succ g ih =>
    intro c v d hg hb hd
    have hs := belowL_spec hb
    by_cases h1 : 8 * s1.size < c + lenBits (n - 1)
    · rw [belowL_none (by omega) h1] at hb; simp at hb
    · by_cases h2 : valAt s1 c (lenBits (n - 1)) < n
      · rw [belowL_some (by omega) h2] at hb
        simp only [Option.some.injEq, Prod.mk.injEq] at hb
        obtain ⟨rfl, rfl⟩ := hb
        have hv := h.val c (lenBits (n - 1)) hd
        have hf := h.fit
        rw [← hv] at h2 ⊢
        exact belowL_some (by omega) h2
      · have hk : 0 < lenBits (n - 1) := by
          rcases Nat.eq_zero_or_pos (lenBits (n - 1)) with h0 | h0
          · rw [h0] at h2; exact absurd hn h2
          · exact h0
        rw [belowL_again hn (by omega) h2] at hb
        have hs2 := belowL_spec hb
        have hv := h.val c (lenBits (n - 1)) (by omega)
        have hf := h.fit
        rw [← hv] at h2
        rw [belowL_again hn (by omega) h2]
        exact ih _ _ _ (by omega) hb hd
theorem Alike.take (h : Alike s1 s2 m) {q : Nat} (hq : 0 < q) : ∀ (k c d : Nat) (l : List Nat), takeL s1 q k c = some (l, d) → d ≤ m → takeL s2 q k c = some (l, d)
  | 0, c, d, l, ht, _ => by rw [takeL] at ht ⊢; exact ht
  | k + 1, c, d, l, ht, hd => by
    rcases h1 : takeL s1 q k c with _ | ⟨l1, d1⟩
    · rw [takeL_none h1 (k + 1) (by omega)] at ht; simp at ht
    · rcases h2 : belowL s1 q d1 with _ | ⟨v, d2⟩
      · rw [takeL_stop h1 h2] at ht; simp at ht
      · rw [takeL_more h1 h2] at ht
        simp only [Option.some.injEq, Prod.mk.injEq] at ht
        obtain ⟨rfl, rfl⟩ := ht
        have hs := belowL_spec h2
        exact takeL_more (h.take hq k c d1 l1 h1 (by omega)) (h.below hq _ d1 v d2 (Nat.le_refl _) h2 hd)
theorem Alike.tern (h : Alike s1 s2 m) {n : Nat} : ∀ (i c d : Nat) (L O : List Int), i ≤ n → ternF s1 n i c = some (L, O, d) → d ≤ m → ternF s2 n i c = some (L, O, d)
  | 0, c, d, L, O, _, ht, _ => by rw [ternF] at ht ⊢; exact ht
  | i + 1, c, d, L, O, hi, ht, hd => by
    rcases h1 : ternF s1 n i c with _ | ⟨L1, O1, d1⟩
    · rw [ternF_none h1 (i + 1) (by omega)] at ht; simp at ht
    · rcases h2 : belowL s1 (n - i) d1 with _ | ⟨j, d2⟩
      · rw [ternF_stop h1 h2] at ht; simp at ht
      · by_cases h3 : d2 < 8 * s1.size
        · rw [ternF_more h1 h2 h3] at ht
          simp only [Option.some.injEq, Prod.mk.injEq] at ht
          obtain ⟨rfl, rfl, rfl⟩ := ht
          have hs := belowL_spec h2
          have hf := h.fit
          have hb := h.bit d2 (by omega)
          have := ternF_more (h.tern i c d1 L1 O1 (by omega) h1 (by omega)) (h.below (by omega) _ d1 j d2 (Nat.le_refl _) h2 (by omega)) (by omega)
          rw [this, hb]
        · rw [ternF_short h1 h2 h3] at ht; simp at ht
end

/-- The error of an act. -/
def actE (s : ByteArray) (c what : Nat) (n h : Int) (q : Nat) : Int :=
  match what % 5 with
  | 0 => (bitsR s c n).2.1
  | 1 => (belowR s c q).2.1
  | 2 => (uniformR s c n (q % 4294967296)).2.1
  | 3 => (ternaryR s c n h).2.1
  | _ => (boundedR s c n (q % 4294967296)).2.1

theorem bitsR_fails {s : ByteArray} {c : Nat} {n : Int} (he : (bitsR s c n).2.1 ≠ 0) : (bitsR s c n).2.2 = c := by
  unfold bitsR at *
  split at he
  · rw [if_pos (by assumption)]
  · rw [if_neg (by assumption)]
    split at he
    · exact absurd rfl he
    · rw [if_neg (by assumption)]
theorem belowR_fails {s : ByteArray} {c n : Nat} (he : (belowR s c n).2.1 ≠ 0) : (belowR s c n).2.2 = c := by
  unfold belowR at *
  by_cases h1 : n = 0
  · rw [if_pos h1]
  · rw [if_neg h1] at he ⊢
    rcases h : belowL s n c with _ | ⟨v, d⟩
    · rfl
    · rw [h] at he; exact absurd rfl he
theorem uniformR_fails {s : ByteArray} {c q : Nat} {n : Int} (he : (uniformR s c n q).2.1 ≠ 0) : (uniformR s c n q).2.2 = c := by
  unfold uniformR at *
  by_cases h1 : n < 0 ∨ 4096 < n ∨ q < 1
  · rw [if_pos h1]
  · rw [if_neg h1] at he ⊢
    rcases h : takeL s q n.toNat c with _ | ⟨v, d⟩
    · rfl
    · rw [h] at he; exact absurd rfl he
theorem boundedR_fails {s : ByteArray} {c q : Nat} {n : Int} (he : (boundedR s c n q).2.1 ≠ 0) : (boundedR s c n q).2.2 = c := by
  unfold boundedR at *
  by_cases h1 : n < 0 ∨ 4096 < n ∨ 2147483647 < q
  · rw [if_pos h1]
  · rw [if_neg h1] at he ⊢
    rcases h : takeL s (2 * q + 1) n.toNat c with _ | ⟨v, d⟩
    · rfl
    · rw [h] at he; exact absurd rfl he
theorem ternaryR_fails {s : ByteArray} {c : Nat} {n h : Int} (he : (ternaryR s c n h).2.1 ≠ 0) : (ternaryR s c n h).2.2 = c := by
  unfold ternaryR at *
  by_cases h1 : n < 1 ∨ 4096 < n ∨ h < 0 ∨ n < h
  · rw [if_pos h1]
  · rw [if_neg h1] at he ⊢
    rcases h : ternF s n.toNat h.toNat c with _ | ⟨L, O, d⟩
    · rfl
    · rw [h] at he; exact absurd rfl he

/-- What fails takes nothing. -/
theorem actD_fails {s : ByteArray} {c what : Nat} {n h : Int} {q : Nat} (he : actE s c what n h q ≠ 0) : actD s c what n h q = c := by
  unfold actE at he
  unfold actD
  rcases (show what % 5 = 0 ∨ what % 5 = 1 ∨ what % 5 = 2 ∨ what % 5 = 3 ∨ what % 5 = 4 by omega) with h5 | h5 | h5 | h5 | h5
  · rw [h5] at he ⊢; exact bitsR_fails he
  · rw [h5] at he ⊢; exact belowR_fails he
  · rw [h5] at he ⊢; exact uniformR_fails he
  · rw [h5] at he ⊢; exact ternaryR_fails he
  · rw [h5] at he ⊢; exact boundedR_fails he

section
variable {s1 s2 : ByteArray} {m : Nat}
theorem Alike.bitsR (h : Alike s1 s2 m) {c : Nat} {n : Int} (he : (bitsR s1 c n).2.1 = 0) (hd : (Go.Proofs.Ytkjfpaaiomioaaa.bitsR s1 c n).2.2 ≤ m) : Go.Proofs.Ytkjfpaaiomioaaa.bitsR s2 c n = Go.Proofs.Ytkjfpaaiomioaaa.bitsR s1 c n := by
  unfold Go.Proofs.Ytkjfpaaiomioaaa.bitsR at *
  by_cases h1 : n < 1 ∨ 64 < n
  · rw [if_pos h1] at he; exact absurd (show (2 : Int) = 0 from he) (by decide)
  · rw [if_neg h1] at he hd ⊢
    by_cases h2 : c + n.toNat ≤ 8 * s1.size
    · rw [if_pos h2] at hd
      have hf := h.fit
      rw [if_neg h1, if_pos h2, if_pos (by simp at hd; omega), h.val c _ (by simpa using hd)]
    · rw [if_neg h2] at he; exact absurd (show (4 : Int) = 0 from he) (by decide)
theorem Alike.belowR (h : Alike s1 s2 m) {c n : Nat} (he : (belowR s1 c n).2.1 = 0) (hd : (Go.Proofs.Ytkjfpaaiomioaaa.belowR s1 c n).2.2 ≤ m) : Go.Proofs.Ytkjfpaaiomioaaa.belowR s2 c n = Go.Proofs.Ytkjfpaaiomioaaa.belowR s1 c n := by
  unfold Go.Proofs.Ytkjfpaaiomioaaa.belowR at *
  by_cases h1 : n = 0
  · rw [if_pos h1] at he; exact absurd (show (2 : Int) = 0 from he) (by decide)
  · rw [if_neg h1] at he hd ⊢
    rw [if_neg h1]
    rcases h2 : belowL s1 n c with _ | ⟨v, d⟩
    · rw [h2] at he; exact absurd (show (4 : Int) = 0 from he) (by decide)
    · rw [h2] at hd
      rw [h.below (by omega) _ c v d (Nat.le_refl _) h2 hd]
theorem Alike.uniformR (h : Alike s1 s2 m) {c q : Nat} {n : Int} (he : (uniformR s1 c n q).2.1 = 0) (hd : (Go.Proofs.Ytkjfpaaiomioaaa.uniformR s1 c n q).2.2 ≤ m) : Go.Proofs.Ytkjfpaaiomioaaa.uniformR s2 c n q = Go.Proofs.Ytkjfpaaiomioaaa.uniformR s1 c n q := by
  unfold Go.Proofs.Ytkjfpaaiomioaaa.uniformR at *
  by_cases h1 : n < 0 ∨ 4096 < n ∨ q < 1
  · rw [if_pos h1] at he; exact absurd (show (2 : Int) = 0 from he) (by decide)
  · rw [if_neg h1] at he hd ⊢
    rw [if_neg h1]
    rcases h2 : takeL s1 q n.toNat c with _ | ⟨l, d⟩
    · rw [h2] at he; exact absurd (show (4 : Int) = 0 from he) (by decide)
    · rw [h2] at hd
      rw [h.take (by omega) _ c d l h2 hd]
theorem Alike.boundedR (h : Alike s1 s2 m) {c q : Nat} {n : Int} (he : (boundedR s1 c n q).2.1 = 0) (hd : (Go.Proofs.Ytkjfpaaiomioaaa.boundedR s1 c n q).2.2 ≤ m) : Go.Proofs.Ytkjfpaaiomioaaa.boundedR s2 c n q = Go.Proofs.Ytkjfpaaiomioaaa.boundedR s1 c n q := by
  unfold Go.Proofs.Ytkjfpaaiomioaaa.boundedR at *
  by_cases h1 : n < 0 ∨ 4096 < n ∨ 2147483647 < q
  · rw [if_pos h1] at he; exact absurd (show (2 : Int) = 0 from he) (by decide)
  · rw [if_neg h1] at he hd ⊢
    rw [if_neg h1]
    rcases h2 : takeL s1 (2 * q + 1) n.toNat c with _ | ⟨l, d⟩
    · rw [h2] at he; exact absurd (show (4 : Int) = 0 from he) (by decide)
    · rw [h2] at hd
      rw [h.take (by omega) _ c d l h2 hd]
theorem Alike.ternaryR (h : Alike s1 s2 m) {c : Nat} {n k : Int} (he : (ternaryR s1 c n k).2.1 = 0) (hd : (Go.Proofs.Ytkjfpaaiomioaaa.ternaryR s1 c n k).2.2 ≤ m) : Go.Proofs.Ytkjfpaaiomioaaa.ternaryR s2 c n k = Go.Proofs.Ytkjfpaaiomioaaa.ternaryR s1 c n k := by
  unfold Go.Proofs.Ytkjfpaaiomioaaa.ternaryR at *
  by_cases h1 : n < 1 ∨ 4096 < n ∨ k < 0 ∨ n < k
  · rw [if_pos h1] at he; exact absurd (show (2 : Int) = 0 from he) (by decide)
  · rw [if_neg h1] at he hd ⊢
    rw [if_neg h1]
    rcases h2 : ternF s1 n.toNat k.toNat c with _ | ⟨L, O, d⟩
    · rw [h2] at he; exact absurd (show (4 : Int) = 0 from he) (by decide)
    · rw [h2] at hd
      rw [h.tern _ c d L O (by omega) h2 hd]
/-- What succeeds of the first string within the common bits comes to the same of the second. -/
theorem Alike.act (h : Alike s1 s2 m) {c what : Nat} {n k : Int} {q : Nat} (he : actE s1 c what n k q = 0) (hd : actD s1 c what n k q ≤ m) : Agree s2 s1 c what n k q := by
  unfold actE at he
  unfold actD at hd
  refine ⟨fun h5 => ?_, fun h5 => ?_, fun h5 => ?_, fun h5 => ?_, fun h5 => ?_⟩
  · rw [h5] at he hd; exact (h.bitsR he hd).symm
  · rw [h5] at he hd; exact (h.belowR he hd).symm
  · rw [h5] at he hd; exact (h.uniformR he hd).symm
  · rw [h5] at he hd; exact (h.ternaryR he hd).symm
  · rw [h5] at he hd; exact (h.boundedR he hd).symm
theorem Agree.actD {c what : Nat} {n k : Int} {q : Nat} (h : Agree s2 s1 c what n k q) : actD s2 c what n k q = Go.Proofs.Ytkjfpaaiomioaaa.actD s1 c what n k q := by
  obtain ⟨A0, A1, A2, A3, A4⟩ := h
  unfold Go.Proofs.Ytkjfpaaiomioaaa.actD
  rcases (show what % 5 = 0 ∨ what % 5 = 1 ∨ what % 5 = 2 ∨ what % 5 = 3 ∨ what % 5 = 4 by omega) with h5 | h5 | h5 | h5 | h5
  · rw [h5]; exact congrArg (fun r => r.2.2) (A0 h5).symm
  · rw [h5]; exact congrArg (fun r => r.2.2) (A1 h5).symm
  · rw [h5]; exact congrArg (fun r => r.2.2) (A2 h5).symm
  · rw [h5]; exact congrArg (fun r => r.2.2) (A3 h5).symm
  · rw [h5]; exact congrArg (fun r => r.2.2) (A4 h5).symm
end

/-- Where the next bit stands behind k acts. -/
def posAt (s : ByteArray) (ac : Nat → Nat × Int × Int × Nat) : Nat → Nat
  | 0 => 0
  | k + 1 => actD s (posAt s ac k) (ac k).1 (ac k).2.1 (ac k).2.2.1 (ac k).2.2.2
theorem posAt_le (s : ByteArray) (ac : Nat → Nat × Int × Int × Nat) : ∀ k, posAt s ac k ≤ 8 * s.size
  | 0 => Nat.zero_le _
  | k + 1 => (actD_le (posAt_le s ac k) _ _ _ _).2
theorem posAt_mono (s : ByteArray) (ac : Nat → Nat × Int × Int × Nat) (k : Nat) : ∀ j, posAt s ac k ≤ posAt s ac (k + j)
  | 0 => Nat.le_refl _
  | j + 1 => Nat.le_trans (posAt_mono s ac k j) (actD_le (posAt_le s ac (k + j)) _ _ _ _).1
/-- The first n bytes of a string, and others behind them. -/
theorem alike_extract (s r : ByteArray) (n : Nat) (hn : n ≤ s.size) : Alike s (s.extract 0 n ++ r) (8 * n) := by
  have e1 : (s.extract 0 n ++ r).data.toList = s.data.toList.take n ++ r.data.toList := by
    simp [ByteArray.data_append, ByteArray.data_extract]
  have e2 : (s.extract 0 n ++ r).size = n + r.size := by
    rw [ByteArray.size_append, ByteArray.size_extract]; omega
  refine ⟨fun i hi => ?_, by rw [e2]; omega⟩
  unfold bitAt byteAt
  rw [e1]
  have hi8 : i / 8 < n := by omega
  have hlen : s.data.toList.length = s.size := by simp
  rw [List.getD_eq_getElem?_getD, List.getD_eq_getElem?_getD, List.getElem?_append_left (by rw [List.length_take, hlen]; omega), List.getElem?_take, if_pos hi8]
end Go.Proofs.Ytkjfpaaiomioaaa
