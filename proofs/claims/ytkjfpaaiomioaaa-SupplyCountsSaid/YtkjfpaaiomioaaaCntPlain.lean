/- The plain law of counting: one byte's first bits; a ternary list has its weight; bounded numbers lie within their bound. -/
import Derived.Test.YtkjfpaaiomioaaaSupDL
namespace Go.Proofs.Ytkjfpaaiomioaaa

/-- The first k bits of a string are its first byte's. -/
theorem valAt_byte (s : ByteArray) : ∀ k, k ≤ 8 → valAt s 0 k = byteAt s 0 / 2 ^ (8 - k)
  | 0, _ => by
    have := byteAt_lt s 0
    rw [valAt]; show 0 = byteAt s 0 / 2 ^ 8
    exact (Nat.div_eq_of_lt this).symm
  | k + 1, hk => by
    rw [valAt, valAt_byte s k (by omega), bitAt, Nat.zero_add, show k / 8 = 0 from by omega, show k % 8 = k from by omega]
    rw [show 8 - k = (7 - k) + 1 from by omega, show 8 - (k + 1) = 7 - k from by omega, Nat.pow_succ, ← Nat.div_div_eq_div_mul]
    omega

theorem pow_le_256 {k : Nat} (hk : k ≤ 8) : 2 ^ k * 2 ^ (8 - k) = 256 := by
  rw [← Nat.pow_add, show k + (8 - k) = 8 from by omega]
theorem shift_byte {x k : Nat} (hk : k ≤ 8) (hx : x < 2 ^ k) : x * 2 ^ (8 - k) < 256 := by
  rw [← pow_le_256 hk]
  exact Nat.mul_lt_mul_of_pos_right hx (Nat.two_pow_pos _)

/-- What is taken of one byte, whose first k bits are x: x itself, and k bits; or else not just k bits. -/
theorem belowR_byte {s : ByteArray} {m k x : Nat} (hs : s.size = 1) (hm : 1 ≤ m) (hk : lenBits (m - 1) = k) (hk8 : k ≤ 8) (hb : byteAt s 0 = x * 2 ^ (8 - k)) :
    (x < m → belowR s 0 m = (x, 0, k)) ∧ (¬ x < m → (belowR s 0 m).2.1 = 0 → (belowR s 0 m).2.2 ≠ k) := by
  have hv : valAt s 0 (lenBits (m - 1)) = x := by
    rw [hk, valAt_byte s k hk8, hb, Nat.mul_div_cancel _ (Nat.two_pow_pos _)]
  constructor
  · intro hx
    rw [belowR, if_neg (by omega), belowL_some (by rw [hk, hs]; omega) (by rw [hv]; exact hx)]
    show (valAt s 0 (lenBits (m - 1)), (0 : Int), 0 + lenBits (m - 1)) = _
    rw [hv, hk, Nat.zero_add]
  · intro hx h0
    have hk0 : 0 < k := by
      rcases Nat.eq_zero_or_pos k with e | e
      · subst e
        exfalso; apply hx
        have := valAt_lt s 0 (lenBits (m - 1))
        rw [hv, hk] at this
        simp at this; omega
      · exact e
    rw [belowR, if_neg (by omega), belowL_again (by omega) (by rw [hk, hs]; omega) (by rw [hv]; exact hx)] at h0 ⊢
    rcases hL : belowL s m (0 + lenBits (m - 1)) with _ | ⟨v, d⟩
    · rw [hL] at h0; exact absurd (show (4 : Int) = 0 from h0) (by decide)
    · have hF := hL
      unfold belowL at hF
      have := belowF_spec s m _ _ _ _ _ hF
      show d ≠ k
      omega

/-- The number of elements that are not zero. -/
def nz (l : List Int) : Nat := (l.filter (fun x => x ≠ 0)).length
theorem nz_nil : nz [] = 0 := rfl
theorem nz_snoc (l : List Int) (x : Int) : nz (l ++ [x]) = nz l + if x = 0 then 0 else 1 := by
  unfold nz
  rw [List.filter_append, List.length_append]
  by_cases h : x = 0 <;> simp [h]
theorem nz_cons (l : List Int) (x : Int) : nz (x :: l) = (if x = 0 then 0 else 1) + nz l := by
  unfold nz
  by_cases h : x = 0
  · simp [h]
  · simp [h]; omega
theorem nz_set : ∀ (l : List Int) (p : Nat) (x : Int), p < l.length → l.getD p 0 = 0 → x ≠ 0 → nz (l.set p x) = nz l + 1
  | [], p, x, h, _, _ => by simp at h
  | y :: l, 0, x, _, h0, hx => by
    have hy : y = 0 := by simpa using h0
    rw [List.set_cons_zero, nz_cons, nz_cons, if_neg hx, if_pos hy]; omega
  | y :: l, p + 1, x, h, h0, hx => by
    rw [List.set_cons_succ, nz_cons, nz_cons, nz_set l p x (by simpa using h) (by simpa using h0) hx]; omega
theorem nz_replicate (n : Nat) : nz (List.replicate n 0) = 0 := by
  unfold nz; simp
theorem nz_take (l : List Int) (k : Nat) (h : k < l.length) : nz (l.take (k + 1)) = nz (l.take k) + if l.getD k 0 = 0 then 0 else 1 := by
  rw [List.take_succ_eq_append_getElem h, nz_snoc, List.getD_eq_getElem?_getD, List.getElem?_eq_getElem h]; rfl

/-- No place stands twice in a list of places. -/
def Inj (L : List Int) : Prop := ∀ a b, a < L.length → b < L.length → L.getD a 0 = L.getD b 0 → a = b
theorem getD_set (L : List Int) (k t : Nat) (x : Int) (hk : k < L.length) : (L.set k x).getD t 0 = if t = k then x else L.getD t 0 := by
  rw [List.getD_eq_getElem?_getD, List.getElem?_set, List.getD_eq_getElem?_getD]
  by_cases h : k = t
  · subst h; simp [hk]
  · rw [if_neg h, if_neg (fun e => h e.symm)]
theorem getD_swapL (L : List Int) (i k t : Nat) (hi : i < L.length) (hk : k < L.length) : (swapL L i k).getD t 0 = if t = k then L.getD i 0 else if t = i then L.getD k 0 else L.getD t 0 := by
  unfold swapL
  rw [getD_set _ _ _ _ (by simpa using hk), getD_set _ _ _ _ hi]
theorem inj_swapL {L : List Int} {i k : Nat} (hi : i < L.length) (hk : k < L.length) (h : Inj L) : Inj (swapL L i k) := by
  intro a b ha hb e
  rw [length_swapL] at ha hb
  by_cases hik : i = k
  · subst hik
    have hs : ∀ t, (swapL L i i).getD t 0 = L.getD t 0 := by
      intro t
      rw [getD_swapL L i i t hi hi]
      by_cases ht : t = i
      · rw [if_pos ht, ht]
      · rw [if_neg ht, if_neg ht]
    rw [hs, hs] at e
    exact h a b ha hb e
  rw [getD_swapL L i k a hi hk, getD_swapL L i k b hi hk] at e
  by_cases a1 : a = k
  · rw [if_pos a1] at e
    by_cases b1 : b = k
    · omega
    · rw [if_neg b1] at e
      by_cases b2 : b = i
      · rw [if_pos b2] at e; have := h _ _ hi hk e; omega
      · rw [if_neg b2] at e; have := h _ _ hi hb e; omega
  · rw [if_neg a1] at e
    by_cases b1 : b = k
    · rw [if_pos b1] at e
      by_cases a2 : a = i
      · rw [if_pos a2] at e; have := h _ _ hk hi e; omega
      · rw [if_neg a2] at e; have := h _ _ ha hi e; omega
    · rw [if_neg b1] at e
      by_cases a2 : a = i
      · rw [if_pos a2] at e
        by_cases b2 : b = i
        · omega
        · rw [if_neg b2] at e; have := h _ _ hk hb e; omega
      · rw [if_neg a2] at e
        by_cases b2 : b = i
        · rw [if_pos b2] at e; have := h _ _ ha hk e; omega
        · rw [if_neg b2] at e; exact h _ _ ha hb e
theorem inj_range (n : Nat) : Inj ((List.range n).map (fun k : Nat => (k : Int))) := by
  intro a b ha hb e
  simp at ha hb
  simp [List.getD_eq_getElem?_getD, ha, hb] at e
  omega

/-- Behind i signs: the weight is i; the signs are 1 and -1; the places from i on are free. -/
theorem ternF_weight {s : ByteArray} {n c : Nat} (hc : c ≤ 8 * s.size) : ∀ {i d : Nat} {L O : List Int}, i ≤ n → ternF s n i c = some (L, O, d) →
    Inj L ∧ nz O = i ∧ (∀ x ∈ O, -1 ≤ x ∧ x ≤ 1) ∧ (∀ t, i ≤ t → t < n → O.getD (L.getD t 0).toNat 0 = 0)
  | 0, d, L, O, _, h => by
    simp [ternF] at h; obtain ⟨rfl, rfl, rfl⟩ := h
    refine ⟨inj_range n, nz_replicate n, ?_, ?_⟩
    · intro x hx; have := List.eq_of_mem_replicate hx; omega
    · intro t _ _
      rw [List.getD_eq_getElem?_getD, List.getElem?_replicate]
      split <;> rfl
  | i + 1, d, L, O, hi, h => by
    rcases h1 : ternF s n i c with _ | ⟨L1, O1, d1⟩
    · rw [ternF_none h1 (i + 1) (by omega)] at h; simp at h
    · obtain ⟨e1, e2, e3, e4⟩ := ternF_weight hc (by omega) h1
      obtain ⟨l1, l2, l3, l4⟩ := ternF_spec hc (by omega) h1
      rcases h2 : belowL s (n - i) d1 with _ | ⟨j, d2⟩
      · rw [ternF_stop h1 h2] at h; simp at h
      · by_cases h3 : d2 < 8 * s.size
        · rw [ternF_more h1 h2 h3] at h
          simp only [Option.some.injEq, Prod.mk.injEq] at h
          obtain ⟨rfl, rfl, rfl⟩ := h
          have hj := (belowL_spec h2).1
          have hil : i < L1.length := by omega
          have hkl : i + j < L1.length := by omega
          have hp : (swapL L1 i (i + j)).getD i 0 = L1.getD (i + j) 0 := getD_swapL_lo _ _ _ hil hkl
          have hq := l3 _ (mem_getD hkl)
          have hbit := bitAt_lt s d2
          rw [hp]
          have hplen : (L1.getD (i + j) 0).toNat < O1.length := by omega
          refine ⟨inj_swapL hil hkl e1, ?_, ?_, ?_⟩
          · rw [nz_set _ _ _ hplen (e4 (i + j) (by omega) (by omega)) (by omega), e2]
          · intro x hx
            rcases List.mem_or_eq_of_mem_set hx with hx | hx
            · exact e3 x hx
            · omega
          · intro t ht htn
            rw [getD_set _ _ _ _ hplen]
            have ht1 : t < L1.length := by omega
            have hinj := inj_swapL hil hkl e1 t i (by rw [length_swapL]; exact ht1) (by rw [length_swapL]; exact hil)
            have hm := l3 ((swapL L1 i (i + j)).getD t 0) (mem_swapL L1 i (i + j) hil hkl _ (mem_getD (by rw [length_swapL]; exact ht1)))
            rw [if_neg (by
              intro e
              have : (swapL L1 i (i + j)).getD t 0 = (swapL L1 i (i + j)).getD i 0 := by rw [hp]; omega
              have := hinj this
              omega)]
            rw [getD_swapL L1 i (i + j) t hil hkl]
            by_cases t1 : t = i + j
            · rw [if_pos t1]; exact e4 i (Nat.le_refl _) (by omega)
            · rw [if_neg t1, if_neg (by omega)]; exact e4 t (by omega) htn
        · rw [ternF_short h1 h2 h3] at h; simp at h

/-- What Ternary returns without an error. -/
theorem ternaryR_ok {s : ByteArray} {m h : Nat} (h1 : 1 ≤ m) (h2 : m ≤ 4096) (h3 : h ≤ m) :
    ((ternaryR s 0 m h).2.1 = 0 ∧ (ternaryR s 0 m h).1.length = m ∧ nz (ternaryR s 0 m h).1 = h ∧ ∀ x ∈ (ternaryR s 0 m h).1, -1 ≤ x ∧ x ≤ 1) ∨ ((ternaryR s 0 m h).2.1 = 4 ∧ (ternaryR s 0 m h).1 = []) := by
  rw [ternaryR, if_neg (by omega), Int.toNat_natCast, Int.toNat_natCast]
  rcases hh : ternF s m h 0 with _ | ⟨L, O, d⟩
  · exact .inr ⟨rfl, rfl⟩
  · have a := ternF_spec (Nat.zero_le _) h3 hh
    have b := ternF_weight (Nat.zero_le _) h3 hh
    exact .inl ⟨rfl, a.2.1, b.2.1, b.2.2.1⟩
/-- What Bounded returns without an error. -/
theorem boundedR_ok {s : ByteArray} {m b : Nat} (h2 : m ≤ 4096) (h3 : b ≤ 1000) :
    ((boundedR s 0 m b).2.1 = 0 ∧ (boundedR s 0 m b).1.length = m ∧ ∀ x ∈ (boundedR s 0 m b).1, -(b : Int) ≤ x ∧ x ≤ b) ∨ ((boundedR s 0 m b).2.1 = 4 ∧ (boundedR s 0 m b).1 = []) := by
  rw [boundedR, if_neg (by omega), Int.toNat_natCast]
  rcases hh : takeL s (2 * b + 1) m 0 with _ | ⟨l, d⟩
  · exact .inr ⟨rfl, rfl⟩
  · have a := takeL_spec (Nat.zero_le _) hh
    refine .inl ⟨rfl, by simp [a.1], ?_⟩
    intro x hx
    simp only [List.mem_map] at hx
    obtain ⟨v, hv, rfl⟩ := hx
    have := a.2.1 v hv
    omega
end Go.Proofs.Ytkjfpaaiomioaaa
