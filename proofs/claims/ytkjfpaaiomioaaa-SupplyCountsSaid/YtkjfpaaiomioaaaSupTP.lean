/- The plain law of ternary lists. No program. -/
import Derived.Test.YtkjfpaaiomioaaaSupPlain
namespace Go.Proofs.Ytkjfpaaiomioaaa

/-- Two elements of a list change places: first i gets what stood at k, then k what stood at i. -/
def swapL (L : List Int) (i k : Nat) : List Int := (L.set i (L.getD k 0)).set k (L.getD i 0)
/-- The first i signs are placed: the places, the list, where the next bit stands. -/
def ternF (s : ByteArray) (n : Nat) : Nat → Nat → Option (List Int × List Int × Nat)
  | 0, c => some ((List.range n).map (fun k : Nat => (k : Int)), List.replicate n 0, c)
  | i + 1, c => match ternF s n i c with
    | none => none
    | some (L, O, d) => match belowL s (n - i) d with
      | none => none
      | some (j, d1) => if d1 < 8 * s.size then some (swapL L i (i + j), O.set ((swapL L i (i + j)).getD i 0).toNat (1 - 2 * (bitAt s d1 : Int)), d1 + 1) else none
/-- What Ternary comes to. -/
def ternaryR (s : ByteArray) (c : Nat) (n h : Int) : List Int × Int × Nat := if n < 1 ∨ 4096 < n ∨ h < 0 ∨ n < h then ([], 2, c) else match ternF s n.toNat h.toNat c with
  | some (_, O, d) => (O, 0, d)
  | none => ([], 4, c)

theorem ternF_more {s : ByteArray} {n i c d j d1 : Nat} {L O : List Int} (h : ternF s n i c = some (L, O, d)) (h2 : belowL s (n - i) d = some (j, d1)) (h3 : d1 < 8 * s.size) :
    ternF s n (i + 1) c = some (swapL L i (i + j), O.set ((swapL L i (i + j)).getD i 0).toNat (1 - 2 * (bitAt s d1 : Int)), d1 + 1) := by
  rw [ternF, h]; simp only [h2, if_pos h3]
theorem ternF_stop {s : ByteArray} {n i c d : Nat} {L O : List Int} (h : ternF s n i c = some (L, O, d)) (h2 : belowL s (n - i) d = none) : ternF s n (i + 1) c = none := by
  rw [ternF, h]; simp only [h2]
theorem ternF_short {s : ByteArray} {n i c d j d1 : Nat} {L O : List Int} (h : ternF s n i c = some (L, O, d)) (h2 : belowL s (n - i) d = some (j, d1)) (h3 : ¬ d1 < 8 * s.size) : ternF s n (i + 1) c = none := by
  rw [ternF, h]; simp only [h2, if_neg h3]
theorem ternF_none {s : ByteArray} {n i c : Nat} (h : ternF s n i c = none) : ∀ k, i ≤ k → ternF s n k c = none := by
  intro k hk
  obtain ⟨j, rfl⟩ : ∃ j, k = i + j := ⟨k - i, by omega⟩
  clear hk
  induction j with
  | zero => exact h
  | succ j ih => rw [← Nat.add_assoc, ternF, ih]

theorem length_swapL (L : List Int) (i k : Nat) : (swapL L i k).length = L.length := by simp [swapL]
theorem getD_swapL_lo (L : List Int) (i k : Nat) (hi : i < L.length) (hk : k < L.length) : (swapL L i k).getD i 0 = L.getD k 0 := by
  unfold swapL
  by_cases h : i = k
  · subst h; simp [List.getD_eq_getElem?_getD, hi]
  · have h2 : ¬ k = i := fun e => h e.symm
    simp [List.getD_eq_getElem?_getD, h2, hi, hk]
theorem mem_swapL (L : List Int) (i k : Nat) (hi : i < L.length) (hk : k < L.length) (x : Int) (h : x ∈ swapL L i k) : x ∈ L := by
  unfold swapL at h
  rcases List.mem_or_eq_of_mem_set h with h | h
  · rcases List.mem_or_eq_of_mem_set h with h | h
    · exact h
    · subst h; simp [List.getD_eq_getElem?_getD, hk]
  · subst h; simp [List.getD_eq_getElem?_getD, hi]
/-- Places and list have their length; a place is one. -/
theorem ternF_spec {s : ByteArray} {n c : Nat} (hc : c ≤ 8 * s.size) : ∀ {i d : Nat} {L O : List Int}, i ≤ n → ternF s n i c = some (L, O, d) → L.length = n ∧ O.length = n ∧ (∀ x ∈ L, 0 ≤ x ∧ x < n) ∧ d ≤ 8 * s.size
  | 0, d, L, O, _, h => by
    simp [ternF] at h; obtain ⟨rfl, rfl, rfl⟩ := h
    refine ⟨by simp, by simp, ?_, hc⟩
    intro x hx; simp at hx; obtain ⟨k, hk, rfl⟩ := hx; omega
  | i + 1, d, L, O, hi, h => by
    rcases h1 : ternF s n i c with _ | ⟨L1, O1, d1⟩
    · rw [ternF_none h1 (i + 1) (by omega)] at h; simp at h
    · obtain ⟨e1, e2, e3, e4⟩ := ternF_spec hc (by omega) h1
      rcases h2 : belowL s (n - i) d1 with _ | ⟨j, d2⟩
      · rw [ternF_stop h1 h2] at h; simp at h
      · by_cases h3 : d2 < 8 * s.size
        · rw [ternF_more h1 h2 h3] at h
          simp only [Option.some.injEq, Prod.mk.injEq] at h
          obtain ⟨rfl, rfl, rfl⟩ := h
          have := belowL_spec h2
          refine ⟨by rw [length_swapL]; exact e1, by simp [e2], ?_, by omega⟩
          intro x hx
          exact e3 x (mem_swapL _ _ _ (by omega) (by omega) _ hx)
        · rw [ternF_short h1 h2 h3] at h; simp at h
theorem mem_getD {L : List Int} {i : Nat} (h : i < L.length) : L.getD i 0 ∈ L := by
  rw [List.getD_eq_getElem?_getD, List.getElem?_eq_getElem h]; exact List.getElem_mem h
end Go.Proofs.Ytkjfpaaiomioaaa
