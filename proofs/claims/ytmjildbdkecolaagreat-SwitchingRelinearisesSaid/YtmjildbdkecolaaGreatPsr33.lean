/- What a partition of the library's sort leaves, and what a round of it makes of sorted parts. No walk. -/
import Derived.Test.YtmjildbdkecolaaGreatRows
import Derived.Sort.LotD3
import Derived.Sort.LotA
import Derived.Sort.LotB
set_option linter.unusedSimpArgs false
set_option linter.unusedVariables false
set_option linter.unnecessarySimpa false
namespace Go.Proofs.YtmjildbdkecolaaGreat

/-- Between two rounds of a partition by p: the pivot v stands at a; what lies ahead of i has p, what lies behind j has not. -/
structure PartI (p : Int → Int → Bool) (v : Int) (d0 d : Array Int) (a b i j : Nat) : Prop where
 perm : Sort.PermIn a b d0 d
 av : d[a]! = v
 ai : a < i
 ij : i ≤ j + 1
 jb : j < b
 bs : b ≤ d.size
 lo : ∀ k, a < k → k < i → p v d[k]! = true
 hi : ∀ k, j < k → k < b → p v d[k]! = false

section
variable {p : Int → Int → Bool} {v : Int} {d0 d : Array Int} {a b i j : Nat}
theorem PartI.start (hp : Sort.PermIn a b d0 d) (hv : d[a]! = v) (hb : b ≤ d.size) (hab : a < b) : PartI p v d0 d a b (a + 1) (b - 1) :=
 ⟨hp, hv, by omega, by omega, by omega, hb, fun k h1 h2 => by omega, fun k h1 h2 => by omega⟩
theorem PartI.up (h : PartI p v d0 d a b i j) (hij : i ≤ j) (ht : p v d[i]! = true) : PartI p v d0 d a b (i + 1) j :=
 ⟨h.perm, h.av, by have := h.ai; omega, by omega, h.jb, h.bs, fun k h1 h2 => by
  rcases Nat.lt_or_eq_of_le (Nat.le_of_lt_succ h2) with h3 | h3
  ·exact h.lo k h1 h3
  ·subst h3; exact ht, h.hi⟩
theorem PartI.down (h : PartI p v d0 d a b i j) (hij : i ≤ j) (ht : p v d[j]! = false) : PartI p v d0 d a b i (j - 1) :=
 ⟨h.perm, h.av, h.ai, by have := h.ai; omega, by have := h.jb; omega, h.bs, h.lo, fun k h1 h2 => by
  by_cases e : k = j
  ·subst e; exact ht
  ·exact h.hi k (by omega) h2⟩
theorem PartI.lt (h1 : p v d[i]! = false) (h2 : p v d[j]! = true) (hij : i ≤ j) : i < j := by
 rcases Nat.lt_or_eq_of_le hij with h | h
 ·exact h
 ·subst h; rw [h1] at h2; cases h2
theorem PartI.swap (h : PartI p v d0 d a b i j) (hij : i < j) (h1 : p v d[i]! = false) (h2 : p v d[j]! = true) : PartI p v d0 (Sort.swp d i j) a b (i + 1) (j - 1) := by
 have ha := h.ai
 have hj := h.jb
 have hb := h.bs
 have g := Sort.swp_get d (show i < d.size by omega) (show j < d.size by omega)
 refine ⟨Sort.permIn_trans _ _ _ a b h.perm (Sort.swp_permIn d a b i j (by omega) (by omega) (by omega) hj hb), ?_, by omega, by omega, by omega, by rw [Sort.size_swp]; exact hb, ?_, ?_⟩
 ·rw [g, if_neg (by omega), if_neg (by omega)]; exact h.av
 ·intro k hk1 hk2
  rw [g, if_neg (by omega)]
  by_cases e : k = i
  ·rw [if_pos e]; exact h2
  ·rw [if_neg e]; exact h.lo k hk1 (by omega)
 ·intro k hk1 hk2
  rw [g]
  by_cases e : k = j
  ·rw [if_pos e]; exact h1
  ·rw [if_neg e, if_neg (by omega)]; exact h.hi k (by omega) hk2
end

/-- What 'partitionOrdered' leaves: what lies ahead of m is less than what lies at m, nothing behind it is. -/
structure PPost (d0 d : Array Int) (a b m : Nat) : Prop where
 perm : Sort.PermIn a b d0 d
 am : a ≤ m
 mb : m < b
 bs : b ≤ d.size
 lo : ∀ k, a ≤ k → k < m → Sort.ltInt d[k]! d[m]! = true
 hi : ∀ k, m < k → k < b → Sort.ltInt d[k]! d[m]! = false
theorem PartI.post {v : Int} {d0 d : Array Int} {a b i j : Nat} (h : PartI (fun x y => Sort.ltInt y x) v d0 d a b i j) (hij : j < i) : PPost d0 (Sort.swp d j a) a b j := by
 have ha := h.ai
 have hi := h.ij
 have hj := h.jb
 have hb := h.bs
 have g := Sort.swp_get d (show j < d.size by omega) (show a < d.size by omega)
 have hv : (Sort.swp d j a)[j]! = v := by
  rw [g]
  by_cases e : j = a
  ·rw [if_pos e, e]; exact h.av
  ·rw [if_neg e, if_pos rfl]; exact h.av
 refine ⟨Sort.permIn_trans _ _ _ a b h.perm (Sort.swp_permIn d a b j a (by omega) hj (Nat.le_refl _) (by omega) hb), by omega, hj, by rw [Sort.size_swp]; exact hb, ?_, ?_⟩
 ·intro k h1 h2
  rw [hv, g]
  by_cases e : k = a
  ·rw [if_pos e]; exact h.lo j (by omega) (by omega)
  ·rw [if_neg e, if_neg (by omega)]; exact h.lo k (by omega) (by omega)
 ·intro k h1 h2
  rw [hv, g, if_neg (by omega), if_neg (by omega)]
  exact h.hi k h1 h2

/-- What 'partitionEqualOrdered' leaves: v is less than nothing ahead of m, and less than all behind it. -/
structure EPost (v : Int) (d0 d : Array Int) (a b m : Nat) : Prop where
 perm : Sort.PermIn a b d0 d
 am : a < m
 mb : m ≤ b
 bs : b ≤ d.size
 lo : ∀ k, a ≤ k → k < m → Sort.ltInt v d[k]! = false
 hi : ∀ k, m ≤ k → k < b → Sort.ltInt v d[k]! = true
theorem PartI.epost {v : Int} {d0 d : Array Int} {a b i j : Nat} (h : PartI (fun x y => !Sort.ltInt x y) v d0 d a b i j) (hij : j < i) : EPost v d0 d a b i := by
 have ha := h.ai
 have hi := h.ij
 have hj := h.jb
 refine ⟨h.perm, ha, by omega, h.bs, ?_, ?_⟩
 ·intro k h1 h2
  by_cases e : k = a
  ·subst e; rw [h.av]; exact Sort.swo_ltInt.irrefl _
  ·simpa using h.lo k (by omega) h2
 ·intro k h1 h2
  simpa using h.hi k (by omega) h2

/-- A round by partitionEqual. -/
theorem EPost.round {v : Int} {d3 d4 : Array Int} {a b mid : Nat} (h : EPost v d3 d4 a b mid) (ha : 0 < a) (hB : Sort.Below Sort.ltInt a b d3) (hnl : Sort.ltInt d3[a - 1]! v = false) :
  Sort.Below Sort.ltInt mid b d4 ∧ ∀ R, Sort.PermIn mid b d4 R → Sort.SortedIn Sort.ltInt mid b R → Sort.PermIn a b d3 R ∧ Sort.SortedIn Sort.ltInt a b R := by
 have hS := Sort.swo_ltInt
 have hb3 : b ≤ d3.size := by have := h.bs; rw [h.perm.1] at this; exact this
 have hge : ∀ i, a ≤ i → i < b → Sort.ltInt d3[i]! v = false := fun i hi hi' => by
  rcases hB with h0 | hB
  ·omega
  ·exact hS.ntrans _ _ _ (hB i hi hi') hnl
 have hge4 := Sort.permIn_all d3 d4 a b (fun x => Sort.ltInt x v = false) hb3 h.perm hge
 have ham := h.am
 refine ⟨Or.inr fun i hi hi' => ?_, fun R hR hs => ⟨Sort.permIn_trans _ _ _ a b h.perm (Sort.permIn_mono _ _ mid b a b (by omega) (Nat.le_refl _) h.bs hR), ?_⟩⟩
 ·cases hc : Sort.ltInt d4[i]! d4[mid - 1]! with
  | false => rfl
  | true => have := hS.trans _ _ _ (h.hi i hi hi') hc; rw [h.lo (mid - 1) (by omega) (by omega)] at this; cases this
 ·refine Sort.sorted_glue_eq hS v hs (fun i hi hi' => ?_) (fun i hi hi' => ?_) (Sort.permIn_all d4 R mid b (fun x => Sort.ltInt v x = true) h.bs hR h.hi)
  ·rw [hR.2.1 i (Or.inl hi')]; exact h.lo i hi hi'
  ·rw [hR.2.1 i (Or.inl hi')]; exact hge4 i hi (by have := h.mb; omega)

/-- A round by partition: the left part first. -/
theorem PPost.left {d3 d4 L : Array Int} {a b mid : Nat} (h : PPost d3 d4 a b mid) (hL : Sort.PermIn a mid d4 L) (hsL : Sort.SortedIn Sort.ltInt a mid L) :
  Sort.Below Sort.ltInt (mid + 1) b L ∧ ∀ R, Sort.PermIn (mid + 1) b L R → Sort.SortedIn Sort.ltInt (mid + 1) b R → Sort.PermIn a b d3 R ∧ Sort.SortedIn Sort.ltInt a b R := by
 have hS := Sort.swo_ltInt
 have ham := h.am
 have hmb := h.mb
 have hbL : b ≤ L.size := by rw [hL.1]; exact h.bs
 have eL : ∀ i, mid ≤ i → L[i]! = d4[i]! := fun i hi => hL.2.1 i (Or.inr hi)
 have hge : ∀ k, mid < k → k < b → Sort.ltInt L[k]! L[mid]! = false := fun k h1 h2 => by rw [eL k (by omega), eL mid (Nat.le_refl _)]; exact h.hi k h1 h2
 refine ⟨Or.inr fun i hi hi' => by rw [Nat.add_sub_cancel]; exact hge i (by omega) hi', fun R hR hsR => ⟨?_, ?_⟩⟩
 ·exact Sort.permIn_trans _ _ _ a b h.perm (Sort.permIn_trans _ _ _ a b (Sort.permIn_mono _ _ a mid a b (Nat.le_refl _) (by omega) h.bs hL) (Sort.permIn_mono _ _ (mid + 1) b a b (by omega) (Nat.le_refl _) hbL hR))
 ·have eR : ∀ i, i ≤ mid → R[i]! = L[i]! := fun i hi => hR.2.1 i (Or.inl (by omega))
  refine Sort.sorted_glue hS (hsL.congr fun i _ hi' => eR i (by omega)) hsR (fun i hi hi' => ?_) (fun i hi hi' => ?_)
  ·rw [eR i (by omega), eR mid (Nat.le_refl _), eL mid (Nat.le_refl _)]
   exact Sort.permIn_all d4 L a mid (fun x => Sort.ltInt x d4[mid]! = true) (by have := h.bs; omega) hL h.lo i hi hi'
  ·rw [eR mid (Nat.le_refl _)]
   exact Sort.permIn_all L R (mid + 1) b (fun x => Sort.ltInt x L[mid]! = false) hbL hR (fun k hk hk' => hge k (by omega) hk') i (by omega) hi'
/-- .. or the right part first. -/
theorem PPost.right {d3 d4 L : Array Int} {a b mid : Nat} (h : PPost d3 d4 a b mid) (hB : Sort.Below Sort.ltInt a b d3) (hL : Sort.PermIn (mid + 1) b d4 L) (hsL : Sort.SortedIn Sort.ltInt (mid + 1) b L) :
  Sort.Below Sort.ltInt a mid L ∧ ∀ R, Sort.PermIn a mid L R → Sort.SortedIn Sort.ltInt a mid R → Sort.PermIn a b d3 R ∧ Sort.SortedIn Sort.ltInt a b R := by
 have hS := Sort.swo_ltInt
 have ham := h.am
 have hmb := h.mb
 have hb3 : b ≤ d3.size := by have := h.bs; rw [h.perm.1] at this; exact this
 have hbL : b ≤ L.size := by rw [hL.1]; exact h.bs
 have eL : ∀ i, i ≤ mid → L[i]! = d4[i]! := fun i hi => hL.2.1 i (Or.inl (by omega))
 have hBa : Sort.Below Sort.ltInt a mid d4 := (hB.perm hb3 h.perm).mono (by omega)
 refine ⟨?_, fun R hR hsR => ⟨?_, ?_⟩⟩
 ·rcases hBa with h0 | hBa
  ·exact Or.inl h0
  ·exact Or.inr fun i hi hi' => by rw [eL i (by omega), eL (a - 1) (by omega)]; exact hBa i hi hi'
 ·exact Sort.permIn_trans _ _ _ a b h.perm (Sort.permIn_trans _ _ _ a b (Sort.permIn_mono _ _ (mid + 1) b a b (by omega) (Nat.le_refl _) h.bs hL) (Sort.permIn_mono _ _ a mid a b (Nat.le_refl _) (by omega) hbL hR))
 ·have eR : ∀ i, mid ≤ i → R[i]! = L[i]! := fun i hi => hR.2.1 i (Or.inr hi)
  refine Sort.sorted_glue hS hsR (hsL.congr fun i hi _ => eR i (by omega)) (fun i hi hi' => ?_) (fun i hi hi' => ?_)
  ·rw [eR mid (Nat.le_refl _), eL mid (Nat.le_refl _)]
   exact Sort.permIn_all L R a mid (fun x => Sort.ltInt x d4[mid]! = true) (by omega) hR (fun k hk hk' => by rw [eL k (by omega)]; exact h.lo k hk hk') i hi hi'
  ·rw [eR i (by omega), eR mid (Nat.le_refl _), eL mid (Nat.le_refl _)]
   exact Sort.permIn_all d4 L (mid + 1) b (fun x => Sort.ltInt x d4[mid]! = false) h.bs hL (fun k hk hk' => h.hi k (by omega) hk') i (by omega) hi'
end Go.Proofs.YtmjildbdkecolaaGreat
