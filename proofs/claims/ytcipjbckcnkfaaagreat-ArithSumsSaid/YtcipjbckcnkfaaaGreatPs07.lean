/- The reference's chain of primes; default parameters.
Elements of the ring: their data, their place in memory. No walk.
The reference's ring: places, moduli, parameters.
The reference's ring: good parameters are valid ones.
The reference's test of an element. -/
import Derived.Test.YtcipjbckcnkfaaaGreatPs06
import Derived.Lib.AppendZeros
set_option linter.unusedSimpArgs false
set_option linter.unusedVariables false
namespace Go.Proofs.YtcipjbckcnkfaaaGreat
open Go.RowKit

/-- A slice of uint32 that the call made by append. -/
def OwU (w : World) (base : Nat) (v : Value) (l : List Nat) : Prop := w.ownsRow base 22 1 v l.length (l.map fun x : Nat => Value.int .u32 (x : Int))
theorem OwU.nil (w : World) (base : Nat) : OwU w base (.slice none 0 0) [] := World.ownsRow_nil w _ _ _
theorem OwU.shape {w : World} {base : Nat} {v : Value} {l : List Nat} (h : OwU w base v l) : ∃ ao cap, v = .slice ao l.length cap ∧ Rd w ao l ∧ l.length ≤ cap ∧ cap ≤ maxLen ∧ ∀ a, ao = some a → base ≤ a.block := by
  rcases h.2 with ⟨rfl, h0⟩ | ⟨g, cap, cur, rfl, hg, hh, hnc, hml, hcs, htk⟩
  · have : l = [] := List.eq_nil_of_length_eq_zero h0
    subst this
    exact ⟨none, 0, rfl, Rd.nil _ _, by simp, by simp, fun a h => by simp at h⟩
  · refine ⟨_, cap, rfl, fun k hk => ⟨g, 0, rfl, fun j hj => ?_⟩, hnc, hml, fun a h => by simp at h; subst h; exact hg⟩
    rw [cell_of_row w g (0 + j) cur _ _ hh, Nat.zero_add, ← Array.getElem?_toList]
    have e := congrArg (·[j]?) htk
    rw [Nat.mul_one, List.getElem?_take, if_pos hj] at e
    rw [e]
    simp [List.getD_eq_getElem?_getD, hj]
theorem OwU.append {w : World} {base : Nat} {v : Value} {l : List Nat} (h : OwU w base v l) (hb : base ≤ w.heap.size) (hlen : l.length ≤ 1000000) (ty : TypeId) (ad : Addr) (c : Nat) (x : Nat) (hx : w.cell? ad = some (.int .u32 (x : Int))) :
    ∃ v' w', (Builtin.append_ #[23, 23] ty #[v, .slice (some ad) 1 c]).run Tryz.prog w = .ok v' w' ∧ OwU w' base v' (l ++ [x]) ∧ Below base w w' := by
  obtain ⟨i0, hi, hz0, hz1, hz2⟩ := info_parts info_u32
  have hnews : ∀ j u, ([.int .u32 (x : Int)] : List Value)[j]? = some u → w.cell? (ad.add j) = some u := by
    intro j u hj
    match j, hj with
    | 0, hj =>
      simp at hj
      subst hj
      have : ad.add 0 = ad := by unfold Addr.add; split <;> simp_all
      rw [this]
      exact hx
  obtain ⟨v', w', hr, ho, hg, _⟩ := run_append_own (P := Tryz.prog) w base 23 ty 22 i0 (.int .u32 0) 1 4 Tryz.underlying23 hi hz0 hz1 hz2 rfl (by decide) v l.length _ h ad 1 c [.int .u32 (x : Int)] rfl hnews
    (by simp [Value.oneCell']) (by unfold maxLen; omega) (by omega) hb
  refine ⟨v', w', hr, ?_, ?_⟩
  · unfold OwU
    rw [List.length_append, List.map_append]
    exact ho
  · refine (Turn.of_grown (S := match v.ownBlock with | some g => [g] | none => []) hg (fun k hk => .inl (by rw [hk]; simp))).belowN hb ?_
    intro k hk
    rcases h.2 with ⟨rfl, _⟩ | ⟨g, cap, cur, rfl, hg, _⟩
    · simp [Value.ownBlock] at hk
    · simp [Value.ownBlock] at hk; omega

set_option maxHeartbeats 1600000 in
theorem r03dim_walk (n : Int) (w : World) (hn : IsDim n) : Calls Tryz.prog 127 #[.int .i64 n] w fun e w' => e = .returned (.bool true) ∧ w' = w := by
  rcases hn with h | h | h | h
  all_goals
    subst h
    go_enter Tryz.func127, Tryz.ntmps127
    go_wp2
    go_ret
    exact ⟨rfl, rfl⟩

/-- What Chain leaves. -/
def ChainEnd (B : Nat) (l : List Nat) (count : Nat) (e : Ending) (w' : World) : Prop :=
  (l.length < count ∧ e = .returned (.tuple #[.slice none 0 0, .int .i64 4])) ∨
  ∃ ao cap, count ≤ l.length ∧ e = .returned (.tuple #[.slice ao l.length cap, .int .i64 0]) ∧ Rd w' ao l ∧ l.length ≤ cap ∧ cap ≤ maxLen ∧ ∀ a, ao = some a → B ≤ a.block

set_option maxHeartbeats 6400000 in
set_option maxRecDepth 100000 in
theorem r03chain_walk (n t count : Nat) (w : World) (hn : n = 4 ∨ n = 8 ∨ n = 16 ∨ n = 32) (ht : 3 ≤ t) (ht2 : t ≤ 2147483647) (hto : t % 2 = 1) (hc1 : 1 ≤ count) (hc2 : count ≤ 25) :
    Calls Tryz.prog 99 #[.int .i64 n, .int .u32 t, .int .i64 count] w fun e w' => ChainEnd w.heap.size (chainOf n t count) count e w' ∧ Below w.heap.size w w' := by
  have HD := Lib.hid (fun w => r03dim_walk (n : Int) w (by rcases hn with h | h | h | h <;> subst h <;> simp [IsDim]))
  have hn4 : 4 ≤ n := by omega
  have hn32 : n ≤ 32 := by omega
  obtain ⟨st, hst⟩ : ∃ st, 2 * n * t = st := ⟨_, rfl⟩
  have hst1 : 1 ≤ st := by rw [← hst]; exact Nat.mul_pos (by omega) (by omega)
  have hst2 : st ≤ 64 * 2147483647 := by rw [← hst]; exact Nat.mul_le_mul (by omega) ht2
  have hsti : (2 * (n : Int)) * (t : Int) = (st : Int) := by rw [← hst]; simp
  have HCO : Hid (chainOf n t count = chainL st count (2147483646 / st) []) := Lib.hid (by unfold chainOf; rw [hst])
  have hto' : (t : Int) % 2 = 1 := by omega
  obtain ⟨kk, hkk⟩ : ∃ kk, 2147483646 / st = kk := ⟨_, rfl⟩
  have hkki : (2147483646 : Int) / (st : Int) = (kk : Int) := by rw [← hkk]; simp
  have hkb : kk ≤ 2147483646 := by rw [← hkk]; exact Nat.div_le_self _ _
  have HK0 : Hid (kk * st ≤ 2147483646) := Lib.hid (by rw [← hkk]; exact Nat.div_mul_le_self _ _)
  rw [hkk] at HCO
  have HKK := Lib.hid hkki
  clear hn hst hkk hkki
  go_enter Tryz.func99, Tryz.ntmps99
  go_wp2_with fail
  (with_reducible refine Calls.mono (HD.out _) ?_)
  rintro e w1 ⟨rfl, rfl⟩
  clear HD
  go_wp2
  go_loopg [9, 10] kk (fun f v9 v10 wr => ∃ (k : Nat) (out : List Nat) (ao : Option Addr) (cap ln : Nat), v9 = .slice ao ln cap ∧ v10 = .int .u64 k ∧ k ≤ f ∧ k ≤ 2147483646 ∧ ln ≤ count ∧ Hid (out.length = ln ∧ OwU wr w1.heap.size (.slice ao ln cap) out ∧ chainL st count k out = chainOf n t count ∧ k * st ≤ 2147483646) ∧ Hid (Below w1.heap.size w1 wr))
  case atStart => exact ⟨kk, [], none, 0, 0, rfl, by rw [HKK.out], Nat.le_refl _, hkb, by omega, Lib.hid ⟨rfl, OwU.nil _ _, HCO.out.symm, HK0.out⟩, Lib.hid (Below.refl _ _)⟩
  case round =>
    obtain ⟨k, out, ao, cap, ln, rfl, rfl, hkf, hk2, hln, HO, HB⟩ := hrel
    obtain ⟨z, hz⟩ : ∃ z, k * st = z := ⟨_, rfl⟩
    have hzi : (k : Int) * (st : Int) = (z : Int) := by rw [← hz]; simp
    have hz2 : z ≤ 2147483646 := by rw [← hz]; exact HO.out.2.2.2
    have HZ := Lib.hid hz
    clear hz
    by_cases h1 : 1073741824 < z + 1
    case neg =>
      have g1 : decide ((1073741824 : Int) < (z : Int) + 1) = false := decide_eq_false (by omega)
      have HE : Hid (out = chainOf n t count) := Lib.hid (by rw [← HO.out.2.2.1]; exact (chainL_stop (fun h => h1 (by rw [HZ.out] at h; exact h.1))).symm)
      by_cases h2 : ln < count
      · have g2 : decide (ln < count) = true := decide_eq_true h2
        go_wp2
        go_ret2
        exact ⟨.inl ⟨by rw [← HE.out, HO.out.1]; exact h2, rfl⟩, HB.out⟩
      · have g2 : decide (ln < count) = false := decide_eq_false h2
        obtain ⟨ao', cap', e', hrd, hca, hcm, hab⟩ := HO.out.2.1.shape
        have HR := Lib.hid hrd
        have HCC := Lib.hid (And.intro hca (And.intro hcm hab))
        have HL := Lib.hid HO.out.1
        simp only [Value.slice.injEq] at e'
        obtain ⟨rfl, _, rfl⟩ := e'
        clear hrd hca hcm hab
        go_wp2
        go_ret2
        exact ⟨.inr ⟨_, _, by rw [← HE.out, HL.out]; omega, by rw [← HE.out, HL.out]; rfl, by rw [← HE.out]; exact HR.out, by rw [← HE.out]; exact HCC.out⟩, HB.out⟩
    have g1 : decide ((1073741824 : Int) < (z : Int) + 1) = true := decide_eq_true (by omega)
    by_cases h2 : ln < count
    case neg =>
      have HE : Hid (out = chainOf n t count) := Lib.hid (by rw [← HO.out.2.2.1]; exact (chainL_stop (fun h => h2 (by rw [HO.out.1] at h; exact h.2))).symm)
      have g2 : decide (ln < count) = false := decide_eq_false h2
      obtain ⟨ao', cap', e', hrd, hca, hcm, hab⟩ := HO.out.2.1.shape
      have HR := Lib.hid hrd
      have HCC := Lib.hid (And.intro hca (And.intro hcm hab))
      have HL := Lib.hid HO.out.1
      simp only [Value.slice.injEq] at e'
      obtain ⟨rfl, _, rfl⟩ := e'
      clear hrd hca hcm hab
      go_wp2
      go_ret2
      exact ⟨.inr ⟨_, _, by rw [← HE.out, HL.out]; omega, by rw [← HE.out, HL.out]; rfl, by rw [← HE.out]; exact HR.out, by rw [← HE.out]; exact HCC.out⟩, HB.out⟩
    have g2 : decide (ln < count) = true := decide_eq_true h2
    have hk0 : 1 ≤ k := by
      rcases Nat.eq_zero_or_pos k with h | h
      · subst h; have := HZ.out; omega
      · exact h
    obtain ⟨j, rfl⟩ : ∃ j, k = j + 1 := ⟨k - 1, by omega⟩
    have HC : Hid (1073741824 < (j + 1) * st + 1 ∧ out.length < count) := Lib.hid ⟨by rw [HZ.out]; exact h1, by rw [HO.out.1]; exact h2⟩
    have hzj : ((j : Int) + 1) * (st : Int) = (z : Int) := by rw [← hzi]; simp
    have hP : ∀ w, Calls Tryz.prog 126 #[.int .u32 ((z : Int) + 1)] w fun e w' => e = .returned (.bool (tr (PrimeR (z + 1)))) ∧ w' = w := fun w => rprime_walk (z + 1) w (by omega)
    have HP := Lib.hid hP
    clear hzi hP
    have HJ : Hid (j * st ≤ 2147483646) := Lib.hid (Nat.le_trans (Nat.mul_le_mul_right _ (by omega)) HO.out.2.2.2)
    rw [tr_prime (z + 1) (by omega)] at HP
    cases hp : primeB (z + 1) with
    | false =>
      rw [hp] at HP
      have HN : Hid (chainL st count j out = chainOf n t count) := Lib.hid (by rw [← HO.out.2.2.1, chainL_no HC.out (by rw [HZ.out]; exact hp)])
      have HS := Lib.hid (And.intro HO.out.1 HO.out.2.1)
      clear hp HO HC
      go_wp2_with fail
      (with_reducible refine Calls.mono (HP.out _) ?_)
      rintro e w2 ⟨rfl, rfl⟩
      go_wp2
      go_roundg j
      case measure => omega
      case rel => exact ⟨j, out, ao, cap, ln, rfl, by go_num, Nat.le_refl _, by omega, hln, Lib.hid ⟨HS.out.1, HS.out.2, HN.out, HJ.out⟩, HB⟩
    | true =>
      rw [hp] at HP
      have HN : Hid (chainL st count j (out ++ [z + 1]) = chainOf n t count) := Lib.hid (by rw [← HO.out.2.2.1, chainL_yes HC.out (by rw [HZ.out]; exact hp), HZ.out])
      have hAl : Below wr.heap.size wr (wr.alloc (.cells #[.int .u32 ((z + 1 : Nat) : Int)] 22)) := (Below.refl _ wr).alloc (Nat.le_refl _) _
      have hOw : OwU (wr.alloc (.cells #[.int .u32 ((z + 1 : Nat) : Int)] 22)) w1.heap.size (.slice ao ln cap) out := World.ownsRow.alloc HO.out.2.1 _
      obtain ⟨v', w3, hr, hO3, hB3⟩ := hOw.append (by have := HB.out.size; simp; omega) (by rw [HO.out.1]; omega) 23 ⟨wr.heap.size, 0, none⟩ 1 (z + 1) ((Blk.new wr _ _).cell 0)
      obtain ⟨ao3, cap3, rfl, _, _, _, _⟩ := hO3.shape
      have HL3 : Hid ((out ++ [z + 1]).length = ln + 1) := Lib.hid (by rw [List.length_append, HO.out.1]; rfl)
      have HO3 := Lib.hid hO3
      have HB3 : Hid (Below w1.heap.size w1 w3) := Lib.hid ((HB.out.trans (hAl.mono HB.out.size)).trans hB3)
      rw [HL3.out] at hr HO3
      have hr : (Builtin.append_ #[23, 23] 23 #[.slice ao ln cap, .slice (some ⟨wr.heap.size, 0, none⟩) 1 1]).run Tryz.prog (wr.alloc (.cells #[.int .u32 ((z : Int) + 1)] 22)) = .ok (.slice ao3 (ln + 1) cap3) w3 := hr
      clear hp HO HC hAl hOw hO3 hB3
      go_wp2_with fail
      (with_reducible refine Calls.mono (HP.out _) ?_)
      rintro e w2 ⟨rfl, rfl⟩
      go_wp2_with (at_builtin; refine Lib.wpList_append_run _ rfl (.tmp 62) (.tmp 68) 23 23 rfl _ _ rfl rfl _ _ hr ?_)
      go_roundg j
      case measure => omega
      case rel => exact ⟨j, out ++ [z + 1], ao3, cap3, ln + 1, rfl, by go_num, Nat.le_refl _, by omega, by omega, Lib.hid ⟨HL3.out, HO3.out, HN.out, HJ.out⟩, HB3⟩
end Go.Proofs.YtcipjbckcnkfaaaGreat

namespace Go.Proofs.YtcipjbckcnkfaaaGreat
open Go.RowKit

/-- An element. -/
structure El where
  level : Int
  special : Bool
  rows : List (List Nat)
/-- Its value. -/
abbrev El.val (E : El) (ao : Option Addr) (c : Nat) : Value := .agg #[.int .i64 E.level, .bool E.special, .slice ao E.rows.length c]
def El.row (E : El) (i : Nat) : List Nat := E.rows.getD i []
def El.get (E : El) (i j : Nat) : Nat := (E.row i).getD j 0
/-- The moduli of a level. -/
def Par.qs (p : Par) (level : Int) (sp : Bool) : List Nat := p.chain.take level.toNat ++ (if sp then [p.special] else [])
/-- There are elements of a level. -/
def PlaceOk (p : Par) (level : Int) (sp : Bool) : Prop := 1 ≤ level ∧ level ≤ (p.chain.length : Int) ∧ (sp = true → p.special ≠ 0)
/-- An element is valid. -/
def ElOk (p : Par) (E : El) : Prop :=
  PlaceOk p E.level E.special ∧ E.rows.length = (p.qs E.level E.special).length ∧ ∀ i, i < E.rows.length → ((E.row i).length : Int) = p.n ∧ ∀ j, j < (E.row i).length → E.get i j < (p.qs E.level E.special).getD i 0

/-- Rows in memory: at ao so many slices, each reads its row. -/
def RdR (w : World) (ao : Option Addr) (rows : List (List Nat)) : Prop :=
  ∀ k, k < rows.length → ∃ b off, ao = some ⟨b, off, none⟩ ∧ ∀ j, j < rows.length → ∃ ro rc, w.cell? ⟨b, off + j, none⟩ = some (.slice ro (rows.getD j []).length rc) ∧ Rd w ro (rows.getD j []) ∧ (rows.getD j []).length ≤ rc
theorem RdR.below {w w' : World} {ao : Option Addr} {rows : List (List Nat)} (h : RdR w ao rows) (hb : Below w.heap.size w w') : RdR w' ao rows := fun k hk => by
  obtain ⟨b, off, e, hc⟩ := h k hk
  refine ⟨b, off, e, fun j hj => ?_⟩
  obtain ⟨ro, rc, h1, h2, h3⟩ := hc j hj
  exact ⟨ro, rc, (hb.cell (World.block_lt_of_cell? w _ h1)).trans h1, h2.below hb, h3⟩
theorem RdR.nil (w : World) (ao : Option Addr) : RdR w ao [] := fun k hk => by simp at hk
/-- An element that came in. -/
structure ElIn (w : World) (E : El) (ao : Option Addr) (c : Nat) : Prop where
  rd : RdR w ao E.rows
  l1 : -9223372036854775808 ≤ E.level
  l2 : E.level ≤ 9223372036854775807
  len : E.rows.length ≤ 9223372036854775807
  rows : ∀ i, i < E.rows.length → (E.row i).length ≤ 9223372036854775807 ∧ ∀ j, j < (E.row i).length → E.get i j ≤ 4294967295
theorem ElIn.below {w w' : World} {E : El} {ao : Option Addr} {c : Nat} (h : ElIn w E ao c) (hb : Below w.heap.size w w') : ElIn w' E ao c := { h with rd := h.rd.below hb }
theorem ElOk.elIn {w : World} {p : Par} {E : El} {ao : Option Addr} {c : Nat} (h : ElOk p E) (hn : p.n ≤ 32) (hc : p.chain.length ≤ 24) (hq : ∀ i, (p.qs E.level E.special).getD i 0 ≤ 4294967295) (hr : RdR w ao E.rows) : ElIn w E ao c :=
  { rd := hr, l1 := by have := h.1.1; omega, l2 := by have := h.1.2.1; omega
    len := by
      rw [h.2.1]
      unfold Par.qs
      rw [List.length_append, List.length_take]
      split <;> simp <;> omega
    rows := fun i hi => ⟨by have := (h.2.2 i hi).1; omega, fun j hj => Nat.le_trans (Nat.le_of_lt ((h.2.2 i hi).2 j hj)) (hq i)⟩ }
theorem El.rdrow {w : World} {E : El} {ao : Option Addr} {c : Nat} (h : ElIn w E ao c) {i : Nat} (hi : i < E.rows.length) : ∃ b off ro rc, ao = some ⟨b, off, none⟩ ∧ w.cell? ⟨b, off + i, none⟩ = some (.slice ro (E.row i).length rc) ∧ Rd w ro (E.row i) ∧ (E.row i).length ≤ rc := by
  obtain ⟨b, off, e, hc⟩ := h.rd i hi
  obtain ⟨ro, rc, h1, h2, h3⟩ := hc i hi
  exact ⟨b, off, ro, rc, e, h1, h2, h3⟩

theorem qs_len {p : Par} {level : Int} {sp : Bool} (h : PlaceOk p level sp) : ((p.qs level sp).length : Int) = level + (if sp then 1 else 0) := by
  unfold Par.qs
  have h1 := h.1
  have h2 := h.2.1
  rw [List.length_append, List.length_take]
  split <;> simp <;> omega
theorem qs_get {p : Par} {level : Int} {sp : Bool} {i : Nat} (hi : i < (p.qs level sp).length) : (i < level.toNat ∧ i < p.chain.length ∧ (p.qs level sp).getD i 0 = p.chain.getD i 0) ∨ (sp = true ∧ i = (p.chain.take level.toNat).length ∧ (p.qs level sp).getD i 0 = p.special) := by
  unfold Par.qs at hi ⊢
  rw [List.length_append] at hi
  rcases Nat.lt_or_ge i (p.chain.take level.toNat).length with h | h
  · left
    have h' := h
    rw [List.length_take] at h'
    refine ⟨by omega, by omega, ?_⟩
    rw [List.getD_eq_getElem?_getD, List.getElem?_append_left h, List.getElem?_take, if_pos (by omega), ← List.getD_eq_getElem?_getD]
  · right
    cases sp with
    | false => simp at hi; rw [List.length_take] at h; omega
    | true =>
      have e : i = (p.chain.take level.toNat).length := by simp at hi h ⊢; omega
      refine ⟨rfl, e, ?_⟩
      rw [List.getD_eq_getElem?_getD, List.getElem?_append_right h, e]
      simp
theorem Good.special {p : Par} (h : Good p) : 1073741824 < p.special ∧ p.special ≤ 2147483647 := by
  obtain ⟨_, _, _, _, _, _, _, h, _⟩ := h
  exact ⟨h.1, h.2.1⟩
theorem Good.chain {p : Par} (h : Good p) {i : Nat} (hi : i < p.chain.length) : 1073741824 < p.chain.getD i 0 ∧ p.chain.getD i 0 ≤ 2147483647 ∧ p.chain.getD i 0 < p.special := by
  obtain ⟨_, _, _, _, _, _, _, _, h, _⟩ := h
  exact ⟨(h i hi).1.1, (h i hi).1.2.1, (h i hi).2⟩
theorem good_odd {p : Par} {q : Nat} {t : Nat} (hq : GoodQ (2 * p.n.toNat * t) q) : q % 2 = 1 := by
  have := hq.2.2.1
  have e : q % 2 = q % (2 * p.n.toNat * t) % 2 := (Nat.mod_mod_of_dvd q ⟨p.n.toNat * t, by rw [Nat.mul_assoc]⟩).symm
  rw [e, this]
theorem Good.len {p : Par} (h : Good p) : 1 ≤ p.chain.length ∧ p.chain.length ≤ 24 := ⟨h.2.1, h.2.2.1⟩
theorem Good.n {p : Par} (h : Good p) : 4 ≤ p.n ∧ p.n ≤ 32 := by rcases h.1 with h | h | h | h <;> omega
theorem Good.qs {p : Par} (h : Good p) {level : Int} {sp : Bool} {i : Nat} (hi : i < (p.qs level sp).length) : 1073741824 < (p.qs level sp).getD i 0 ∧ (p.qs level sp).getD i 0 ≤ 2147483647 := by
  rcases qs_get hi with ⟨_, h2, e⟩ | ⟨_, _, e⟩
  · rw [e]; exact ⟨(h.chain h2).1, (h.chain h2).2.1⟩
  · rw [e]; exact h.special
theorem Good.qs_le {p : Par} (h : Good p) (level : Int) (sp : Bool) (i : Nat) : (p.qs level sp).getD i 0 ≤ 2147483647 := by
  rcases Nat.lt_or_ge i (p.qs level sp).length with hi | hi
  · exact (h.qs hi).2
  · rw [List.getD_eq_getElem?_getD, List.getElem?_eq_none hi]; simp

/-- What came in appended to a slice of the call's own. -/
theorem OwU.appendL {w : World} {base : Nat} {v : Value} {l : List Nat} (h : OwU w base v l) (hb : base ≤ w.heap.size) (ty : TypeId) (a : Addr) (c : Nat) (l2 : List Nat) (hr : Rd w (some a) l2) (hlen : l.length + l2.length ≤ 1000000) :
    ∃ v' w', (Builtin.append_ #[23, 23] ty #[v, .slice (some a) l2.length c]).run Tryz.prog w = .ok v' w' ∧ OwU w' base v' (l ++ l2) ∧ Below base w w' := by
  obtain ⟨i0, hi, hz0, hz1, hz2⟩ := info_parts info_u32
  have hnews : ∀ j u, (l2.map fun x : Nat => Value.int .u32 (x : Int))[j]? = some u → w.cell? (a.add j) = some u := by
    intro j u hj
    simp only [List.getElem?_map, Option.map_eq_some_iff] at hj
    obtain ⟨x, hx, rfl⟩ := hj
    obtain ⟨hj', hx'⟩ := List.getElem?_eq_some_iff.1 hx
    obtain ⟨b, off, e, hc⟩ := hr j hj'
    cases e
    have := hc j hj'
    rw [List.getD_eq_getElem?_getD, hx, Option.getD_some] at this
    rw [add_zero_addr]
    exact this
  obtain ⟨v', w', hrun, ho, hg, _⟩ := run_append_own (P := Tryz.prog) w base 23 ty 22 i0 (.int .u32 0) 1 4 Tryz.underlying23 hi hz0 hz1 hz2 rfl (by decide) v l.length _ h a l2.length c _ (by simp) hnews
    (by simp [Value.oneCell']) (by unfold maxLen; omega) (by omega) hb
  refine ⟨v', w', hrun, ?_, ?_⟩
  · unfold OwU
    rw [List.length_append, List.map_append]
    exact ho
  · refine (Turn.of_grown (S := match v.ownBlock with | some g => [g] | none => []) hg (fun k hk => .inl (by rw [hk]; simp))).belowN hb ?_
    intro k hk
    rcases h.2 with ⟨rfl, _⟩ | ⟨g, cap, cur, rfl, hg, _⟩
    · simp [Value.ownBlock] at hk
    · simp [Value.ownBlock] at hk; omega
theorem Rd.take {w : World} {ao : Option Addr} {l : List Nat} (h : Rd w ao l) (n : Nat) : Rd w ao (l.take n) := fun k hk => by
  have hk' : k < l.length := by rw [List.length_take] at hk; omega
  obtain ⟨b, off, e, hc⟩ := h k hk'
  refine ⟨b, off, e, fun j hj => ?_⟩
  rw [List.length_take] at hj
  rw [hc j (by omega)]
  simp [List.getD_eq_getElem?_getD, show j < n by omega]
end Go.Proofs.YtcipjbckcnkfaaaGreat

namespace Go.Proofs.YtcipjbckcnkfaaaGreat
open Go.RowKit

set_option maxHeartbeats 1600000 in
theorem r09place_walk (p : Par) (ca : Option Addr) (cc : Nat) (level : Int) (sp : Bool) (w : World) (hin : ParIn w p ca cc) (hg : Good p) :
    Calls Tryz.prog 85 #[.agg (p.cells ca cc), .int .i64 level, .bool sp] w fun e w' => e = .returned (.bool (tr (PlaceOk p level sp))) ∧ Below w.heap.size w w' := by
  have hlen := hin.len
  have hs := (Good.special hg).1
  obtain ⟨s, hs'⟩ : ∃ s, p.special = s := ⟨_, rfl⟩
  have HS := Lib.hid hs'
  rw [hs'] at hs
  obtain ⟨l, hl⟩ : ∃ l, p.chain.length = l := ⟨_, rfl⟩
  have HL := Lib.hid hl
  have HW : Hid (∀ o : Obj, Below w.heap.size w (w.alloc o)) := Lib.hid (fun o => (Below.refl _ w).alloc (Nat.le_refl _) o)
  unfold Par.cells
  rw [hl, hs']
  rw [hl] at hlen
  clear hin hg hs' hl
  by_cases a : 1 ≤ level
  case neg =>
    rw [tr_neg (fun h => a h.1)]
    have g : decide (1 ≤ level) = false := decide_eq_false a
    go_enter Tryz.func85, Tryz.ntmps85
    go_wp2
    go_ret
    exact ⟨rfl, HW.out _⟩
  have g : decide (1 ≤ level) = true := decide_eq_true a
  by_cases b : level ≤ (l : Int)
  case neg =>
    rw [tr_neg (fun h => b (by have := h.2.1; rw [HL.out] at this; exact this))]
    have g2 : decide (level ≤ (l : Int)) = false := decide_eq_false b
    go_enter Tryz.func85, Tryz.ntmps85
    go_wp2
    go_ret
    exact ⟨rfl, HW.out _⟩
  have g2 : decide (level ≤ (l : Int)) = true := decide_eq_true b
  have hP : PlaceOk p level sp := ⟨a, by rw [HL.out]; exact b, fun _ => by rw [HS.out]; omega⟩
  rw [tr_pos hP]
  clear hP
  have g3 : ((s : Int) == 0) = false := by simp; omega
  have g4 : ((s : Int) != 0) = true := by simp; omega
  cases sp
  all_goals (
    go_enter Tryz.func85, Tryz.ntmps85
    go_wp2
    go_ret
    exact ⟨rfl, HW.out _⟩)

set_option maxHeartbeats 1600000 in
set_option maxRecDepth 100000 in
theorem r09Moduli_walk (p : Par) (ca : Option Addr) (cc : Nat) (level : Int) (sp : Bool) (w : World) (hin : ParIn w p ca cc) (hg : Good p) (hpl : PlaceOk p level sp) :
    Calls Tryz.prog 86 #[.agg (p.cells ca cc), .int .i64 level, .bool sp] w fun e w' => ∃ ao c, e = .returned (.slice ao (p.qs level sp).length c) ∧ Rd w' ao (p.qs level sp) ∧ (p.qs level sp).length ≤ c ∧ c ≤ 9223372036854775807 ∧ Below w.heap.size w w' := by
  obtain ⟨lv, rfl⟩ := Int.eq_ofNat_of_zero_le (show 0 ≤ level by have := hpl.1; omega)
  have hlv1 : 1 ≤ lv := by have := hpl.1; omega
  have hlv2 : lv ≤ p.chain.length := by have := hpl.2.1; omega
  have h24 := (Good.len hg).2
  have hroom := hin.room
  have hroom2 := hin.room2
  have hsp := hin.special
  obtain ⟨W1, hW1⟩ : ∃ W1, w.alloc (.cells (p.cells ca cc) 25) = W1 := ⟨_, rfl⟩
  have hA : Below w.heap.size w W1 := by rw [← hW1]; exact (Below.refl _ w).alloc (Nat.le_refl _) _
  have hBk : Blk W1 w.heap.size 25 (p.cells ca cc) := by rw [← hW1]; exact Blk.new _ _ _
  obtain ⟨b, off, rfl, _⟩ := hin.rd 0 (by omega)
  have htl : (p.chain.take lv).length = lv := by rw [List.length_take]; omega
  obtain ⟨v2, w2, hr2, ho2, hb2⟩ := (OwU.nil W1 W1.heap.size).appendL (Nat.le_refl _) 23 ⟨b, off, none⟩ cc (p.chain.take lv) ((hin.rd.below hA).take lv) (by rw [htl]; simp; omega)
  rw [List.nil_append] at ho2
  rw [htl] at hr2
  obtain ⟨ao2, c2, rfl, hrd2, hc2, hm2, _⟩ := ho2.shape
  rw [htl] at hr2 hc2
  have hA2 : Below w.heap.size w w2 := hA.trans (hb2.mono hA.size)
  have HO := Lib.hid ho2
  have HR2 := Lib.hid hrd2
  have HA2 := Lib.hid hA2
  have HT := Lib.hid htl
  have hlvi : (lv : Int) ≤ (cc : Int) := by omega
  have hlv0 : (0 : Int) ≤ (lv : Int) := Int.natCast_nonneg _
  have HQS : Hid (p.qs (lv : Int) sp = p.chain.take lv ++ (if sp then [p.special] else [])) := Lib.hid rfl
  obtain ⟨q, hq⟩ : ∃ q, p.qs (lv : Int) sp = q := ⟨_, rfl⟩
  rw [hq] at HQS ⊢
  have hsz : w.heap.size < w2.heap.size := by have := hb2.size; have := hBk.lt; omega
  have hc2b : c2 ≤ 9223372036854775807 := by unfold maxLen at hm2; omega
  have HBL : Hid (W1.heap.size ≤ w2.heap.size) := Lib.hid hb2.size
  have HBW : Hid (w.heap.size ≤ W1.heap.size) := Lib.hid hA.size
  obtain ⟨c0, c1, c2', c3, c4, c5, c6⟩ := par_cells hBk
  obtain ⟨d0, d1, d2', d3, d4, d5, d6⟩ := par_cells (hBk.below (w' := w2) ⟨hb2.os, hb2.tape, hb2.output, hb2.size, fun k hk => hb2.block k hk⟩)
  cases sp with
  | false =>
    clear hin hg hpl hA hBk hb2 hA2 hq hrd2 htl hm2 ho2
    unfold Par.cells at hW1 ⊢
    go_enter Tryz.func86, Tryz.ntmps86
    go_wp2_with (at_builtin; refine Lib.wpList_append_run _ rfl (.tmp 8) (.tmp 12) 23 23 rfl _ _ rfl rfl _ _ hr2 ?_)
    go_ret
    have hq : q = p.chain.take lv := by rw [HQS.out]; simp
    subst hq
    rw [HT.out]
    exact ⟨_, _, rfl, HR2.out, hc2, hc2b, HA2.out⟩
  | true =>
    have ho2a : OwU (w2.alloc (.cells #[.int .u32 (p.special : Int)] 22)) W1.heap.size (.slice ao2 (p.chain.take lv).length c2) (p.chain.take lv) := World.ownsRow.alloc ho2 _
    obtain ⟨v3, w3, hr3, ho3, hb3⟩ := ho2a.append (by simp; have := hb2.size; omega) (by rw [htl]; omega) 23 ⟨w2.heap.size, 0, none⟩ 1 p.special ((Blk.new w2 _ _).cell 0)
    obtain ⟨ao3, c3x, rfl, hrd3, hc3, hm3, _⟩ := ho3.shape
    have HL3 : Hid ((p.chain.take lv ++ [p.special]).length = lv + 1) := Lib.hid (by rw [List.length_append, htl]; rfl)
    rw [HL3.out] at hr3 hc3
    rw [htl] at hr3
    have HR3 := Lib.hid hrd3
    have HA3 : Hid (Below w.heap.size w w3) := Lib.hid ((hA2.alloc hA2.size _).trans (hb3.mono hA.size))
    have hc3b : c3x ≤ 9223372036854775807 := by unfold maxLen at hm3; omega
    clear hin hg hpl hA hBk hb2 hA2 hq hrd2 htl hm2 ho2 hrd3 hm3 ho3 hb3
    unfold Par.cells at hW1 ⊢
    go_enter Tryz.func86, Tryz.ntmps86
    go_wp2_with (at_builtin; first | refine Lib.wpList_append_run _ rfl (.tmp 8) (.tmp 12) 23 23 rfl _ _ rfl rfl _ _ hr2 ?_ | refine Lib.wpList_append_run _ rfl (.tmp 15) (.tmp 18) 23 23 rfl _ _ rfl rfl _ _ hr3 ?_)
    go_ret
    have hq : q = p.chain.take lv ++ [p.special] := by rw [HQS.out]; simp
    subst hq
    rw [HL3.out]
    exact ⟨_, _, rfl, HR3.out, hc3, hc3b, HA3.out⟩
end Go.Proofs.YtcipjbckcnkfaaaGreat

namespace Go.Proofs.YtcipjbckcnkfaaaGreat
open Go.RowKit

/-- The primes of good parameters: odd, distinct, of 31 bits. -/
theorem good_all {p : Par} (hg : Good p) : (∀ i, i < (p.chain ++ [p.special]).length → 3 ≤ (p.chain ++ [p.special]).getD i 0 ∧ (p.chain ++ [p.special]).getD i 0 ≤ 2147483647 ∧ (p.chain ++ [p.special]).getD i 0 % 2 = 1) ∧
    ∀ k i, k < i → i < (p.chain ++ [p.special]).length → (p.chain ++ [p.special]).getD k 0 ≠ (p.chain ++ [p.special]).getD i 0 := by
  have hget : ∀ i, i < (p.chain ++ [p.special]).length → (i < p.chain.length ∧ (p.chain ++ [p.special]).getD i 0 = p.chain.getD i 0) ∨ (i = p.chain.length ∧ (p.chain ++ [p.special]).getD i 0 = p.special) := by
    intro i hi
    rcases Nat.lt_or_ge i p.chain.length with h | h
    · exact .inl ⟨h, by rw [List.getD_eq_getElem?_getD, List.getElem?_append_left h, ← List.getD_eq_getElem?_getD]⟩
    · have e : i = p.chain.length := by simp at hi; omega
      exact .inr ⟨e, by rw [List.getD_eq_getElem?_getD, List.getElem?_append_right h, e]; simp⟩
  obtain ⟨_, _, _, _, _, _, _, hs, hc, hd⟩ := hg
  refine ⟨fun i hi => ?_, fun k i hki hi => ?_⟩
  · rcases hget i hi with ⟨h, e⟩ | ⟨_, e⟩
    · rw [e]
      exact ⟨by have := (hc i h).1.1; omega, (hc i h).1.2.1, good_odd (hc i h).1⟩
    · rw [e]
      exact ⟨by have := hs.1; omega, hs.2.1, good_odd hs⟩
  · rcases hget i hi with ⟨h, e⟩ | ⟨h, e⟩
    · rcases hget k (by omega) with ⟨h', e'⟩ | ⟨h', e'⟩
      · rw [e, e']; exact hd k i hki h
      · omega
    · rcases hget k (by omega) with ⟨h', e'⟩ | ⟨h', e'⟩
      · rw [e, e']; have := (hc k h').2; omega
      · omega

set_option maxHeartbeats 3200000 in
set_option maxRecDepth 100000 in
theorem r09Valid_walk (p : Par) (ca : Option Addr) (cc : Nat) (w : World) (hin : ParIn w p ca cc) (hg : Good p) :
    Calls Tryz.prog 84 #[.agg (p.cells ca cc)] w fun e w' => e = .returned (.bool true) ∧ Below w.heap.size w w' := by
  have h24 := Good.len hg
  have hsp := Good.special hg
  have hroom := hin.room
  have hroom2 := hin.room2
  obtain ⟨hG1, hG2⟩ := good_all hg
  have HG1 := Lib.hid hG1
  have HG2 := Lib.hid hG2
  have hdim : p.n = 4 ∨ p.n = 8 ∨ p.n = 16 ∨ p.n = 32 := hg.1
  obtain ⟨W1, hW1⟩ : ∃ W1, w.alloc (.cells (p.cells ca cc) 25) = W1 := ⟨_, rfl⟩
  have hA : Below w.heap.size w W1 := by rw [← hW1]; exact (Below.refl _ w).alloc (Nat.le_refl _) _
  have hBk : Blk W1 w.heap.size 25 (p.cells ca cc) := by rw [← hW1]; exact Blk.new _ _ _
  obtain ⟨b, off, rfl, _⟩ := hin.rd 0 (by omega)
  obtain ⟨v2, w2, hr2, ho2, hb2⟩ := (OwU.nil W1 W1.heap.size).appendL (Nat.le_refl _) 23 ⟨b, off, none⟩ cc p.chain (hin.rd.below hA) (by simp; omega)
  rw [List.nil_append] at ho2
  obtain ⟨ao2, c2, rfl, hrd2, hc2, hm2, _⟩ := ho2.shape
  have ho2a : OwU (w2.alloc (.cells #[.int .u32 (p.special : Int)] 22)) W1.heap.size (.slice ao2 p.chain.length c2) p.chain := World.ownsRow.alloc ho2 _
  obtain ⟨v3, w3, hr3, ho3, hb3⟩ := ho2a.append (by simp; have := hb2.size; omega) (by omega) 23 ⟨w2.heap.size, 0, none⟩ 1 p.special ((Blk.new w2 _ _).cell 0)
  obtain ⟨ao3, c3x, rfl, hrd3, hc3, hm3, _⟩ := ho3.shape
  have hL3 : (p.chain ++ [p.special]).length = p.chain.length + 1 := by rw [List.length_append]; rfl
  have HL3 := Lib.hid hL3
  rw [hL3] at hr3 hc3
  have HR3 := Lib.hid hrd3
  have hA2 : Below w.heap.size w w2 := hA.trans (hb2.mono hA.size)
  have HA3 : Hid (Below w.heap.size w w3) := Lib.hid ((hA2.alloc hA2.size _).trans (hb3.mono hA.size))
  have hsz : w.heap.size < w2.heap.size := by have := hb2.size; have := hBk.lt; omega
  obtain ⟨c0, c1, c2', c3, c4, c5, c6⟩ := par_cells hBk
  obtain ⟨d0, d1, d2', d3, d4, d5, d6⟩ := par_cells (hBk.below (w' := w2) ⟨hb2.os, hb2.tape, hb2.output, hb2.size, fun k hk => hb2.block k hk⟩)
  obtain ⟨s, hs⟩ : ∃ s, p.special = s := ⟨_, rfl⟩
  obtain ⟨l, hl⟩ : ∃ l, p.chain.length = l := ⟨_, rfl⟩
  obtain ⟨n, hn⟩ : ∃ n, p.n = n := ⟨_, rfl⟩
  have g4 : ((s : Int) != 0) = true := by simp; omega
  have hgn : ((n != 4 && n != 8 && n != 16) && n != 32) = false := by rw [hn] at hdim; rcases hdim with h | h | h | h <;> subst h <;> rfl
  obtain ⟨q, hq⟩ : ∃ q, p.chain ++ [p.special] = q := ⟨_, rfl⟩
  rw [hq] at HG1 HG2 HR3 HL3
  rw [hs] at hr3 c4 d4 hsp
  rw [hl] at hr2 hr3 hc3 c3 d3 h24 HL3
  have hr3 : (Builtin.append_ #[23, 23] 23 #[.slice ao2 l c2, .slice (some ⟨w2.heap.size, 0, none⟩) 1 1]).run Tryz.prog (w2.alloc (.cells #[.int .u32 s] 22)) = .ok (.slice ao3 (l + 1) c3x) w3 := hr3
  unfold Par.cells at hW1 ⊢
  rw [hn] at c0 d0 hW1 hdim ⊢
  rw [hs, hl] at hW1 ⊢
  clear hin hg hG1 hG2 hA hBk hrd2 ho2 hb2 hm2 ho2a ho3 hb3 hrd3 hm3 hL3 hA2 hs hl hn hq hc2
  rcases hdim with rfl | rfl | rfl | rfl
  all_goals (
    go_enter Tryz.func84, Tryz.ntmps84
    go_wp2_with (at_builtin; first | refine Lib.wpList_append_run _ rfl (.tmp 34) (.tmp 36) 23 23 rfl _ _ rfl rfl _ _ hr2 ?_ | refine Lib.wpList_append_run _ rfl (.tmp 41) (.tmp 44) 23 23 rfl _ _ rfl rfl _ _ hr3 ?_)
    go_loopg [4] (l + 1) (fun k v4 wr => ∃ i : Nat, v4 = .int .i64 i ∧ i ≤ l + 1 ∧ l + 1 - i ≤ k ∧ Hid (Below w3.heap.size w3 wr))
    case atStart => exact ⟨0, rfl, by omega, by omega, Lib.hid (Below.refl _ _)⟩
    case round =>
      obtain ⟨i, rfl, hi, hk, HB⟩ := hrel
      by_cases hlt : i < l + 1
      case neg =>
        obtain rfl : i = l + 1 := by omega
        go_wp2
        go_ret
        exact ⟨rfl, below_step HA3.out HB.out⟩
      obtain ⟨b3, o3, rfl, hcc⟩ := (HR3.out.below HB.out) i (by rw [HL3.out]; exact hlt)
      have ci := hcc i (by rw [HL3.out]; exact hlt)
      obtain ⟨k1, k2, k3⟩ := HG1.out i (by rw [HL3.out]; exact hlt)
      obtain ⟨x, hx⟩ : ∃ x, q.getD i 0 = x := ⟨_, rfl⟩
      have HX := Lib.hid hx
      rw [hx] at ci k1 k2 k3
      have g1 : decide ((x : Int) < 3) = false := decide_eq_false (by omega)
      have g2 : decide ((2147483647 : Int) < (x : Int)) = false := decide_eq_false (by omega)
      have g3 : ((x : Int) % 2 == 0) = false := by simp; omega
      have hx3 : (x : Int) % 2 = 1 := by omega
      clear hcc hx
      go_wp2
      obtain ⟨wo, rfl⟩ : ∃ wo, wo = wr := ⟨_, rfl⟩
      go_loopg [5] i (fun k v5 wr => ∃ j : Nat, v5 = .int .i64 j ∧ j ≤ i ∧ i - j ≤ k ∧ Hid (Below w3.heap.size w3 wr))
      case atStart => exact ⟨0, rfl, by omega, by omega, HB⟩
      case round =>
        clear HB ci
        obtain ⟨j, rfl, hj, hk2, HB⟩ := hrel
        by_cases hji : j < i
        case neg =>
          obtain rfl : j = i := by omega
          go_wp2
          go_roundg (l + 1 - (j + 1))
          case measure => omega
          case rel => exact ⟨j + 1, by go_num, by omega, Nat.le_refl _, HB⟩
        obtain ⟨b3', o3', e3, hcc⟩ := (HR3.out.below HB.out) i (by rw [HL3.out]; exact hlt)
        cases e3
        have ci := hcc i (by rw [HL3.out]; exact hlt)
        have cj := hcc j (by rw [HL3.out]; omega)
        have hne := HG2.out j i hji (by rw [HL3.out]; exact hlt)
        rw [HX.out] at ci hne
        obtain ⟨y, hy⟩ : ∃ y, q.getD j 0 = y := ⟨_, rfl⟩
        rw [hy] at cj hne
        have gy : ((y : Int) == (x : Int)) = false := by simp; omega
        have HBd : Hid (∀ m, Below w3.heap.size w3 (wr.drewN m)) := Lib.hid (fun m => below_step HB.out ((Turn.refl wr []).drewN m).below)
        clear hcc hy
        go_wp2
        go_quiet (fail)
        go_wp2
        go_roundg (i - (j + 1))
        case measure => omega
        case rel => exact ⟨j + 1, by go_num, by omega, Nat.le_refl _, Lib.hid (HBd.out _)⟩)
end Go.Proofs.YtcipjbckcnkfaaaGreat

namespace Go.Proofs.YtcipjbckcnkfaaaGreat
open Go.RowKit

theorem el_cells {w : World} {b : Nat} {v0 v1 v2 : Value} {t : TypeId} (h : Blk w b t #[v0, v1, v2]) : w.cell? ⟨b, 0, none⟩ = some v0 ∧ w.cell? ⟨b, 1, none⟩ = some v1 ∧ w.cell? ⟨b, 2, none⟩ = some v2 := ⟨h.cell 0, h.cell 1, h.cell 2⟩
theorem El.get_row (E : El) (i j : Nat) : (E.row i).getD j 0 = E.get i j := rfl

set_option maxHeartbeats 6400000 in
set_option maxRecDepth 100000 in
theorem r09Check_walk (p : Par) (ca : Option Addr) (cc : Nat) (E : El) (ao : Option Addr) (c : Nat) (w : World) (hin : ParIn w p ca cc) (hg : Good p) (he : ElIn w E ao c) :
    Calls Tryz.prog 54 #[.agg (p.cells ca cc), E.val ao c] w fun e w' => e = .returned (.int .i64 (chk (ElOk p E))) ∧ Below w.heap.size w w' := by
  obtain ⟨W1, hW1⟩ : ∃ W1, (w.alloc (.cells (p.cells ca cc) 25)).alloc (.cells #[.int .i64 E.level, .bool E.special, .slice ao E.rows.length c] 54) = W1 := ⟨_, rfl⟩
  have hA : Below w.heap.size w W1 := by rw [← hW1]; exact ((Below.refl _ w).alloc (Nat.le_refl _) _).alloc (by simp) _
  have hBp : Blk W1 w.heap.size 25 (p.cells ca cc) := by rw [← hW1]; exact (Blk.new _ _ _).alloc _
  have hBe : Blk W1 (w.heap.size + 1) 54 #[.int .i64 E.level, .bool E.special, .slice ao E.rows.length c] := by
    rw [← hW1]
    have := Blk.new (w.alloc (.cells (p.cells ca cc) 25)) 54 #[.int .i64 E.level, .bool E.special, .slice ao E.rows.length c]
    rw [World.size_alloc] at this
    exact this
  have HI := Lib.hid (hin.below hA)
  have HE := Lib.hid (he.below hA)
  have HA := Lib.hid hA
  have HBP := Lib.hid hBp
  have HBE := Lib.hid hBe
  have HV := Lib.hid (r09Valid_walk p ca cc W1 HI.out hg)
  have HPL := Lib.hid (fun w (h : ParIn w p ca cc) => r09place_walk p ca cc E.level E.special w h hg)
  have HMO := Lib.hid (fun w (h : ParIn w p ca cc) (k : PlaceOk p E.level E.special) => r09Moduli_walk p ca cc E.level E.special w h hg k)
  have hl1 := he.l1
  have hl2 := he.l2
  have hm := he.len
  have HRW := Lib.hid he.rows
  have hn := Good.n hg
  obtain ⟨n, hn'⟩ : ∃ n, p.n = n := ⟨_, rfl⟩
  have HN := Lib.hid hn'
  obtain ⟨c0, c1, c2, c3, c4, c5, c6⟩ := par_cells hBp
  obtain ⟨e0, e1, e2⟩ := el_cells hBe
  obtain ⟨lv, hlv⟩ : ∃ lv, E.level = lv := ⟨_, rfl⟩
  obtain ⟨sp, hsp⟩ : ∃ sp, E.special = sp := ⟨_, rfl⟩
  obtain ⟨m, hmm⟩ : ∃ m, E.rows.length = m := ⟨_, rfl⟩
  have HM := Lib.hid hmm
  have HLV := Lib.hid hlv
  have HSP := Lib.hid hsp
  unfold Par.cells at hW1 HV HPL HMO HBP ⊢
  unfold El.val
  rw [hn'] at hW1 HV HPL HMO HBP hn c0 ⊢
  rw [hlv] at hW1 HPL HMO HBE hl1 hl2 e0 ⊢
  rw [hsp] at hW1 HPL HMO HBE e1 ⊢
  rw [hmm] at hW1 HBE hm e2 ⊢
  have hGP := Lib.hid hg
  clear hin he hA hBp hBe hn' hlv hsp hmm hg
  by_cases hpl : PlaceOk p lv sp
  case neg =>
    have HC : Hid (chk (ElOk p E) = 2) := Lib.hid (chk_neg (fun h => hpl (by have := h.1; rw [HLV.out, HSP.out] at this; exact this)))
    rw [tr_neg hpl] at HPL
    clear hpl HMO
    go_enter Tryz.func54, Tryz.ntmps54
    go_wp2_with fail
    (with_reducible refine Calls.mono HV.out ?_)
    rintro e w2 ⟨rfl, hb⟩
    have HB2 := Lib.hid (below_step HA.out hb)
    have HI2 := Lib.hid (HI.out.below hb)
    obtain ⟨d0, d1, d2, d3, d4, d5, d6⟩ := par_cells (HBP.out.below hb)
    obtain ⟨f0, f1, f2⟩ := el_cells (HBE.out.below hb)
    clear hb c0 c1 c2 c3 c4 c5 c6 e0 e1 e2
    go_wp2_with fail
    (with_reducible refine Calls.mono (HPL.out _ HI2.out) ?_)
    rintro e w3 ⟨rfl, hb⟩
    have HB3 := Lib.hid (below_step HB2.out hb)
    clear hb
    go_wp2
    go_ret
    rw [HC.out]
    exact ⟨rfl, HB3.out⟩
  rw [tr_pos hpl] at HPL
  have HQL := qs_len hpl
  have hmo : ∀ w, ParIn w p ca cc → _ := fun w h => HMO.out w h hpl
  have HMO2 := Lib.hid hmo
  have hqi := hGP.out.qs_le lv sp
  obtain ⟨q, hq⟩ : ∃ q, p.qs lv sp = q := ⟨_, rfl⟩
  have HQ := Lib.hid hq
  rw [hq] at HMO2 HQL hqi
  obtain ⟨k, hk⟩ : ∃ k, q.length = k := ⟨_, rfl⟩
  have HK := Lib.hid hk
  have hkb : k ≤ 25 := by
    rw [← hk, ← hq]
    unfold Par.qs
    have := hGP.out.len.2
    rw [List.length_append, List.length_take]
    split <;> simp <;> omega
  rw [hk] at HMO2 HQL
  have HQI := Lib.hid hqi
  have HOK : Hid (PlaceOk p lv sp) := Lib.hid hpl
  clear hpl HMO hmo hq hk HQL hqi
  go_enter Tryz.func54, Tryz.ntmps54
  go_wp2_with fail
  (with_reducible refine Calls.mono HV.out ?_)
  rintro e w2 ⟨rfl, hb⟩
  have HB2 := Lib.hid (below_step HA.out hb)
  have HI2 := Lib.hid (HI.out.below hb)
  have HE2 := Lib.hid (HE.out.below hb)
  have HBP2 := Lib.hid (HBP.out.below hb)
  have HBE2 := Lib.hid (HBE.out.below hb)
  obtain ⟨d0, d1, d2, d3, d4, d5, d6⟩ := par_cells HBP2.out
  obtain ⟨f0, f1, f2⟩ := el_cells HBE2.out
  clear hb c0 c1 c2 c3 c4 c5 c6 e0 e1 e2 HV HI HE HBP HBE hW1
  go_wp2_with fail
  (with_reducible refine Calls.mono (HPL.out _ HI2.out) ?_)
  rintro e w3 ⟨rfl, hb⟩
  have HB3 := Lib.hid (below_step HB2.out hb)
  have HI3 := Lib.hid (HI2.out.below hb)
  have HE3 := Lib.hid (HE2.out.below hb)
  have HBP3 := Lib.hid (HBP2.out.below hb)
  have HBE3 := Lib.hid (HBE2.out.below hb)
  obtain ⟨c0, c1, c2, c3, c4, c5, c6⟩ := par_cells HBP3.out
  obtain ⟨e0, e1, e2⟩ := el_cells HBE3.out
  clear hb d0 d1 d2 d3 d4 d5 d6 f0 f1 f2 HI2 HE2 HBP2 HBE2 HPL
  go_wp2_with fail
  (with_reducible refine Calls.mono (HMO2.out _ HI3.out) ?_)
  rintro e w4 ⟨qo, qc, rfl, hqr, hqc, hqc2, hb⟩
  have HB4 := Lib.hid (below_step HB3.out hb)
  have HE4 := Lib.hid (HE3.out.below hb)
  have HBP4 := Lib.hid (HBP3.out.below hb)
  have HBE4 := Lib.hid (HBE3.out.below hb)
  have HQR := Lib.hid hqr
  obtain ⟨d0, d1, d2, d3, d4, d5, d6⟩ := par_cells HBP4.out
  obtain ⟨f0, f1, f2⟩ := el_cells HBE4.out
  clear hb hqr c0 c1 c2 c3 c4 c5 c6 e0 e1 e2 HI3 HE3 HBP3 HBE3 HMO2
  by_cases hmk : m = k
  case neg =>
    have HC : Hid (chk (ElOk p E) = 2) := Lib.hid (chk_neg (fun h => hmk (by have := h.2.1; rw [HLV.out, HSP.out, HQ.out, HK.out, HM.out] at this; exact this)))
    have g : ((m : Int) == (k : Int)) = false := by simp; omega
    have g' : ((m : Int) != (k : Int)) = true := by simp; omega
    go_wp2
    go_ret
    rw [HC.out]
    exact ⟨rfl, HB4.out⟩
  subst hmk
  go_wp2
  go_loopg [6] m (fun f v6 wr => ∃ i : Nat, v6 = .int .i64 i ∧ i ≤ m ∧ m - i ≤ f ∧ Hid (Below w4.heap.size w4 wr) ∧ Hid (∀ j, j < i → ((E.row j).length : Int) = n ∧ ∀ t, t < (E.row j).length → E.get j t < q.getD j 0))
  case atStart => exact ⟨0, rfl, by omega, by omega, Lib.hid (Below.refl _ _), Lib.hid (fun j hj => absurd hj (Nat.not_lt_zero j))⟩
  case round =>
    obtain ⟨i, rfl, hi, hf, HB, HP⟩ := hrel
    by_cases hlt : i < m
    case neg =>
      obtain rfl : i = m := by omega
      have HC : Hid (chk (ElOk p E) = 0) := Lib.hid (chk_pos ⟨by rw [HLV.out, HSP.out]; exact HOK.out, by rw [HLV.out, HSP.out, HQ.out, HK.out, HM.out], fun j hj => by
        rw [HM.out] at hj
        rw [HLV.out, HSP.out, HQ.out, HN.out]
        exact HP.out j hj⟩)
      go_wp2
      go_ret
      rw [HC.out]
      exact ⟨rfl, below_step HB4.out HB.out⟩
    obtain ⟨b, off, ro, rc, rfl, hcell, hrow, _⟩ := El.rdrow (HE4.out.below HB.out) (i := i) (by rw [HM.out]; exact hlt)
    have HROW := Lib.hid hrow
    have hrl := (HRW.out i (by rw [HM.out]; exact hlt)).1
    obtain ⟨r, hr⟩ : ∃ r, (E.row i).length = r := ⟨_, rfl⟩
    have HRL := Lib.hid hr
    rw [hr] at hcell hrl
    obtain ⟨c0, c1, c2, c3, c4, c5, c6⟩ := par_cells (HBP4.out.below HB.out)
    obtain ⟨e0, e1, e2⟩ := el_cells (HBE4.out.below HB.out)
    have i0 : (0 : Int) ≤ (i : Int) := Int.natCast_nonneg _
    have i1 : (i : Int) < (m : Int) := by omega
    have HBd : Hid (∀ x, Below w4.heap.size w4 (wr.drewN x)) := Lib.hid (fun x => below_step HB.out ((Turn.refl wr []).drewN x).below)
    clear hrow hr
    by_cases hrn : (r : Int) = n
    case neg =>
      have HC : Hid (chk (ElOk p E) = 2) := Lib.hid (chk_neg (fun h => hrn (by have := (h.2.2 i (by rw [HM.out]; exact hlt)).1; rw [HRL.out, HN.out] at this; exact this)))
      have g : ((r : Int) == n) = false := by simp; exact hrn
      have g' : ((r : Int) != n) = true := by simp; exact hrn
      go_wp2
      go_quiet (fail)
      go_wp2
      go_ret
      rw [HC.out]
      exact ⟨rfl, below_step HB4.out (HBd.out _)⟩
    have g : ((r : Int) == n) = true := by simp; exact hrn
    have g' : ((r : Int) != n) = false := by simp; exact hrn
    go_wp2
    go_quiet (fail)
    go_wp2
    obtain ⟨wo, rfl⟩ : ∃ wo, wo = wr := ⟨_, rfl⟩
    go_loopg [7] r (fun f v7 wq => ∃ j : Nat, v7 = .int .i64 j ∧ j ≤ r ∧ r - j ≤ f ∧ Hid (Below w4.heap.size w4 wq) ∧ Hid (∀ t, t < j → E.get i t < q.getD i 0))
    case atStart => exact ⟨0, rfl, by omega, by omega, Lib.hid (HBd.out _), Lib.hid (fun t ht => absurd ht (Nat.not_lt_zero t))⟩
    case round =>
      obtain ⟨j, rfl, hj, hf2, HB', HP'⟩ := hrel
      clear c0 c1 c2 c3 c4 c5 c6 e0 e1 e2 hcell
      obtain ⟨c0, c1, c2, c3, c4, c5, c6⟩ := par_cells (HBP4.out.below HB'.out)
      obtain ⟨e0, e1, e2⟩ := el_cells (HBE4.out.below HB'.out)
      by_cases hjl : j < r
      case neg =>
        obtain rfl : j = r := by omega
        have gj : decide ((j : Int) < n) = false := decide_eq_false (by omega)
        have HP2 : Hid (∀ t, t < i + 1 → ((E.row t).length : Int) = n ∧ ∀ x, x < (E.row t).length → E.get t x < q.getD t 0) := Lib.hid (fun t ht => by
          rcases Nat.lt_or_eq_of_le (Nat.le_of_lt_succ ht) with h | rfl
          · exact HP.out t h
          · rw [HRL.out]; exact ⟨hrn, HP'.out⟩)
        go_wp2
        go_roundg (m - (i + 1))
        case measure => omega
        case rel => exact ⟨i + 1, by go_num, by omega, Nat.le_refl _, HB', HP2⟩
      have gj : decide ((j : Int) < n) = true := decide_eq_true (by omega)
      obtain ⟨b', off', ro', rc', e', hcell, hrow, _⟩ := El.rdrow (HE4.out.below HB'.out) (i := i) (by rw [HM.out]; exact hlt)
      cases e'
      obtain ⟨br, offr, rfl, hcr⟩ := hrow j (by rw [HRL.out]; exact hjl)
      have cx := hcr j (by rw [HRL.out]; exact hjl)
      have hxb := (HRW.out i (by rw [HM.out]; exact hlt)).2 j (by rw [HRL.out]; exact hjl)
      rw [HRL.out] at hcell
      rw [El.get_row] at cx
      obtain ⟨x, hx⟩ : ∃ x, E.get i j = x := ⟨_, rfl⟩
      rw [hx] at cx hxb
      have HX := Lib.hid hx
      obtain ⟨bq, oq, rfl, hcq⟩ := (HQR.out.below HB'.out) i (by rw [HK.out]; exact hlt)
      have cq := hcq i (by rw [HK.out]; exact hlt)
      have hqb := HQI.out i
      obtain ⟨y, hy⟩ : ∃ y, q.getD i 0 = y := ⟨_, rfl⟩
      rw [hy] at cq hqb
      have HY := Lib.hid hy
      have j0 : (0 : Int) ≤ (j : Int) := Int.natCast_nonneg _
      have j1 : (j : Int) < (r : Int) := by omega
      have HBd' : Hid (∀ x, Below w4.heap.size w4 (wr.drewN x)) := Lib.hid (fun x => below_step HB'.out ((Turn.refl wr []).drewN x).below)
      clear hcr hcq hx hy hrow
      by_cases hxy : x < y
      · have gx : decide ((y : Int) ≤ (x : Int)) = false := decide_eq_false (by omega)
        have HP2 : Hid (∀ t, t < j + 1 → E.get i t < q.getD i 0) := Lib.hid (fun t ht => by
          rcases Nat.lt_or_eq_of_le (Nat.le_of_lt_succ ht) with h | rfl
          · exact HP'.out t h
          · rw [HX.out, HY.out]; exact hxy)
        go_wp2
        go_quiet (fail)
        go_wp2
        go_roundg (r - (j + 1))
        case measure => omega
        case rel => exact ⟨j + 1, by go_num, by omega, Nat.le_refl _, Lib.hid (HBd'.out _), HP2⟩
      · have gx : decide ((y : Int) ≤ (x : Int)) = true := decide_eq_true (by omega)
        have HC : Hid (chk (ElOk p E) = 2) := Lib.hid (chk_neg (fun h => hxy (by
          have := (h.2.2 i (by rw [HM.out]; exact hlt)).2 j (by rw [HRL.out]; exact hjl)
          rw [HLV.out, HSP.out, HQ.out, HX.out, HY.out] at this
          exact this)))
        go_wp2
        go_quiet (fail)
        go_wp2
        go_ret
        rw [HC.out]
        exact ⟨rfl, below_step HB4.out (HBd'.out _)⟩
end Go.Proofs.YtcipjbckcnkfaaaGreat
