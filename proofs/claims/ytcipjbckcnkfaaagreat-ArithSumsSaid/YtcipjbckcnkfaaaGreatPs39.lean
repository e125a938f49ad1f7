/- Elements of the call's own, built by append. No walk. -/
import Derived.Test.YtcipjbckcnkfaaaGreatPs38
import Derived.Lib.AppendZeros
import Derived.Laws.OwnMore
import Derived.Laws.MakeOwn
set_option linter.unusedSimpArgs false
set_option linter.unusedVariables false
namespace Go.Proofs.YtcipjbckcnkfaaaGreat
open Go.RowKit

/-- Elements that the call made by append: their rows its own. -/
def OwE (w : World) (base : Nat) (v : Value) (l : List El) : Prop :=
  ∃ vals : List Value, w.ownsRow base 54 3 v l.length vals ∧ (∀ g, v.ownBlock = some g → g < w.heap.size) ∧
    ∀ j, j < l.length → ∃ ro rc, vals[j * 3]? = some (.int .i64 (l.getD j ⟨0, false, []⟩).level) ∧ vals[j * 3 + 1]? = some (.bool (l.getD j ⟨0, false, []⟩).special) ∧ vals[j * 3 + 2]? = some (.slice ro (l.getD j ⟨0, false, []⟩).rows.length rc) ∧ RdRN w base ro (l.getD j ⟨0, false, []⟩).rows ∧ (l.getD j ⟨0, false, []⟩).rows.length ≤ rc ∧ rc ≤ 9223372036854775807
theorem OwE.nil (w : World) (base : Nat) : OwE w base (.slice none 0 0) [] := ⟨[], World.ownsRow_nil w _ _ _, fun g h => by simp [Value.ownBlock] at h, fun j hj => by simp at hj⟩
theorem OwE.kp {w w' : World} {base : Nat} {v : Value} {l : List El} (h : OwE w base v l) (hK : Kp elT base w w') : OwE w' base v l := by
  obtain ⟨vals, ho, hg, hr⟩ := h
  refine ⟨vals, ⟨ho.1, ?_⟩, fun g h => Nat.lt_of_lt_of_le (hg g h) hK.1, fun j hj => ?_⟩
  · rcases ho.2 with h | ⟨g, cap, cur, rfl, h1, h2, h3⟩
    · exact .inl h
    · exact .inr ⟨g, cap, cur, rfl, h1, hK.2 _ _ _ h1 (by decide) h2, h3⟩
  · obtain ⟨ro, rc, h1, h2, h3, h4, h5⟩ := hr j hj
    exact ⟨ro, rc, h1, h2, h3, h4.kp (hK.less fun _ => elT_row), h5⟩
theorem OwE.below {w w' : World} {base : Nat} {v : Value} {l : List El} (h : OwE w base v l) (hb : Below w.heap.size w w') : OwE w' base v l := h.kp ((Kp.refl _ _ _).call hb)
/-- A store into an elder block. -/
theorem OwE.turn {w w' : World} {base : Nat} {v : Value} {l : List El} {S : List Nat} (h : OwE w base v l) (hT : Turn w w' S) (hS : ∀ x, x ∈ S → x < base) : OwE w' base v l := h.kp (Kp.of_turn hT hS)
theorem OwE.shape {w : World} {base : Nat} {v : Value} {l : List El} (h : OwE w base v l) : ∃ ao c, v = .slice ao l.length c ∧ RdE w ao l ∧ l.length ≤ c ∧ c ≤ 9223372036854775807 := by
  obtain ⟨vals, ho, _, hr⟩ := h
  rcases ho.2 with ⟨rfl, h0⟩ | ⟨g, cap, cur, rfl, h1, h2, hnc, hml, hcs, htk⟩
  · have : l = [] := List.eq_nil_of_length_eq_zero h0
    subst this
    exact ⟨none, 0, rfl, RdE.nil _ _, by simp, by simp⟩
  · refine ⟨_, cap, rfl, fun k hk => ⟨g, 0, rfl, fun j hj => ?_⟩, hnc, by unfold maxLen at hml; omega⟩
    obtain ⟨ro, rc, k1, k2, k3, r1, r2, r3⟩ := hr j hj
    have c : ∀ i u, i < l.length * 3 → vals[i]? = some u → w.cell? ⟨g, 0 + i, none⟩ = some u := fun i u hi hu => by
      rw [cell_of_row w g (0 + i) cur _ _ h2, Nat.zero_add, ← Array.getElem?_toList]
      have e := congrArg (·[i]?) htk
      rw [List.getElem?_take, if_pos hi] at e
      rw [e]
      exact hu
    refine ⟨ro, rc, c _ _ (by omega) k1, ?_, ?_, r1.rd, r2, r3⟩
    · rw [Nat.add_assoc]; exact c _ _ (by omega) k2
    · rw [Nat.add_assoc]; exact c _ _ (by omega) k3
theorem OwE.give {w : World} {base : Nat} {v : Value} {l : List El} (h : OwE w base v l) : ∃ ao c, v = .slice ao l.length c ∧ RdEN w base ao l ∧ l.length ≤ c ∧ c ≤ 9223372036854775807 := by
  obtain ⟨ao, c, e, _, h2, h3⟩ := h.shape
  refine ⟨ao, c, e, fun W hK => ?_, h2, h3⟩
  obtain ⟨ao', c', e', hr, _⟩ := (h.kp hK).shape
  rw [e] at e'
  cases e'
  exact hr
theorem OwE.mono {w : World} {base base' : Nat} {v : Value} {l : List El} (h : OwE w base v l) (hb : base' ≤ base) : OwE w base' v l := by
  obtain ⟨vals, ho, hg, hr⟩ := h
  refine ⟨vals, ⟨ho.1, ?_⟩, hg, fun j hj => ?_⟩
  · rcases ho.2 with h | ⟨g, cap, cur, rfl, h1, h2, h3⟩
    · exact .inl h
    · exact .inr ⟨g, cap, cur, rfl, Nat.le_trans hb h1, h2, h3⟩
  · obtain ⟨ro, rc, h1, h2, h3, h4, h5⟩ := hr j hj
    exact ⟨ro, rc, h1, h2, h3, h4.mono hb, h5⟩
/-- One element more. -/
theorem OwE.append {w : World} {base : Nat} {v : Value} {l : List El} (h : OwE w base v l) (hb : base ≤ w.heap.size) (hlen : l.length ≤ 1000) (g0 c : Nat) (E : El) (ro : Option Addr) (rc : Nat)
    (hx : Blk w g0 54 #[.int .i64 E.level, .bool E.special, .slice ro E.rows.length rc]) (hO : RdRN w base ro E.rows) (hl1 : E.rows.length ≤ rc) (hl2 : rc ≤ 9223372036854775807) :
    ∃ v' w', (Builtin.append_ #[26, 26] 26 #[v, .slice (some ⟨g0, 0, none⟩) 1 c]).run Tryz.prog w = .ok v' w' ∧ OwE w' base v' (l ++ [E]) ∧ Below base w w' ∧ Turn w w' (match v.ownBlock with | some g => [g] | none => []) := by
  obtain ⟨vals, ho, hg, hr⟩ := h
  obtain ⟨i0, hi, hz0, hz1, hz2⟩ := info_parts info_elem
  have hnews : ∀ j u, ([.int .i64 E.level, .bool E.special, .slice ro E.rows.length rc] : List Value)[j]? = some u → w.cell? ((⟨g0, 0, none⟩ : Addr).add j) = some u := by
    intro j u hj
    have e : ((⟨g0, 0, none⟩ : Addr).add j) = ⟨g0, j, none⟩ := by simp [Addr.add]; omega
    rw [e, hx.cell j]
    simpa using hj
  obtain ⟨v', w', hrun, ho', hgr, _, hat⟩ := run_append_own_at (P := Tryz.prog) w base 26 26 54 i0 (.agg #[.int .i64 0, .bool false, .slice none 0 0]) 3 40 Tryz.underlying26 hi hz0 hz1 hz2 rfl (by decide) v l.length vals ho ⟨g0, 0, none⟩ 1 c [.int .i64 E.level, .bool E.special, .slice ro E.rows.length rc] rfl hnews
    (by simp [Value.oneCell']) (by unfold maxLen; omega) (by omega) hb
  have hT : Turn w w' (match v.ownBlock with | some g => [g] | none => []) := Turn.of_grown hgr (fun k hk => .inl (by rw [hk]; simp))
  have hK : Kp rowT base w w' := (Kp.refl _ _ _).turn hT (fun x hx => by
    rcases ho.2 with ⟨rfl, _⟩ | ⟨g, cap, cur, rfl, _, hh, _⟩
    · simp [Value.ownBlock] at hx
    · simp [Value.ownBlock] at hx
      subst hx
      exact .inr (.inr ⟨cur, _, _, hh, by decide⟩))
  have hlt : ∀ g, v'.ownBlock = some g → g < w'.heap.size := fun g hg' => by
    rcases ho'.2 with ⟨rfl, h0⟩ | ⟨g', cap, cur, rfl, _, hh, _⟩
    · simp [Value.ownBlock] at hg'
    · simp [Value.ownBlock] at hg'; subst hg'; exact block_lt hh
  have hvl : vals.length = l.length * 3 := ho.1
  refine ⟨v', w', hrun, ⟨vals ++ [.int .i64 E.level, .bool E.special, .slice ro E.rows.length rc], by rw [List.length_append]; exact ho', hlt, ?_⟩, ?_, hT⟩
  · intro j hj
    rcases Nat.lt_or_ge j l.length with hjl | hjl
    · obtain ⟨so, sc, k1, k2, k3, k4, k5⟩ := hr j hjl
      have e : (l ++ [E]).getD j ⟨0, false, []⟩ = l.getD j ⟨0, false, []⟩ := by rw [List.getD_eq_getElem?_getD, List.getElem?_append_left hjl, ← List.getD_eq_getElem?_getD]
      rw [e]
      exact ⟨so, sc, by rw [List.getElem?_append_left (by omega)]; exact k1, by rw [List.getElem?_append_left (by omega)]; exact k2, by rw [List.getElem?_append_left (by omega)]; exact k3, k4.kp hK, k5⟩
    · have ej : j = l.length := by simp at hj; omega
      subst ej
      have e : (l ++ [E]).getD l.length ⟨0, false, []⟩ = E := by simp [List.getD_eq_getElem?_getD]
      rw [e]
      exact ⟨ro, rc, by rw [← hvl]; simp, by rw [← hvl, List.getElem?_append_right (by omega)]; simp, by rw [← hvl, List.getElem?_append_right (by omega)]; simp, hO.kp hK, hl1, hl2⟩
  · refine hT.belowN hb ?_
    intro k hk
    rcases ho.2 with ⟨rfl, _⟩ | ⟨g, cap, cur, rfl, hg1, _⟩
    · simp [Value.ownBlock] at hk
    · simp [Value.ownBlock] at hk; omega
/-- One element more, by an append whose element lies in a new block. -/
theorem OwE.push {w : World} {base n oc : Nat} {oo : Option Addr} {l : List El} (h : OwE w base (.slice oo n oc) l) (hn : l.length = n) (hb : base ≤ w.heap.size) (hlen : n ≤ 1000) (E : El) (ro : Option Addr) (rc : Nat) (hO : RdRN w base ro E.rows) (hl1 : E.rows.length ≤ rc) (hl2 : rc ≤ 9223372036854775807) :
    ∃ oo' oc' w', (Builtin.append_ #[26, 26] 26 #[.slice oo n oc, .slice (some ⟨w.heap.size, 0, none⟩) 1 1]).run Tryz.prog (w.alloc (.cells #[.int .i64 E.level, .bool E.special, .slice ro E.rows.length rc] 54)) = .ok (.slice oo' (n + 1) oc') w' ∧ OwE w' base (.slice oo' (n + 1) oc') (l ++ [E]) ∧ Below base w w' := by
  have hal : Below w.heap.size w (w.alloc (.cells #[.int .i64 E.level, .bool E.special, .slice ro E.rows.length rc] 54)) := (Below.refl _ _).alloc (Nat.le_refl _) _
  obtain ⟨v', w', h1, h2, h3, _⟩ := (h.below hal).append (by simp; omega) (by omega) w.heap.size 1 E ro rc (Blk.new _ _ _) (hO.below hal) hl1 hl2
  obtain ⟨oo', oc', rfl, _⟩ := h2.shape
  rw [List.length_append, hn] at h1 h2
  exact ⟨oo', oc', w', h1, h2, (hal.mono hb).trans h3⟩
end Go.Proofs.YtcipjbckcnkfaaaGreat
