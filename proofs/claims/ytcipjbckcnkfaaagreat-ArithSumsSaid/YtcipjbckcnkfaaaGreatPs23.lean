/- A region that draws its order, walked in one order that is named: reads are taken first under S; S need not hold behind the last operation, which waits for all others. No walk. -/
import Derived.Test.YtcipjbckcnkfaaaGreatPs03
import Derived.OrdersHeld
import Derived.RegionCalls
set_option linter.unusedSimpArgs false
set_option linter.unusedVariables false
namespace Go.Proofs.YtcipjbckcnkfaaaGreat
open Go.RowKit
section
variable {P : Program} {ops : Array Oper} {Q : Exit → Act → World → Prop} {md : Region.Mode} {S : World → Prop} {z : Nat}
/-- Each operation but the last one is waited for by a later one. -/
def allWaited (md : Region.Mode) (ops : Array Oper) : Bool :=
  (List.range (ops.size - 1)).all fun i => (List.range ops.size).any fun j => decide (i < j) && ((ops[j]?).map fun o => o.after.any fun e => Region.binds md e && (e.on == i)).getD false
/-- The operation behind which S need not hold: none, or the last one, if it waits for all others. -/
def zOk (md : Region.Mode) (ops : Array Oper) (z : Nat) : Bool := decide (ops.size ≤ z) || (allWaited md ops && decide (ops.size = z + 1))
/-- What is listed has its grounds listed. -/
def Clsd (md : Region.Mode) (ops : Array Oper) (listed : Array Bool) : Prop := ∀ (j : Nat) (o : Oper) (e : _), ops[j]? = some o → listed.getD j false = true → e ∈ o.after → Region.binds md e = true → listed.getD e.on false = true
theorem Clsd.start : Clsd md ops (Array.replicate ops.size false) := fun j o e _ h => by
  unfold Array.getD at h
  split at h <;> simp at h
theorem Clsd.step {listed : Array Bool} {j : Nat} (h : Clsd md ops listed) (hj : j ∈ Region.ready md ops listed) : Clsd md ops (listed.setIfInBounds j true) := fun k o e ho hl he hb => by
  apply getD_set_true
  rcases Classical.em (j = k) with q | q
  · subst q
    obtain ⟨_, o', ho', hall⟩ := mem_ready.1 hj
    rw [ho] at ho'
    cases ho'
    exact hall e he hb
  · rw [getD_set_ne false q] at hl
    exact h k o e ho hl he hb
theorem Clsd.last {listed : Array Bool} (h : Clsd md ops listed) (hA : allWaited md ops = true) {z : Nat} (hz : ops.size = z + 1) (hr : z ∈ Region.ready md ops listed) : ∀ (n i : Nat), z - i ≤ n → i < z → listed.getD i false = true := by
  intro n
  induction n with
  | zero => intro i h1 h2; omega
  | succ n ih =>
    intro i h1 h2
    have hi := List.all_eq_true.1 hA i (List.mem_range.2 (by omega))
    obtain ⟨j, hj, hk⟩ := List.any_eq_true.1 hi
    simp only [Bool.and_eq_true, decide_eq_true_eq] at hk
    obtain ⟨hij, hk⟩ := hk
    have hjs := List.mem_range.1 hj
    have hoj : ops[j]? = some ops[j] := Array.getElem?_eq_getElem hjs
    rw [hoj] at hk
    simp only [Option.map_some, Option.getD_some] at hk
    obtain ⟨e, he, hb⟩ := Array.any_eq_true'.1 hk
    simp only [Bool.and_eq_true, beq_iff_eq] at hb
    obtain ⟨hb, rfl⟩ := hb
    rcases Nat.lt_or_ge j z with q | q
    · exact h j _ e hoj (ih j (by omega) q) he hb
    · obtain rfl : j = z := by omega
      obtain ⟨_, o', ho', hall⟩ := mem_ready.1 hr
      rw [hoj] at ho'
      cases ho'
      exact hall e he hb
/-- Whatever order is picked; S holds behind an operation that is not the last one. -/
def wpAnyL (P : Program) (md : Region.Mode) (ops : Array Oper) (Q : Exit → Act → World → Prop) (S : World → Prop) (z : Nat) : Nat → Array Bool → Act → World → Prop
  | 0, listed, a, w => Region.ready md ops listed = [] ∧ Q .normal a w
  | fuel + 1, listed, a, w =>
    (Region.ready md ops listed = [] → Q .normal a w) ∧
    ∀ i ∈ Region.ready md ops listed, wpOp P ops Q i (fun a' w' => (i ≠ z → S w') ∧ wpAnyL P md ops Q S z fuel (listed.setIfInBounds i true) a' w') a w
theorem wpAnyL.any : ∀ (fuel : Nat) (listed : Array Bool) (a : Act) (w : World), wpAnyL P md ops Q S z fuel listed a w → wpAny P md ops Q fuel listed a w := by
  intro fuel
  induction fuel with
  | zero => exact fun _ _ _ h => h
  | succ fuel ih => exact fun listed a w h => ⟨h.1, fun i hi => wpOp_mono (fun a' w' k => ih _ a' w' k.2) (h.2 i hi)⟩
theorem ne_of_mem {l : List Nat} {i : Nat} (h : i ∈ l) : l ≠ [] := fun e => by rw [e] at h; cases h
theorem wpAnyL.first {i : Nat} {oi : Oper} {v : Value} (hA : zOk md ops z = true) (hi : ops[i]? = some oi) (hsel : ∀ (j : Nat) (o : Oper) cs b, ops[j]? = some o → o.op ≠ .select cs b)
    (hQ : ∀ c a w, Q (.panic c) (a.put oi.dst v) w → Q (.panic c) a w) :
    ∀ (fuel : Nat) (listed : Array Bool) (a : Act) (w : World), Clsd md ops listed →
      (∀ j oj, ops[j]? = some oj → j ≠ i → listed.getD j true = false → (∀ e ∈ oj.after, Region.binds md e = true → e.on ≠ i) → oi.apart ops oj = true) →
      i ∈ Region.ready md ops listed → YieldsIf P ops S oi v a → S w →
      wpAnyL P md ops Q S z fuel (listed.setIfInBounds i true) (a.put oi.dst v) w → wpAnyL P md ops Q S z (fuel + 1) listed a w := by
  have hsz : i < ops.size := by
    rcases Nat.lt_or_ge i ops.size with h | h
    · exact h
    · rw [Array.getElem?_eq_none h] at hi; cases hi
  intro fuel
  induction fuel with
  | zero =>
    intro listed a w _ _ hr hy hS H
    refine ⟨fun h => absurd h (ne_of_mem hr), fun j hj => ?_⟩
    rcases Classical.em (j = i) with e | e
    · subst e; exact hy.wpOp hi hS ⟨fun _ => hS, H⟩
    · exact absurd H.1 (ne_of_mem (ready_mono hj e))
  | succ fuel ih =>
    intro listed a w hC hfree hr hy hS H
    refine ⟨fun h => absurd h (ne_of_mem hr), fun j hj => ?_⟩
    rcases Classical.em (j = i) with e | e
    · subst e; exact hy.wpOp hi hS ⟨fun _ => hS, H⟩
    obtain ⟨hun, oj, hoj, hall⟩ := mem_ready.1 hj
    have hnot : ∀ e ∈ oj.after, Region.binds md e = true → e.on ≠ i := fun e' he hb heq => by
      have k1 := hall e' he hb
      have k0 := (mem_ready.1 hr).1
      rw [heq] at k1
      rcases Nat.lt_or_ge i listed.size with k | k
      · simp only [Array.getD, k, dite_true] at k0 k1; rw [k0] at k1; cases k1
      · simp [Array.getElem?_eq_none k] at k1
    have hjs : j < ops.size := by
      rcases Nat.lt_or_ge j ops.size with h | h
      · exact h
      · rw [Array.getElem?_eq_none h] at hoj; cases hoj
    have hjz : j ≠ z := by
      rintro rfl
      unfold zOk at hA
      simp only [Bool.or_eq_true, Bool.and_eq_true, decide_eq_true_eq] at hA
      rcases hA with h | ⟨h, hz⟩
      · omega
      · have k1 := hC.last h hz hj (j - i) i (Nat.le_refl _) (by omega)
        have k0 := (mem_ready.1 hr).1
        rcases Nat.lt_or_ge i listed.size with k | k
        · simp only [Array.getD, k, dite_true] at k0 k1; rw [k0] at k1; cases k1
        · simp [Array.getElem?_eq_none k] at k1
    have hstep := wpOp_putIf hoj (hfree j oj hoj e hun hnot) (fun cs b => hsel i oi cs b hi) (fun cs b => hsel j oj cs b hoj) hQ hy (H.2 j (ready_mono hj e))
    refine wpOp_mono (fun a' w' k => ?_) hstep
    obtain ⟨k1, k2, k3⟩ := k
    have hcomm : (listed.setIfInBounds i true).setIfInBounds j true = (listed.setIfInBounds j true).setIfInBounds i true := Array.setIfInBounds_comm _ _ (Ne.symm e)
    rw [hcomm] at k3
    exact ⟨k2, ih _ a' w' (hC.step hj) (fun m om hm hmi hmu hmn => hfree m om hm hmi (by
      rcases Classical.em (j = m) with q | q
      · subst q; exact hun
      · rw [getD_set_ne true q] at hmu; exact hmu) hmn) (ready_mono hr (Ne.symm e)) k1 (k2 hjz) k3⟩
/-- A walk's state: what is listed has its grounds listed. -/
def wpL (P : Program) (md : Region.Mode) (ops : Array Oper) (Q : Exit → Act → World → Prop) (S : World → Prop) (z : Nat) (fuel : Nat) (listed : Array Bool) (a : Act) (w : World) : Prop := zOk md ops z = true → Region.noSelect ops = true → Clsd md ops listed → wpAnyL P md ops Q S z fuel listed a w
/-- Take a read. -/
theorem wpL.take (i : Nat) {oi : Oper} {v : Value} {fuel : Nat} {listed : Array Bool} {a : Act} {w : World} (hi : ops[i]? = some oi)
    (hf : Region.free md ops listed i = true) (hr : (Region.ready md ops listed).contains i = true) (hw : Region.wanted oi (yielded ops a.tmps) = true)
    (hQ : ∀ c a w, Q (.panic c) (a.put oi.dst v) w → Q (.panic c) a w) (hS : S w) (hy : ∀ w, S w → (execOp a.eval oi).run P w = .ok (.value v) w)
    (h : wpL P md ops Q S z fuel (listed.setIfInBounds i true) (a.put oi.dst v) w) : wpL P md ops Q S z (fuel + 1) listed a w := fun hA hs hC => by
  have hr' : i ∈ Region.ready md ops listed := by simpa using hr
  exact wpAnyL.first hA hi (Region.noSelect_spec hs) hQ fuel listed a w hC (Region.free_spec hi hf) hr' (.inl ⟨hw, hy⟩) hS (h hA hs (hC.step hr'))
/-- The same, in few words. -/
theorem tJ (i : Nat) {oi : Oper} {v : Value} {fuel : Nat} {listed : Array Bool} {a : Act} {w : World} (hS : S w) (hy : ∀ w, S w → (execOp a.eval oi).run P w = .ok (.value v) w)
    (h : wpL P md ops Q S z fuel (listed.setIfInBounds i true) (a.put oi.dst v) w) (hi : ops[i]? = some oi := by rfl)
    (hf : Region.free md ops listed i = true := by kernel_rfl) (hr : (Region.ready md ops listed).contains i = true := by kernel_rfl) (hw : Region.wanted oi (yielded ops a.tmps) = true := by rfl)
    (hQ : ∀ c a w, Q (.panic c) (a.put oi.dst v) w → Q (.panic c) a w := by exact fun _ _ _ h => h) : wpL P md ops Q S z (fuel + 1) listed a w := wpL.take i hi hf hr hw hQ hS hy h
/-- What the guard passes over. -/
theorem wpL.skip (i : Nat) {oi : Oper} {fuel : Nat} {listed : Array Bool} {a : Act} {w : World} (hi : ops[i]? = some oi)
    (hf : Region.free md ops listed i = true) (hr : (Region.ready md ops listed).contains i = true) (hw : Region.wanted oi (yielded ops a.tmps) = false)
    (hQ : ∀ c a w, Q (.panic c) (a.put oi.dst undef) w → Q (.panic c) a w) (hS : S w)
    (h : wpL P md ops Q S z fuel (listed.setIfInBounds i true) (a.put oi.dst undef) w) : wpL P md ops Q S z (fuel + 1) listed a w := fun hA hs hC => by
  have hr' : i ∈ Region.ready md ops listed := by simpa using hr
  exact wpAnyL.first hA hi (Region.noSelect_spec hs) hQ fuel listed a w hC (Region.free_spec hi hf) hr' (.inr ⟨hw, rfl⟩) hS (h hA hs (hC.step hr'))
/-- Only one may come up: it is carried out; S, once shown, is handed on. -/
theorem wpL.eff (i : Nat) {o : Oper} {fuel : Nat} {listed : Array Bool} {a : Act} {w : World} (ho : ops[i]? = some o) (hr : Region.ready md ops listed = [i]) (hw : Region.wanted o (yielded ops a.tmps) = true)
    (h : ∀ K : Act → World → Prop, (∀ a' w', S w' → (S w' → wpL P md ops Q S z fuel (listed.setIfInBounds i true) a' w') → K a' w') → o.wp P a w K Q) : wpL P md ops Q S z (fuel + 1) listed a w := fun hA hs hC => by
  refine ⟨(fun e => by rw [hr] at e; cases e), fun j hj => ?_⟩
  rw [hr] at hj
  obtain rfl := List.mem_singleton.1 hj
  have hr' : j ∈ Region.ready md ops listed := by rw [hr]; exact List.mem_singleton.2 rfl
  unfold wpOp
  rw [ho]
  simp only [hw, if_true]
  exact .inl (h _ (fun a' w' k1 k2 => ⟨fun _ => k1, k2 k1 hA hs (hC.step hr')⟩))
/-- Either of two may come up. -/
theorem wpL.two (i j : Nat) {o o2 : Oper} {fuel : Nat} {listed : Array Bool} {a : Act} {w : World} (ho : ops[i]? = some o) (ho2 : ops[j]? = some o2) (hr : Region.ready md ops listed = [i, j]) (hw : Region.wanted o (yielded ops a.tmps) = true) (hw2 : Region.wanted o2 (yielded ops a.tmps) = true)
    (h : ∀ K : Act → World → Prop, (∀ a' w', S w' → (S w' → wpL P md ops Q S z fuel (listed.setIfInBounds i true) a' w') → K a' w') → o.wp P a w K Q)
    (h2 : ∀ K : Act → World → Prop, (∀ a' w', S w' → (S w' → wpL P md ops Q S z fuel (listed.setIfInBounds j true) a' w') → K a' w') → o2.wp P a w K Q) : wpL P md ops Q S z (fuel + 1) listed a w := fun hA hs hC => by
  refine ⟨(fun e => by rw [hr] at e; cases e), fun k hk => ?_⟩
  have hk' := hk
  rw [hr] at hk
  unfold wpOp
  rcases List.mem_cons.1 hk with rfl | hk
  · rw [ho]
    simp only [hw, if_true]
    exact .inl (h _ (fun a' w' k1 k2 => ⟨fun _ => k1, k2 k1 hA hs (hC.step hk')⟩))
  · obtain rfl := List.mem_singleton.1 hk
    rw [ho2]
    simp only [hw2, if_true]
    exact .inl (h2 _ (fun a' w' k1 k2 => ⟨fun _ => k1, k2 k1 hA hs (hC.step hk')⟩))
/-- All have come up. -/
theorem wpL.done {fuel : Nat} {listed : Array Bool} {a : Act} {w : World} (hr : Region.ready md ops listed = []) (h : Q .normal a w) : wpL P md ops Q S z fuel listed a w := fun _ _ _ => by
  cases fuel with
  | zero => exact ⟨hr, h⟩
  | succ f => exact ⟨fun _ => h, by rw [hr]; simp⟩
/-- The last one. -/
theorem wpL.last (i : Nat) {o : Oper} {fuel : Nat} {listed : Array Bool} {a : Act} {w : World} (ho : ops[i]? = some o) (hr : Region.ready md ops listed = [i]) (hw : Region.wanted o (yielded ops a.tmps) = true) (hr2 : Region.ready md ops (listed.setIfInBounds i true) = []) (hz : i = z)
    (h : o.wp P a w (Q .normal) Q) : wpL P md ops Q S z (fuel + 1) listed a w := fun _ _ _ => by
  refine ⟨(fun e => by rw [hr] at e; cases e), fun j hj => ?_⟩
  rw [hr] at hj
  obtain rfl := List.mem_singleton.1 hj
  unfold wpOp
  rw [ho]
  simp only [hw, if_true]
  refine .inl (Oper.wp_mono (fun a' w' k => ⟨(fun e => absurd hz e), ?_⟩) h)
  cases fuel with
  | zero => exact ⟨hr2, k⟩
  | succ f => exact ⟨fun _ => k, by rw [hr2]; simp⟩
/-- The beginning. -/
theorem wp_region_L {id : Nat} {a : Act} {w : World} {l : List Oper} (S : World → Prop) (z : Nat) (hm : P.follows .mixedOrders = true) (hA : zOk .any l.toArray z = true) (hs : Region.noSelect l.toArray = true) (h : wpL P .any l.toArray Q S z l.length (Array.replicate l.length false) a w.drew) : (Code.region id l.toArray true).wp P Q a w :=
  wp_region_any hm (wpAnyL.any _ _ _ _ (h hA hs (by simpa using (Clsd.start (md := .any) (ops := l.toArray)))))
/-- append whose run is known. -/
theorem wp_append_run {o : Oper} {a : Act} {w : World} {K : Act → World → Prop} (s x : Operand) (t : TypeId) (hop : o.op = Op.call { callee := Callee.builtin Builtin.append, args := #[s, x], argTypes := #[t, t] })
    (vs vx : Value) (hs : a.eval s = vs) (hx : a.eval x = vx) (v' : Value) (w' : World) (hr : (Builtin.append_ #[t, t] o.type #[vs, vx]).run P w = .ok v' w') (hK : K (a.put o.dst v') w') : o.wp P a w K Q := by
  unfold Oper.wp
  simp [execOp, hop, resolve, invoke, builtin, hs, hx, hr, Result.andThen]
  exact hK
end
end Go.Proofs.YtcipjbckcnkfaaaGreat
