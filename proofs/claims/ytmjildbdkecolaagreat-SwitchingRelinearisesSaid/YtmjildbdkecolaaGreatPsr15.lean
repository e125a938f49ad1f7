/- Rows of the call's own, built by append. No walk.
The reference's default parameters. -/
import Derived.Test.YtmjildbdkecolaaGreatPsr14
import Derived.Maps.AppendAt
set_option linter.unusedSimpArgs false
set_option linter.unusedVariables false
set_option linter.unnecessarySimpa false
namespace Go.Proofs.YtmjildbdkecolaaGreat
open Go.RowKit

theorem Turn.trans' {a b c : World} {S T : List Nat} (h : Turn a b S) (k : Turn b c T) : Turn a c (S ++ T) := (h.mono (fun _ hx => List.mem_append_left _ hx)).trans (k.mono (fun _ hx => List.mem_append_right _ hx))
/-- What lies below is kept. -/
theorem Turn.low {a b c : World} {S : List Nat} {B : Nat} (h : Turn a b S) (k : Below B b c) (hB : a.heap.size ≤ B) : Turn a c S :=
 ⟨k.os.trans h.os, k.tape.trans h.tape, k.output.trans h.output, Nat.le_trans h.size k.size, fun i hi hn => (k.block i (by omega)).trans (h.block i hi hn)⟩
theorem info_su32 : (Tryz.prog.info? 23).map (fun i => (i.zero, i.size, i.bytes)) = some (some (.slice none 0 0), 1, 24) := by kernel_rfl
/-- A block of numbers that may be written. -/
def U32 (w : World) (g : Nat) : Prop := ∃ cs, w.heap[g]? = some (.cells cs 22 (0, 0))
theorem U32.lt {w : World} {g : Nat} (h : U32 w g) : g < w.heap.size := by
 obtain ⟨cs, h⟩ := h
 exact block_lt h
theorem U32.cells {w w' : World} {g : Nat} (h : U32 w g) (hk : ∀ cs : Array Value, w.heap[g]? = some (.cells cs 22 (0, 0)) → w'.heap[g]? = some (.cells cs 22 (0, 0))) : U32 w' g := by
 obtain ⟨cs, h⟩ := h
 exact ⟨cs, hk _ h⟩
theorem U32.below {w w' : World} {g : Nat} (h : U32 w g) (hb : Below w.heap.size w w') : U32 w' g := h.cells (fun _ ho => (hb.block g (block_lt ho)).trans ho)
theorem U32.turn {w w' : World} {g : Nat} {S : List Nat} (h : U32 w g) (hT : Turn w w' S) (hg : g ∉ S) : U32 w' g := h.cells (fun _ ho => hT.at ho hg)
theorem OwU.u32 {w : World} {base : Nat} {v : Value} {l : List Nat} (h : OwU w base v l) {a : Addr} {n c : Nat} (e : v = .slice (some a) n c) : U32 w a.block := by
 rcases h.2 with ⟨rfl, h0⟩ | ⟨g, cap, cur, rfl, hg, hh, _⟩
 ·cases e
 ·cases e
  exact ⟨cur, hh⟩
/-- Rows that the call made by append: header and rows lie apart. -/
def OwR (w : World) (base : Nat) (v : Value) (rows : List (List Nat)) : Prop :=
 ∃ vals : List Value, w.ownsRow base 23 1 v rows.length vals ∧ (∀ g, v.ownBlock = some g → g < w.heap.size) ∧
  ∀ j, j < rows.length → ∃ ro rc, vals[j]? = some (.slice ro (rows.getD j []).length rc) ∧ Rd w ro (rows.getD j []) ∧ (rows.getD j []).length ≤ rc ∧ ∀ a : Addr, ro = some a → v.ownBlock ≠ some a.block ∧ U32 w a.block ∧ base ≤ a.block
theorem OwR.nil (w : World) (base : Nat) : OwR w base (.slice none 0 0) [] := ⟨[], World.ownsRow_nil w _ _ _, fun g h => by simp [Value.ownBlock] at h, fun j hj => by simp at hj⟩
theorem OwR.below {w w' : World} {base : Nat} {v : Value} {rows : List (List Nat)} (h : OwR w base v rows) (hb : Below w.heap.size w w') : OwR w' base v rows := by
 obtain ⟨vals, ho, hg, hr⟩ := h
 refine ⟨vals, ⟨ho.1, ?_⟩, fun g h => Nat.lt_of_lt_of_le (hg g h) hb.size, fun j hj => ?_⟩
 ·rcases ho.2 with h | ⟨g, cap, cur, rfl, h1, h2, h3⟩
  ·exact .inl h
  ·exact .inr ⟨g, cap, cur, rfl, h1, (hb.block g (block_lt h2)).trans h2, h3⟩
 ·obtain ⟨ro, rc, h1, h2, h3, h4⟩ := hr j hj
  exact ⟨ro, rc, h1, h2.below hb, h3, fun a e => ⟨(h4 a e).1, (h4 a e).2.1.below hb, (h4 a e).2.2⟩⟩
/-- A store into an elder block. -/
theorem OwR.turn {w w' : World} {base : Nat} {v : Value} {rows : List (List Nat)} {S : List Nat} (h : OwR w base v rows) (hT : Turn w w' S) (hS : ∀ x, x ∈ S → x < base) : OwR w' base v rows := by
 obtain ⟨vals, ho, hg, hr⟩ := h
 refine ⟨vals, ⟨ho.1, ?_⟩, fun g h => Nat.lt_of_lt_of_le (hg g h) hT.size, fun j hj => ?_⟩
 ·rcases ho.2 with h | ⟨g, cap, cur, rfl, h1, h2, h3⟩
  ·exact .inl h
  ·exact .inr ⟨g, cap, cur, rfl, h1, hT.at h2 (fun k => by have := hS g k; omega), h3⟩
 ·obtain ⟨ro, rc, h1, h2, h3, h4⟩ := hr j hj
  refine ⟨ro, rc, h1, fun k hk => ?_, h3, fun a e => ⟨(h4 a e).1, (h4 a e).2.1.turn hT (fun k => by have := hS _ k; have := (h4 a e).2.2; omega), (h4 a e).2.2⟩⟩
  obtain ⟨b, off, e, hc⟩ := h2 k hk
  exact ⟨b, off, e, fun t ht => hT.cell (hc t ht) (fun k => by have := hS b k; have := (h4 _ e).2.2; simp at this; omega)⟩
theorem OwR.shape {w : World} {base : Nat} {v : Value} {rows : List (List Nat)} (h : OwR w base v rows) : ∃ ao c, v = .slice ao rows.length c ∧ RdR w ao rows ∧ rows.length ≤ c ∧ c ≤ 9223372036854775807 := by
 obtain ⟨vals, ho, _, hr⟩ := h
 rcases ho.2 with ⟨rfl, h0⟩ | ⟨g, cap, cur, rfl, h1, h2, hnc, hml, hcs, htk⟩
 ·have : rows = [] := List.eq_nil_of_length_eq_zero h0
  subst this
  exact ⟨none, 0, rfl, RdR.nil _ _, by simp, by simp⟩
 ·refine ⟨_, cap, rfl, fun k hk => ⟨g, 0, rfl, fun j hj => ?_⟩, hnc, by unfold maxLen at hml; omega⟩
  obtain ⟨ro, rc, k1, k2, k3, _⟩ := hr j hj
  refine ⟨ro, rc, ?_, k2, k3⟩
  rw [cell_of_row w g (0 + j) cur _ _ h2, Nat.zero_add, ← Array.getElem?_toList]
  have e := congrArg (·[j]?) htk
  rw [Nat.mul_one, List.getElem?_take, if_pos hj] at e
  rw [e]
  exact k1
/-- Blocks of some types from base on are kept. -/
def Kp (T : TypeId → Bool) (base : Nat) (a b : World) : Prop := a.heap.size ≤ b.heap.size ∧ ∀ (k : Nat) (cs : Array Value) (t : TypeId), base ≤ k → T t = true → a.heap[k]? = some (.cells cs t (0, 0)) → b.heap[k]? = some (.cells cs t (0, 0))
section
variable {T : TypeId → Bool} {base : Nat} {a b c w : World}
theorem Kp.refl (T : TypeId → Bool) (base : Nat) (a : World) : Kp T base a a := ⟨Nat.le_refl _, fun _ _ _ _ _ h => h⟩
theorem Kp.trans (h : Kp T base a b) (k : Kp T base b c) : Kp T base a c := ⟨Nat.le_trans h.1 k.1, fun x cs t hx ht e => k.2 x cs t hx ht (h.2 x cs t hx ht e)⟩
theorem Kp.mono {base' : Nat} (h : Kp T base' a b) (hb : base' ≤ base) : Kp T base a b := ⟨h.1, fun x cs t hx ht e => h.2 x cs t (Nat.le_trans hb hx) ht e⟩
theorem Kp.less {T' : TypeId → Bool} (h : Kp T base a b) (hT : ∀ t, T' t = true → T t = true) : Kp T' base a b := ⟨h.1, fun x cs t hx ht e => h.2 x cs t hx (hT t ht) e⟩
theorem Kp.call (h : Kp T base a w) (hb : Below w.heap.size w b) : Kp T base a b := ⟨Nat.le_trans h.1 hb.size, fun x cs t hx ht e => by have e2 := h.2 x cs t hx ht e; exact (hb.block x (block_lt e2)).trans e2⟩
theorem Kp.drew (h : Kp T base a w) : Kp T base a w.drew := h
theorem Kp.drewN (h : Kp T base a w) (n : Nat) : Kp T base a (w.drewN n) := h
theorem Kp.alloc (h : Kp T base a w) (o : Obj) : Kp T base a (w.alloc o) := h.call ((Below.refl _ w).alloc (Nat.le_refl _) o)
theorem Kp.turn {S : List Nat} (h : Kp T base a w) (hT : Turn w b S) (hS : ∀ x, x ∈ S → x < base ∨ a.heap.size ≤ x ∨ ∃ cs t z, w.heap[x]? = some (.cells cs t z) ∧ T t = false) : Kp T base a b := ⟨Nat.le_trans h.1 hT.size, fun x cs t hx ht e => by
 have e2 := h.2 x cs t hx ht e
 refine hT.at e2 (fun hk => ?_)
 rcases hS x hk with q | q | ⟨cs', t', z, q, r⟩
 ·omega
 ·have := block_lt e; omega
 ·rw [e2] at q; cases q; rw [ht] at r; cases r⟩
theorem Kp.setCell (h : Kp T base a w) {p : Addr} (hp : p.block < base ∨ a.heap.size ≤ p.block ∨ ∃ cs t z, w.heap[p.block]? = some (.cells cs t z) ∧ T t = false) (u : Value) : Kp T base a (w.setCell p u) :=
 h.turn (S := [p.block]) ((Turn.refl w _).setCell (.inl (by simp)) u) (fun x hx => by rw [List.mem_singleton] at hx; subst hx; exact hp)
theorem Kp.of_turn {S : List Nat} (hT : Turn w b S) (hS : ∀ x, x ∈ S → x < base) : Kp T base w b := (Kp.refl T base w).turn hT (fun x hx => .inl (hS x hx))
end
/-- The types of rows. -/
def rowT (t : TypeId) : Bool := decide (t = 23) || decide (t = 22)
/-- Stores into elder blocks, or into blocks of another type. -/
theorem OwR.kp {w w' : World} {base : Nat} {v : Value} {rows : List (List Nat)} (h : OwR w base v rows) (hK : Kp rowT base w w') : OwR w' base v rows := by
 obtain ⟨vals, ho, hg, hr⟩ := h
 refine ⟨vals, ⟨ho.1, ?_⟩, fun g h => Nat.lt_of_lt_of_le (hg g h) hK.1, fun j hj => ?_⟩
 ·rcases ho.2 with h | ⟨g, cap, cur, rfl, h1, h2, h3⟩
  ·exact .inl h
  ·exact .inr ⟨g, cap, cur, rfl, h1, hK.2 _ _ _ h1 (by decide) h2, h3⟩
 ·obtain ⟨ro, rc, h1, h2, h3, h4⟩ := hr j hj
  refine ⟨ro, rc, h1, fun k hk => ?_, h3, fun a e => ⟨(h4 a e).1, ?_, (h4 a e).2.2⟩⟩
  ·obtain ⟨b, off, e, hc⟩ := h2 k hk
   obtain ⟨_, ⟨cs, hu⟩, hb⟩ := h4 _ e
   refine ⟨b, off, e, fun t ht => ?_⟩
   have e1 : w'.heap[b]? = w.heap[b]? := (hK.2 _ _ _ hb (by decide) hu).trans hu.symm
   exact (World.cell?_of_block (a := ⟨b, off + t, none⟩) e1).trans (hc t ht)
  ·obtain ⟨_, ⟨cs, hu⟩, hb⟩ := h4 _ e
   exact ⟨cs, hK.2 _ _ _ hb (by decide) hu⟩
theorem OwR.mono {w : World} {base base' : Nat} {v : Value} {rows : List (List Nat)} (h : OwR w base v rows) (hb : base' ≤ base) : OwR w base' v rows := by
 obtain ⟨vals, ho, hg, hr⟩ := h
 refine ⟨vals, ⟨ho.1, ?_⟩, hg, fun j hj => ?_⟩
 ·rcases ho.2 with h | ⟨g, cap, cur, rfl, h1, h2, h3⟩
  ·exact .inl h
  ·exact .inr ⟨g, cap, cur, rfl, Nat.le_trans hb h1, h2, h3⟩
 ·obtain ⟨ro, rc, h1, h2, h3, h4⟩ := hr j hj
  exact ⟨ro, rc, h1, h2, h3, fun a e => ⟨(h4 a e).1, (h4 a e).2.1, Nat.le_trans hb (h4 a e).2.2⟩⟩
/-- Rows of the call's own, beyond base: what turns below, or blocks of other types, leaves them. -/
def RdRN (w : World) (base : Nat) (ao : Option Addr) (rows : List (List Nat)) : Prop := ∃ c, OwR w base (.slice ao rows.length c) rows
theorem RdRN.rd {w : World} {base : Nat} {ao : Option Addr} {rows : List (List Nat)} (h : RdRN w base ao rows) : RdR w ao rows := by
 obtain ⟨c, h⟩ := h
 obtain ⟨ao', c', e, hr, _⟩ := h.shape
 simp only [Value.slice.injEq] at e
 rw [e.1]
 exact hr
theorem RdRN.kp {w w2 : World} {base : Nat} {ao : Option Addr} {rows : List (List Nat)} (h : RdRN w base ao rows) (hK : Kp rowT base w w2) : RdRN w2 base ao rows := by
 obtain ⟨c, h⟩ := h
 exact ⟨c, h.kp hK⟩
theorem RdRN.below {w w2 : World} {base : Nat} {ao : Option Addr} {rows : List (List Nat)} (h : RdRN w base ao rows) (hb : Below w.heap.size w w2) : RdRN w2 base ao rows := h.kp ((Kp.refl _ _ _).call hb)
theorem RdRN.turn {w w2 : World} {base : Nat} {ao : Option Addr} {rows : List (List Nat)} {S : List Nat} (h : RdRN w base ao rows) (hT : Turn w w2 S) (hS : ∀ x, x ∈ S → x < base) : RdRN w2 base ao rows := h.kp (Kp.of_turn hT hS)
theorem RdRN.mono {w : World} {base base' : Nat} {ao : Option Addr} {rows : List (List Nat)} (h : RdRN w base ao rows) (hb : base' ≤ base) : RdRN w base' ao rows := by
 obtain ⟨c, h⟩ := h
 exact ⟨c, h.mono hb⟩
/-- One row more. -/
theorem OwR.append {w : World} {base : Nat} {v : Value} {rows : List (List Nat)} (h : OwR w base v rows) (hb : base ≤ w.heap.size) (hlen : rows.length ≤ 1000) (ty : TypeId) (ad : Addr) (c : Nat) (ro : Option Addr) (rc : Nat) (row : List Nat)
  (hx : w.cell? ad = some (.slice ro row.length rc)) (hrd : Rd w ro row) (hrc : row.length ≤ rc) (hro : ∀ a : Addr, ro = some a → v.ownBlock ≠ some a.block ∧ U32 w a.block ∧ base ≤ a.block) :
  ∃ v' w', (Builtin.append_ #[33, 33] ty #[v, .slice (some ad) 1 c]).run Tryz.prog w = .ok v' w' ∧ OwR w' base v' (rows ++ [row]) ∧ Below base w w' ∧ Turn w w' (match v.ownBlock with | some g => [g] | none => []) := by
 obtain ⟨vals, ho, hg, hr⟩ := h
 obtain ⟨i0, hi, hz0, hz1, hz2⟩ := info_parts info_su32
 have hnews : ∀ j u, ([.slice ro row.length rc] : List Value)[j]? = some u → w.cell? (ad.add j) = some u := by
  intro j u hj
  match j, hj with
  | 0, hj =>
   simp at hj
   subst hj
   have : ad.add 0 = ad := by unfold Addr.add; split <;> simp_all
   rw [this]
   exact hx
 obtain ⟨v', w', hrun, ho', hgr, _, hat⟩ := run_append_own_at (P := Tryz.prog) w base 33 ty 23 i0 (.slice none 0 0) 1 24 Tryz.underlying33 hi hz0 hz1 hz2 rfl (by decide) v rows.length vals ho ad 1 c [.slice ro row.length rc] rfl hnews
  (by simp [Value.oneCell']) (by unfold maxLen; omega) (by omega) hb
 have hT : Turn w w' (match v.ownBlock with | some g => [g] | none => []) := Turn.of_grown hgr (fun k hk => .inl (by rw [hk]; simp))
 have hown : ∀ g, v'.ownBlock = some g → v.ownBlock = some g ∨ w.heap.size ≤ g := fun g hg' => by
  rcases hat with k | k
  ·exact .inl (by rw [← k]; exact hg')
  ·rw [k] at hg'; cases hg'; exact .inr (Nat.le_refl _)
 have hlt : ∀ g, v'.ownBlock = some g → g < w'.heap.size := fun g hg' => by
  rcases ho'.2 with ⟨rfl, h0⟩ | ⟨g', cap, cur, rfl, _, hh, _⟩
  ·simp [Value.ownBlock] at hg'
  ·simp [Value.ownBlock] at hg'; subst hg'; exact block_lt hh
 have keep : ∀ {r : List Nat} {so : Option Addr}, Rd w so r → (∀ a : Addr, so = some a → v.ownBlock ≠ some a.block ∧ U32 w a.block ∧ base ≤ a.block) → Rd w' so r := by
  intro r so hr1 hs k hk
  obtain ⟨b, off, e, hc⟩ := hr1 k hk
  refine ⟨b, off, e, fun j hj => hT.cell (hc j hj) ?_⟩
  have := (hs _ e).1
  cases hv : v.ownBlock with
  | none => simp
  | some g => rw [hv] at this; simp at this ⊢; exact fun e => this e.symm
 have nb : ∀ {so : Option Addr}, (∀ a : Addr, so = some a → v.ownBlock ≠ some a.block ∧ U32 w a.block ∧ base ≤ a.block) → ∀ a : Addr, so = some a → v'.ownBlock ≠ some a.block ∧ U32 w' a.block ∧ base ≤ a.block := by
  intro so hs a e
  obtain ⟨k1, k2, k3⟩ := hs a e
  refine ⟨fun hk => ?_, k2.turn hT ?_, k3⟩
  ·rcases hown _ hk with k | k
   ·exact k1 k
   ·have := k2.lt; omega
  ·cases hv : v.ownBlock with
   | none => simp
   | some g => rw [hv] at k1; simp at k1 ⊢; exact fun e => k1 e.symm
 refine ⟨v', w', hrun, ⟨vals ++ [.slice ro row.length rc], by rw [List.length_append]; exact ho', hlt, ?_⟩, ?_, hT⟩
 ·intro j hj
  have hvl : vals.length = rows.length := by have := ho.1; omega
  rcases Nat.lt_or_ge j rows.length with hjl | hjl
  ·obtain ⟨so, sc, k1, k2, k3, k4⟩ := hr j hjl
   have e : (rows ++ [row]).getD j [] = rows.getD j [] := by rw [List.getD_eq_getElem?_getD, List.getElem?_append_left hjl, ← List.getD_eq_getElem?_getD]
   rw [e]
   exact ⟨so, sc, by rw [List.getElem?_append_left (by omega)]; exact k1, keep k2 k4, k3, nb k4⟩
  ·have ej : j = rows.length := by simp at hj; omega
   subst ej
   have e : (rows ++ [row]).getD rows.length [] = row := by simp [List.getD_eq_getElem?_getD]
   rw [e]
   exact ⟨ro, rc, by rw [← hvl]; simp, keep hrd hro, hrc, nb hro⟩
 ·refine hT.belowN hb ?_
  intro k hk
  rcases ho.2 with ⟨rfl, _⟩ | ⟨g, cap, cur, rfl, hg1, _⟩
  ·simp [Value.ownBlock] at hk
  ·simp [Value.ownBlock] at hk; omega
open Go.RowKit

set_option maxHeartbeats 6400000 in
set_option maxRecDepth 100000 in
theorem r12default_own (n prime lv t q0 : Nat) (power : Int) (qs : List Nat) (w : World) (hn : n = 4 ∨ n = 8 ∨ n = 16 ∨ n = 32) (hp : prime ≤ 4294967295) (hw1 : -9223372036854775808 ≤ power) (hw2 : power ≤ 9223372036854775807) (hl1 : 1 ≤ lv) (hl2 : lv ≤ 24)
    (hT : plainV n prime power = t) (ht : 3 ≤ t) (ht2 : t ≤ 2147483647) (hto : t % 2 = 1) (hst : 2 * n * t ≤ 2147483647) (hch : chainOf n t (lv + 1) = q0 :: qs) (hqs : qs.length = lv) :
    Calls Tryz.prog 63 #[.int .i64 n, .int .u32 prime, .int .i64 power, .int .i64 lv] w fun e w' => ∃ ca cc, e = .returned (.tuple #[.agg (Par.cells ⟨n, prime, power, qs, q0, 4, 2⟩ ca cc), .int .i64 0]) ∧ ParIn w' ⟨n, prime, power, qs, q0, 4, 2⟩ ca cc ∧ (∀ W S, Turn w' W S → (∀ x, x ∈ S → x < w.heap.size) → ParIn W ⟨n, prime, power, qs, q0, 4, 2⟩ ca cc) ∧ Below w.heap.size w w' := by
  have HD := Lib.hid (fun w => r12dim_walk (n : Int) w)
  rw [tr_pos (show IsDim (n : Int) by rcases hn with h | h | h | h <;> subst h <;> simp [IsDim])] at HD
  have HP := Lib.hid (fun w => r12plain_walk n prime power w hn hp hw1 hw2)
  rw [hT] at HP
  have hC : ∀ w, Calls Tryz.prog 129 #[.int .i64 n, .int .u32 t, .int .i64 ((lv : Int) + 1)] w fun e w' => ChainEnd w.heap.size (chainOf n t (lv + 1)) (lv + 1) e w' ∧ Below w.heap.size w w' := fun w => r03chain_walk n t (lv + 1) w hn ht ht2 hto (by omega) (by omega)
  have HC := Lib.hid hC
  clear hC
  have hn4 : 4 ≤ n := by omega
  have hn32 : n ≤ 32 := by omega
  have hle : ∀ i, i < (q0 :: qs).length → (q0 :: qs).getD i 0 ≤ 2147483647 := by
    rw [← hch]
    exact chainL_le (Nat.mul_pos (by omega) (by omega)) _ [] (Nat.div_mul_le_self _ _) (fun i hi => by simp at hi)
  have hq0 : q0 ≤ 2147483647 := hle 0 (by simp)
  have HQ : Hid (∀ i, i < qs.length → qs.getD i 0 ≤ 4294967295) := Lib.hid (fun i hi => by have := hle (i + 1) (by simpa using hi); simp at this ⊢; omega)
  rw [hch] at HC
  have HQL := Lib.hid hqs
  obtain ⟨z, hz⟩ : ∃ z, 2 * n * t = z := ⟨_, rfl⟩
  have hzi : (2 * (n : Int)) * (t : Int) = (z : Int) := by rw [← hz]; simp
  rw [hz] at hst
  unfold Par.cells
  simp only
  rw [hqs]
  clear hn hT hch hle hqs hz
  go_enter Tryz.func63, Tryz.ntmps63
  go_wp2_with fail
  (with_reducible refine Calls.mono (HD.out _) ?_)
  rintro e w1 ⟨rfl, rfl⟩
  go_wp2_with fail
  (with_reducible refine Calls.mono (HP.out _) ?_)
  rintro e w2 ⟨rfl, rfl⟩
  go_wp2_with fail
  (with_reducible refine Calls.mono (HC.out _) ?_)
  rintro e w3 ⟨hend, hb⟩
  have HB3 : Hid (Below w.heap.size w w3) := Lib.hid (((Below.refl _ w).alloc (Nat.le_refl _) _).trans (hb.mono (by simp)))
  rcases hend with ⟨hlt, _⟩ | ⟨ao, cap, _, rfl, hrd, hca, hcm, hab⟩
  · rw [List.length_cons, HQL.out] at hlt; omega
  obtain ⟨b, off, rfl, hcc⟩ := hrd 0 (by simp)
  have hlen : (q0 :: qs).length = lv + 1 := by rw [List.length_cons, HQL.out]
  have c0 : w3.cell? ⟨b, off, none⟩ = some (.int .u32 (q0 : Int)) := hcc 0 (by simp)
  have HR : Hid (Rd w3 (some ⟨b, off + 1, none⟩) qs) := Lib.hid (fun k hk => ⟨b, off + 1, rfl, fun j hj => by
    have := hcc (j + 1) (by simpa using hj)
    rw [show off + 1 + j = off + (j + 1) by omega, this]
    simp⟩)
  rw [hlen] at hca
  have hbx : w.heap.size < w3.heap.size := by have := hb.size; simp at this; omega
  have hbk : Blk w3 w.heap.size 25 #[.int .i64 0, .int .u32 0, .int .i64 0, .slice none 0 0, .int .u32 0, .int .i64 0, .int .u32 0] := (Blk.new w _ _).below hb
  have hcl : w.heap.size < b := by have := hab _ rfl; simp at this; omega
  have HCL := Lib.hid hcl
  have hcm0 : cap ≤ 9223372036854775807 := by unfold maxLen at hcm; omega
  have HFI : Hid (∀ W4 S, Turn w3 W4 S → (∀ x, x ∈ S → x ≤ w.heap.size) → ParIn W4 ⟨n, prime, power, qs, q0, 4, 2⟩ (some ⟨b, off + 1, none⟩) (cap - 1)) := Lib.hid (fun W4 S hT hS =>
     { rd := fun k hk => ⟨b, off + 1, rfl, fun j hj => hT.cell (by
         have := hcc (j + 1) (by simpa using hj)
         rw [show off + 1 + j = off + (j + 1) by omega, this]
         simp) (fun hx => by have := hS _ hx; simp only at this; omega)⟩
       n1 := by simp only; omega
       n2 := by simp only; omega
       prime := hp
       power1 := hw1
       power2 := hw2
       len := by simp only [HQL.out]; omega
       room := by simp only [HQL.out]; omega
       room2 := by omega
       chain := HQ.out
       special := by simp only; omega
       weight1 := by simp only; omega
       weight2 := by simp only; omega
       err := by simp only; omega })
  have HF : Hid (∀ W4, Turn w3 W4 [w.heap.size] → ParIn W4 ⟨n, prime, power, qs, q0, 4, 2⟩ (some ⟨b, off + 1, none⟩) (cap - 1) ∧ (∀ W S, Turn W4 W S → (∀ x, x ∈ S → x < w.heap.size) → ParIn W ⟨n, prime, power, qs, q0, 4, 2⟩ (some ⟨b, off + 1, none⟩) (cap - 1)) ∧ Below w.heap.size w W4) := Lib.hid (fun W4 hT =>
    ⟨HFI.out W4 _ hT (by simp), fun W S hT2 hS => HFI.out W _ (hT.trans' hT2) (fun x hx => by
      rcases List.mem_append.1 hx with h | h
      · simp at h; omega
      · have := hS x h; omega), HB3.out.trans (hT.belowN (by omega) (by simp))⟩)
  have hlen2 : (q0 :: qs).length = lv + 1 := hlen
  rw [hlen]
  have hcap1 : (1 : Int) ≤ (cap : Int) := by omega
  have hcap2 : ¬ cap = 1 := by omega
  have hcap3 : (1 : Int) ≤ ((lv : Int) + 1) := by omega
  unfold maxLen at hcm
  have k0 := hbk.cell 0
  have k1 := hbk.cell 1
  have k2 := hbk.cell 2
  have k3 := hbk.cell 3
  have k4 := hbk.cell 4
  have k5 := hbk.cell 5
  have k6 := hbk.cell 6
  have f0 := hbk.free 0
  have f1 := hbk.free 1
  have f2 := hbk.free 2
  have f3 := hbk.free 3
  have f4 := hbk.free 4
  have f5 := hbk.free 5
  have f6 := hbk.free 6
  clear hb hrd hcc hlen HD HP HC hab
  go_wp2
  go_region
  all_goals go_wp2
  all_goals
    refine bodyPost_ret (v := .tuple #[.agg #[.int .i64 n, .int .u32 prime, .int .i64 power, .slice (some ⟨b, off + 1, none⟩) lv (cap - 1), .int .u32 q0, .int .i64 4, .int .u32 2], .int .i64 0]) (by simp [results, Tryz.results63, go_sem, k0, k1, k2, k3, k4, k5, k6]) rfl ⟨_, _, rfl, HF.out _ ?_⟩
    have T0 := (((((((Turn.refl w3 [w.heap.size]).setCell (p := ⟨w.heap.size, 0, none⟩) (.inl (by simp)) (.int .i64 n)).setCell (p := ⟨w.heap.size, 1, none⟩) (.inl (by simp)) (.int .u32 prime)).setCell (p := ⟨w.heap.size, 2, none⟩) (.inl (by simp)) (.int .i64 power)).setCell (p := ⟨w.heap.size, 3, none⟩) (.inl (by simp)) (.slice (some ⟨b, off + 1, none⟩) lv (cap - 1))).setCell
      (p := ⟨w.heap.size, 4, none⟩) (.inl (by simp)) (.int .u32 q0)).setCell (p := ⟨w.heap.size, 5, none⟩) (.inl (by simp)) (.int .i64 4)).setCell (p := ⟨w.heap.size, 6, none⟩) (.inl (by simp)) (.int .u32 2)
    first | exact T0.drew | exact T0
end Go.Proofs.YtmjildbdkecolaaGreat
