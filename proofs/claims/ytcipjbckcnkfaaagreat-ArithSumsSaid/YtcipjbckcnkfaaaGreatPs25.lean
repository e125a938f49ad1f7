/- A region that draws its order: any of several may come up. No walk. -/
import Derived.Test.YtcipjbckcnkfaaaGreatPs23
import Derived.Test.YtcipjbckcnkfaaaGreatPs08
set_option linter.unusedSimpArgs false
set_option linter.unusedVariables false
namespace Go.Proofs.YtcipjbckcnkfaaaGreat
open Go.RowKit
/-- What a call leaves. -/
def CallTo (a b : World) : Prop := Below a.heap.size a b
theorem callTo {a b : World} (h : Below a.heap.size a b) : CallTo a b := h
theorem below_callC {B : Nat} {a w b : World} (h : Below B a w) (hb : CallTo w b) (hB : B ≤ w.heap.size) : Below B a b := h.trans (Below.mono hb hB)
theorem Kp.callC {T : TypeId → Bool} {base : Nat} {a w b : World} (h : Kp T base a w) (hb : CallTo w b) : Kp T base a b := h.call hb
theorem below_call {B : Nat} {a w b : World} (h : Below B a w) (hb : Below w.heap.size w b) (hB : B ≤ w.heap.size) : Below B a b := h.trans (hb.mono hB)
theorem Turn.callC {a w b : World} {S : List Nat} (h : Turn a w S) (hb : CallTo w b) : Turn a b S := h.trans (Turn.of_below hb)
theorem tcell1 {W w1 : World} {x : Nat} (hT : Turn W w1 [x]) : (∀ b o, b < W.heap.size → b ≠ x → w1.cell? ⟨b, o, none⟩ = W.cell? ⟨b, o, none⟩) ∧ (∀ b o, b < W.heap.size → b ≠ x → w1.frozen? ⟨b, o, none⟩ = W.frozen? ⟨b, o, none⟩) :=
  ⟨fun b o h hn => World.cell?_of_block (hT.block b h (by simpa using hn)), fun b o h hn => by simp only [World.frozen?, hT.block b h (by simpa using hn)]⟩
theorem tcell2 {W w1 : World} {x y : Nat} (hT : Turn W w1 [x, y]) : (∀ b o, b < W.heap.size → b ≠ x → b ≠ y → w1.cell? ⟨b, o, none⟩ = W.cell? ⟨b, o, none⟩) ∧ (∀ b o, b < W.heap.size → b ≠ x → b ≠ y → w1.frozen? ⟨b, o, none⟩ = W.frozen? ⟨b, o, none⟩) :=
  ⟨fun b o h hn hm => World.cell?_of_block (hT.block b h (by simp [hn, hm])), fun b o h hn hm => by simp only [World.frozen?, hT.block b h (by simp [hn, hm])]⟩
theorem bcellB {B : Nat} {W w1 : World} (hb : Below B W w1) : (∀ b o, b < B → w1.cell? ⟨b, o, none⟩ = W.cell? ⟨b, o, none⟩) ∧ (∀ b o, b < B → w1.frozen? ⟨b, o, none⟩ = W.frozen? ⟨b, o, none⟩) :=
  ⟨fun b o h => hb.cell (p := ⟨b, o, none⟩) h, fun b o h => hb.frozen (p := ⟨b, o, none⟩) h⟩
section
variable {B base : Nat} {a w b : World} {T : TypeId → Bool} {S : List Nat} {g i : Nat} {t : TypeId} {cs : Array Value}
theorem bC (h : Below B a w) (hb : CallTo w b) (hB : B ≤ w.heap.size) : Below B a b := below_callC h hb hB
theorem kR (T : TypeId → Bool) (base : Nat) (a : World) : Kp T base a a := Kp.refl _ _ _
theorem kD (h : Kp T base a w) : Kp T base a w.drew := h
theorem kA (h : Kp T base a w) (o : Obj) : Kp T base a (w.alloc o) := h.alloc o
theorem kS {x : Nat} (h : Kp T base a w) (hp : x < base ∨ a.heap.size ≤ x) (u : Value) : Kp T base a (w.setCell ⟨x, i, none⟩ u) := h.setCell (hp.elim .inl fun h => .inr (.inl h)) u
theorem kC (h : Kp T base a w) (hb : CallTo w b) : Kp T base a b := h.callC hb
theorem tR (a : World) (S : List Nat) : Turn a a S := Turn.refl _ _
theorem tD (h : Turn a w S) : Turn a w.drew S := h.drew
theorem tA (h : Turn a w S) (o : Obj) : Turn a (w.alloc o) S := h.alloc o
theorem tS {x : Nat} (h : Turn a w S) (hp : x ∈ S) (u : Value) : Turn a (w.setCell ⟨x, i, none⟩ u) S := h.setCell (.inl hp) u
theorem tC (h : Turn a w S) (hb : CallTo w b) : Turn a b S := h.callC hb
end
section
variable {P : Program} {ops : Array Oper} {Q : Exit → Act → World → Prop} {md : Region.Mode} {S : World → Prop} {z : Nat}
/-- Any of those that may come up. -/
theorem wpL.fork (l : List Nat) {fuel : Nat} {listed : Array Bool} {a : Act} {w : World} (hr : Region.ready md ops listed = l) (hne : l ≠ [])
    (h : ∀ i ∈ l, ∃ o, ops[i]? = some o ∧ Region.wanted o (yielded ops a.tmps) = true ∧ ∀ K : Act → World → Prop, (∀ a' w', S w' → (S w' → wpL P md ops Q S z fuel (listed.setIfInBounds i true) a' w') → K a' w') → o.wp P a w K Q) : wpL P md ops Q S z (fuel + 1) listed a w := fun hA hs hC => by
  refine ⟨(fun e => absurd (hr.symm.trans e) hne), fun k hk => ?_⟩
  have hk' := hk
  rw [hr] at hk
  obtain ⟨o, ho, hw, hh⟩ := h k hk
  unfold wpOp
  rw [ho]
  simp only [hw, if_true]
  exact .inl (hh _ (fun a' w' k1 k2 => ⟨fun _ => k1, k2 k1 hA hs (hC.step hk')⟩))
theorem wpL.three (i j k : Nat) {o o2 o3 : Oper} {fuel : Nat} {listed : Array Bool} {a : Act} {w : World} (ho : ops[i]? = some o) (ho2 : ops[j]? = some o2) (ho3 : ops[k]? = some o3) (hr : Region.ready md ops listed = [i, j, k])
    (hw : Region.wanted o (yielded ops a.tmps) = true) (hw2 : Region.wanted o2 (yielded ops a.tmps) = true) (hw3 : Region.wanted o3 (yielded ops a.tmps) = true)
    (h : ∀ K : Act → World → Prop, (∀ a' w', S w' → (S w' → wpL P md ops Q S z fuel (listed.setIfInBounds i true) a' w') → K a' w') → o.wp P a w K Q)
    (h2 : ∀ K : Act → World → Prop, (∀ a' w', S w' → (S w' → wpL P md ops Q S z fuel (listed.setIfInBounds j true) a' w') → K a' w') → o2.wp P a w K Q)
    (h3 : ∀ K : Act → World → Prop, (∀ a' w', S w' → (S w' → wpL P md ops Q S z fuel (listed.setIfInBounds k true) a' w') → K a' w') → o3.wp P a w K Q) : wpL P md ops Q S z (fuel + 1) listed a w :=
  wpL.fork [i, j, k] hr (by simp) (fun m hm => by
    rcases List.mem_cons.1 hm with rfl | hm
    · exact ⟨o, ho, hw, h⟩
    · rcases List.mem_cons.1 hm with rfl | hm
      · exact ⟨o2, ho2, hw2, h2⟩
      · obtain rfl := List.mem_singleton.1 hm
        exact ⟨o3, ho3, hw3, h3⟩)
theorem wpL.four (i j k m : Nat) {o o2 o3 o4 : Oper} {fuel : Nat} {listed : Array Bool} {a : Act} {w : World} (ho : ops[i]? = some o) (ho2 : ops[j]? = some o2) (ho3 : ops[k]? = some o3) (ho4 : ops[m]? = some o4) (hr : Region.ready md ops listed = [i, j, k, m])
    (hw : Region.wanted o (yielded ops a.tmps) = true) (hw2 : Region.wanted o2 (yielded ops a.tmps) = true) (hw3 : Region.wanted o3 (yielded ops a.tmps) = true) (hw4 : Region.wanted o4 (yielded ops a.tmps) = true)
    (h : ∀ K : Act → World → Prop, (∀ a' w', S w' → (S w' → wpL P md ops Q S z fuel (listed.setIfInBounds i true) a' w') → K a' w') → o.wp P a w K Q)
    (h2 : ∀ K : Act → World → Prop, (∀ a' w', S w' → (S w' → wpL P md ops Q S z fuel (listed.setIfInBounds j true) a' w') → K a' w') → o2.wp P a w K Q)
    (h3 : ∀ K : Act → World → Prop, (∀ a' w', S w' → (S w' → wpL P md ops Q S z fuel (listed.setIfInBounds k true) a' w') → K a' w') → o3.wp P a w K Q)
    (h4 : ∀ K : Act → World → Prop, (∀ a' w', S w' → (S w' → wpL P md ops Q S z fuel (listed.setIfInBounds m true) a' w') → K a' w') → o4.wp P a w K Q) : wpL P md ops Q S z (fuel + 1) listed a w :=
  wpL.fork [i, j, k, m] hr (by simp) (fun x hm => by
    rcases List.mem_cons.1 hm with rfl | hm
    · exact ⟨o, ho, hw, h⟩
    · rcases List.mem_cons.1 hm with rfl | hm
      · exact ⟨o2, ho2, hw2, h2⟩
      · rcases List.mem_cons.1 hm with rfl | hm
        · exact ⟨o3, ho3, hw3, h3⟩
        · obtain rfl := List.mem_singleton.1 hm
          exact ⟨o4, ho4, hw4, h4⟩)
end
section
variable {P : Program} {ops : Array Oper} {Q : Exit → Act → World → Prop} {md : Region.Mode} {z : Nat}
/-- Take a read; old cells read as in W. -/
theorem tK {B : Nat} {W : World} (i : Nat) {oi : Oper} {v : Value} {fuel : Nat} {listed : Array Bool} {a : Act} {w : World} (hS : Below B W w)
    (hy : ∀ w, (∀ b o, b < B → w.cell? ⟨b, o, none⟩ = W.cell? ⟨b, o, none⟩) → (execOp a.eval oi).run P w = .ok (.value v) w)
    (h : wpL P md ops Q (fun w' => Below B W w') z fuel (listed.setIfInBounds i true) (a.put oi.dst v) w) (hi : ops[i]? = some oi := by rfl)
    (hf : Region.free md ops listed i = true := by kernel_rfl) (hr : (Region.ready md ops listed).contains i = true := by kernel_rfl) (hw : Region.wanted oi (yielded ops a.tmps) = true := by rfl)
    (hQ : ∀ c a w, Q (.panic c) (a.put oi.dst v) w → Q (.panic c) a w := by exact fun _ _ _ h => h) : wpL P md ops Q (fun w' => Below B W w') z (fuel + 1) listed a w :=
  wpL.take i hi hf hr hw hQ hS (fun w hw => hy w (bcellB hw).1) h
end
end Go.Proofs.YtcipjbckcnkfaaaGreat
