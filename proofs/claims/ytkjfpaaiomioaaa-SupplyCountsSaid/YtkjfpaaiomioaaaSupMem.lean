/- Small laws on the memory of a supply: its block, behind draws, new blocks, stores, writes to other blocks. No walk. -/
import Derived.Test.YtkjfpaaiomioaaaRows
import Derived.Test.YtkjfpaaiomioaaaSupPlain
import Derived.WalkKit
import Derived.Deep.Draws
import Derived.Deep.OwnRows
namespace Go.Proofs.Ytkjfpaaiomioaaa
open Go.RowKit

theorem below_drewN {B : Nat} {a w : World} (h : Below B a w) (n : Nat) : Below B a (w.drewN n) := ⟨h.os, h.tape, h.output, h.size, h.block⟩
theorem only_refl (w : World) (row : Option Nat) : w.grownBy w row := ⟨rfl, rfl, rfl, Nat.le_refl _, fun _ _ _ => rfl⟩
theorem only_drewN {a w : World} {row : Option Nat} (h : a.grownBy w row) (n : Nat) : a.grownBy (w.drewN n) row := ⟨h.os, h.tape, h.output, h.size, h.block⟩
theorem only_drew {a w : World} {row : Option Nat} (h : a.grownBy w row) : a.grownBy w.drew row := ⟨h.os, h.tape, h.output, h.size, h.block⟩
theorem only_alloc {a w : World} {row : Option Nat} (h : a.grownBy w row) (o : Obj) : a.grownBy (w.alloc o) row :=
  ⟨h.os, h.tape, h.output, Nat.le_trans h.size (by simp), fun i hi hne => (Below.heap_alloc w o i (Nat.lt_of_lt_of_le hi h.size)).trans (h.block i hi hne)⟩
theorem only_setCell {a w : World} {row : Option Nat} (h : a.grownBy w row) {p : Addr} (hp : row = some p.block ∨ a.heap.size ≤ p.block) (u : Value) : a.grownBy (w.setCell p u) row :=
  ⟨h.os, h.tape, h.output, by simpa [World.setCell] using h.size, fun i hi hne => (Below.heap_setCell w p u i (by
    rintro rfl
    rcases hp with hp | hp
    · exact hne (by rw [hp])
    · omega)).trans (h.block i hi hne)⟩
theorem only_trans {a b c : World} {row : Option Nat} (h : a.grownBy b row) (k : b.grownBy c row) : a.grownBy c row :=
  ⟨k.os.trans h.os, k.tape.trans h.tape, k.output.trans h.output, Nat.le_trans h.size k.size, fun i hi hne => (k.block i (Nat.lt_of_lt_of_le hi h.size) hne).trans (h.block i hi hne)⟩
/-- What was done behind some new blocks turned one of these, or none that was there. -/
theorem only_new {a b c : World} {row r2 : Option Nat} (h : a.grownBy b row) (k : b.grownBy c r2) (hr : ∀ j, r2 = some j → a.heap.size ≤ j ∨ row = some j) : a.grownBy c row :=
  ⟨k.os.trans h.os, k.tape.trans h.tape, k.output.trans h.output, Nat.le_trans h.size k.size, fun i hi hne => (k.block i (Nat.lt_of_lt_of_le hi h.size) (fun e => by
    rcases hr i e.symm with hh | hh
    · omega
    · exact hne hh.symm)).trans (h.block i hi hne)⟩
theorem only_below {a w : World} (h : Below a.heap.size a w) (row : Option Nat) : a.grownBy w row := ⟨h.os, h.tape, h.output, h.size, fun i hi _ => h.block i hi⟩
theorem below_only {a w : World} (h : a.grownBy w none) : Below a.heap.size a w := ⟨h.os, h.tape, h.output, h.size, fun i hi => h.block i hi (by simp)⟩

/-- Block b is a supply of the program: the bits of s, of which c are taken. -/
def SupAt (w : World) (b : Nat) (s : ByteArray) (c : Nat) : Prop := w.heap[b]? = some (.cells #[.string s, .int .i64 c, .bool true] 53 (0, 0))
/-- Block b is a supply of the reference. -/
def RefAt (w : World) (b : Nat) (s : ByteArray) (c : Nat) : Prop := w.heap[b]? = some (.cells #[.string s, .int .i64 c] 67 (0, 0))

theorem block_lt {w : World} {b : Nat} {o : Obj} (h : w.heap[b]? = some o) : b < w.heap.size := by
  rcases Nat.lt_or_ge b w.heap.size with h1 | h1
  · exact h1
  · rw [Array.getElem?_eq_none h1] at h; cases h

section
variable {w : World} {b : Nat} {s : ByteArray} {c : Nat}
theorem SupAt.lt (h : SupAt w b s c) : b < w.heap.size := block_lt h
theorem SupAt.c0 (h : SupAt w b s c) : w.cell? ⟨b, 0, none⟩ = some (.string s) := by unfold SupAt at h; simp [World.cell?, h]
theorem SupAt.c1 (h : SupAt w b s c) : w.cell? ⟨b, 1, none⟩ = some (.int .i64 c) := by unfold SupAt at h; simp [World.cell?, h]
theorem SupAt.c2 (h : SupAt w b s c) : w.cell? ⟨b, 2, none⟩ = some (.bool true) := by unfold SupAt at h; simp [World.cell?, h]
theorem SupAt.f1 (h : SupAt w b s c) : w.frozen? ⟨b, 1, none⟩ = false := by unfold SupAt at h; simp [World.frozen?, h]
theorem SupAt.drewN (h : SupAt w b s c) (n : Nat) : SupAt (w.drewN n) b s c := h
theorem SupAt.drew (h : SupAt w b s c) : SupAt w.drew b s c := h
theorem SupAt.alloc (h : SupAt w b s c) (o : Obj) : SupAt (w.alloc o) b s c := (Below.heap_alloc w o b h.lt).trans h
theorem SupAt.kept {w' : World} {row : Option Nat} (h : SupAt w b s c) (hg : w.grownBy w' row) (hr : some b ≠ row) : SupAt w' b s c := (hg.block b h.lt hr).trans h
theorem SupAt.other (h : SupAt w b s c) {p : Addr} (hp : b ≠ p.block) (u : Value) : SupAt (w.setCell p u) b s c := (Below.heap_setCell w p u b hp).trans h
theorem SupAt.set (h : SupAt w b s c) (d : Nat) : SupAt (w.setCell ⟨b, 1, none⟩ (.int .i64 d)) b s d := by
  unfold SupAt at *
  simp [World.setCell, Array.getElem?_modify, h]
theorem RefAt.lt (h : RefAt w b s c) : b < w.heap.size := block_lt h
theorem RefAt.c0 (h : RefAt w b s c) : w.cell? ⟨b, 0, none⟩ = some (.string s) := by unfold RefAt at h; simp [World.cell?, h]
theorem RefAt.c1 (h : RefAt w b s c) : w.cell? ⟨b, 1, none⟩ = some (.int .i64 c) := by unfold RefAt at h; simp [World.cell?, h]
theorem RefAt.f1 (h : RefAt w b s c) : w.frozen? ⟨b, 1, none⟩ = false := by unfold RefAt at h; simp [World.frozen?, h]
theorem RefAt.drewN (h : RefAt w b s c) (n : Nat) : RefAt (w.drewN n) b s c := h
theorem RefAt.drew (h : RefAt w b s c) : RefAt w.drew b s c := h
theorem RefAt.alloc (h : RefAt w b s c) (o : Obj) : RefAt (w.alloc o) b s c := (Below.heap_alloc w o b h.lt).trans h
theorem RefAt.kept {w' : World} {row : Option Nat} (h : RefAt w b s c) (hg : w.grownBy w' row) (hr : some b ≠ row) : RefAt w' b s c := (hg.block b h.lt hr).trans h
theorem RefAt.other (h : RefAt w b s c) {p : Addr} (hp : b ≠ p.block) (u : Value) : RefAt (w.setCell p u) b s c := (Below.heap_setCell w p u b hp).trans h
theorem RefAt.set (h : RefAt w b s c) (d : Nat) : RefAt (w.setCell ⟨b, 1, none⟩ (.int .i64 d)) b s d := by
  unfold RefAt at *
  simp [World.setCell, Array.getElem?_modify, h]
end

/-- Of the blocks that were there only those in S have turned. -/
structure Turn (w w' : World) (S : List Nat) : Prop where
  os : w'.os = w.os
  tape : w'.tape = w.tape
  output : w'.output = w.output
  size : w.heap.size ≤ w'.heap.size
  block : ∀ k, k < w.heap.size → k ∉ S → w'.heap[k]? = w.heap[k]?
theorem Turn.refl (w : World) (S : List Nat) : Turn w w S := ⟨rfl, rfl, rfl, Nat.le_refl _, fun _ _ _ => rfl⟩
theorem Turn.drewN {a w : World} {S : List Nat} (h : Turn a w S) (n : Nat) : Turn a (w.drewN n) S := ⟨h.os, h.tape, h.output, h.size, h.block⟩
theorem Turn.drew {a w : World} {S : List Nat} (h : Turn a w S) : Turn a w.drew S := ⟨h.os, h.tape, h.output, h.size, h.block⟩
theorem Turn.trans {a b c : World} {S : List Nat} (h : Turn a b S) (k : Turn b c S) : Turn a c S :=
  ⟨k.os.trans h.os, k.tape.trans h.tape, k.output.trans h.output, Nat.le_trans h.size k.size, fun i hi hne => (k.block i (Nat.lt_of_lt_of_le hi h.size) hne).trans (h.block i hi hne)⟩
/-- What turned behind some new blocks: those of S, or new ones. -/
theorem Turn.new {a b c : World} {S T : List Nat} (h : Turn a b S) (k : Turn b c T) (hr : ∀ j, j ∈ T → a.heap.size ≤ j ∨ j ∈ S) : Turn a c S :=
  ⟨k.os.trans h.os, k.tape.trans h.tape, k.output.trans h.output, Nat.le_trans h.size k.size, fun i hi hne => (k.block i (Nat.lt_of_lt_of_le hi h.size) (fun e => by
    rcases hr i e with hh | hh
    · omega
    · exact hne hh)).trans (h.block i hi hne)⟩
theorem Turn.alloc {a w : World} {S : List Nat} (h : Turn a w S) (o : Obj) : Turn a (w.alloc o) S :=
  ⟨h.os, h.tape, h.output, Nat.le_trans h.size (by simp), fun i hi hne => (Below.heap_alloc w o i (Nat.lt_of_lt_of_le hi h.size)).trans (h.block i hi hne)⟩
theorem Turn.setCell {a w : World} {S : List Nat} (h : Turn a w S) {p : Addr} (hp : p.block ∈ S ∨ a.heap.size ≤ p.block) (u : Value) : Turn a (w.setCell p u) S :=
  ⟨h.os, h.tape, h.output, by simpa [World.setCell] using h.size, fun i hi hne => (Below.heap_setCell w p u i (by
    rintro rfl
    rcases hp with hp | hp
    · exact hne hp
    · omega)).trans (h.block i hi hne)⟩
theorem Turn.of_grown {w w' : World} {b : Nat} {S : List Nat} (h : w.grownBy w' (some b)) (hb : b ∈ S) : Turn w w' S :=
  ⟨h.os, h.tape, h.output, h.size, fun i hi hne => h.block i hi (fun e => hne (by injection e with e; rw [e]; exact hb))⟩
theorem Turn.of_below {w w' : World} {S : List Nat} (h : Below w.heap.size w w') : Turn w w' S := ⟨h.os, h.tape, h.output, h.size, fun i hi _ => h.block i hi⟩
theorem Turn.grown {w w' : World} {b : Nat} (h : Turn w w' [b]) : w.grownBy w' (some b) :=
  ⟨h.os, h.tape, h.output, h.size, fun i hi hne => h.block i hi (by simpa using fun e : i = b => hne (by rw [e]))⟩
theorem Turn.below {w w' : World} (h : Turn w w' []) : Below w.heap.size w w' := ⟨h.os, h.tape, h.output, h.size, fun i hi => h.block i hi (by simp)⟩
theorem Turn.at {w w' : World} {S : List Nat} (h : Turn w w' S) {k : Nat} {o : Obj} (hk : w.heap[k]? = some o) (hn : k ∉ S) : w'.heap[k]? = some o := (h.block k (block_lt hk) hn).trans hk
theorem Turn.cell {w w' : World} {S : List Nat} (h : Turn w w' S) {p : Addr} {v : Value} (hc : w.cell? p = some v) (hn : p.block ∉ S) : w'.cell? p = some v :=
  (World.cell?_of_block (h.block p.block (World.block_lt_of_cell? w p hc) hn)).trans hc
theorem SupAt.turn {w w' : World} {S : List Nat} {b : Nat} {s : ByteArray} {c : Nat} (h : SupAt w b s c) (ht : Turn w w' S) (hn : b ∉ S) : SupAt w' b s c := ht.at h hn
theorem RefAt.turn {w w' : World} {S : List Nat} {b : Nat} {s : ByteArray} {c : Nat} (h : RefAt w b s c) (ht : Turn w w' S) (hn : b ∉ S) : RefAt w' b s c := ht.at h hn
/-- Block g is a row of integers. -/
def IntRow (w : World) (g : Nat) (e : TypeId) (kd : IntKind) (l : List Int) : Prop := w.heap[g]? = some (.cells (l.map (Value.int kd)).toArray e (0, 0))
section
variable {w : World} {g : Nat} {e : TypeId} {kd : IntKind} {l : List Int}
theorem IntRow.lt (h : IntRow w g e kd l) : g < w.heap.size := block_lt h
theorem IntRow.cell (h : IntRow w g e kd l) (k : Nat) (hk : k < l.length) : w.cell? ⟨g, k, none⟩ = some (.int kd (l.getD k 0)) := by
  unfold IntRow at h; simp [World.cell?, h, List.getD_eq_getElem?_getD, hk]
theorem IntRow.free (h : IntRow w g e kd l) (k : Nat) : w.frozen? ⟨g, k, none⟩ = false := by
  unfold IntRow at h; simp [World.frozen?, h]
theorem IntRow.turn {w' : World} {S : List Nat} (h : IntRow w g e kd l) (ht : Turn w w' S) (hn : g ∉ S) : IntRow w' g e kd l := ht.at h hn
theorem IntRow.other (h : IntRow w g e kd l) {p : Addr} (hp : g ≠ p.block) (u : Value) : IntRow (w.setCell p u) g e kd l := (Below.heap_setCell w p u g hp).trans h
theorem IntRow.set (h : IntRow w g e kd l) (k : Nat) (x : Int) : IntRow (w.setCell ⟨g, k, none⟩ (.int kd x)) g e kd (l.set k x) := by
  unfold IntRow at *
  simp [World.setCell, Array.getElem?_modify, h, List.map_set]
theorem IntRow.owns (h : IntRow w g e kd l) {n : Nat} (hn : l.length = n) (hm : n ≤ maxLen) : w.ownsRow 0 e 1 (.slice (some ⟨g, 0, none⟩) n n) n (l.map (Value.int kd)) := by
  subst hn
  exact ⟨by simp, .inr ⟨g, l.length, _, rfl, Nat.zero_le _, h, Nat.le_refl _, hm, by simp, by simp only [Nat.mul_one]; exact List.take_of_length_le (by simp)⟩⟩
end
/-- What an owned row's cells hold. -/
theorem owns_turn {w w' : World} {S : List Nat} {base : Nat} {e : TypeId} {size n : Nat} {v : Value} {xs : List Value} (h : w.ownsRow base e size v n xs) (ht : Turn w w' S) (hn : ∀ k, v.ownBlock = some k → k ∉ S) : w'.ownsRow base e size v n xs := by
  refine ⟨h.1, ?_⟩
  rcases h.2 with h2 | ⟨g, cap, cur, hv, hb, hh, r⟩
  · exact .inl h2
  · exact .inr ⟨g, cap, cur, hv, hb, ht.at hh (hn g (by rw [hv]; rfl)), r⟩
theorem heap_past (w : World) (o : Obj) (k : Nat) (h : k < w.heap.size) : (w.alloc o).heap[k]? = w.heap[k]? := Below.heap_alloc w o k h
theorem heap_other (w : World) (p : Addr) (u : Value) (k : Nat) (h : k ≠ p.block) : (w.setCell p u).heap[k]? = w.heap[k]? := Below.heap_setCell w p u k h
end Go.Proofs.Ytkjfpaaiomioaaa
