/- Results that are lists: what Uniform, Ternary and Bounded come to; the zero rows that they make. -/
import Derived.Test.YtkjfpaaiomioaaaSupV
import Derived.Deep.OwnRows
namespace Go.Proofs.Ytkjfpaaiomioaaa
open Go.RowKit Go.Shelf

/-- A row of zeros, as make lays it. -/
def zeroRow (kd : IntKind) (n : Nat) : Array Value := ((List.replicate n (0 : Int)).map (Value.int kd)).toArray
theorem zeroRow_made (kd : IntKind) (n : Nat) : madeCells #[Value.int kd 0] n = zeroRow kd n := by
  apply Array.toList_inj.1
  rw [toList_madeCells_one]
  simp [zeroRow]
theorem zeroRow_is {w : World} {g n : Nat} {e : TypeId} {kd : IntKind} (h : w.heap[g]? = some (.cells (zeroRow kd n) e (0, 0))) : IntRow w g e kd (List.replicate n 0) := h

theorem info_u32 : (Try.prog.info? 39).map (fun i => (i.zero, i.size, i.bytes)) = some (some (.int .u32 0), 1, 4) := by kernel_rfl
theorem info_i64 : (Try.prog.info? 2).map (fun i => (i.zero, i.size, i.bytes)) = some (some (.int .i64 0), 1, 8) := by kernel_rfl
theorem info_int : (Try.prog.info? 3).map (fun i => (i.zero, i.size, i.bytes)) = some (some (.int .i64 0), 1, 8) := by kernel_rfl
theorem info_i8 : (Try.prog.info? 40).map (fun i => (i.zero, i.size, i.bytes)) = some (some (.int .i8 0), 1, 1) := by kernel_rfl

theorem mk_u32 (n : Nat) (hn : n ≤ 100000) (W : World) : (Instr.makeSlice 56 (.int .i64 (n : Int)) (.int .i64 (n : Int))).run Try.prog W = .ok (.slice (some ⟨W.heap.size, 0, none⟩) n n) (W.alloc (.cells (zeroRow .u32 n) 39)) := by
  rw [← zeroRow_made]
  exact run_make_row' 56 39 (.int .u32 0) 4 Try.underlying56 info_u32 rfl .i64 .i64 n (by omega) (by omega) W
theorem mk_i64 (n : Nat) (hn : n ≤ 100000) (W : World) : (Instr.makeSlice 36 (.int .i64 (n : Int)) (.int .i64 (n : Int))).run Try.prog W = .ok (.slice (some ⟨W.heap.size, 0, none⟩) n n) (W.alloc (.cells (zeroRow .i64 n) 2)) := by
  rw [← zeroRow_made]
  exact run_make_row' 36 2 (.int .i64 0) 8 Try.underlying36 info_i64 rfl .i64 .i64 n (by omega) (by omega) W
theorem mk_int (n : Nat) (hn : n ≤ 100000) (W : World) : (Instr.makeSlice 64 (.int .i64 (n : Int)) (.int .i64 (n : Int))).run Try.prog W = .ok (.slice (some ⟨W.heap.size, 0, none⟩) n n) (W.alloc (.cells (zeroRow .i64 n) 3)) := by
  rw [← zeroRow_made]
  exact run_make_row' 64 3 (.int .i64 0) 8 Try.underlying64 info_int rfl .i64 .i64 n (by omega) (by omega) W
theorem mk_i8 (n : Nat) (hn : n ≤ 100000) (W : World) : (Instr.makeSlice 33 (.int .i64 (n : Int)) (.int .i64 (n : Int))).run Try.prog W = .ok (.slice (some ⟨W.heap.size, 0, none⟩) n n) (W.alloc (.cells (zeroRow .i8 n) 40)) := by
  rw [← zeroRow_made]
  exact run_make_row' 33 40 (.int .i8 0) 1 Try.underlying33 info_i8 rfl .i64 .i64 n (by omega) (by omega) W

/-- A list and an error are returned, and so many bits are taken. -/
def ListPost (w : World) (b : Nat) (s : ByteArray) (e : TypeId) (kd : IntKind) (r : List Int × Int × Nat) (en : Ending) (w' : World) : Prop :=
  ∃ v, en = .returned (.tuple #[v, .int .i64 r.2.1]) ∧ w'.ownsRow 0 e 1 v r.1.length (r.1.map (Value.int kd)) ∧ (∀ k, v.ownBlock = some k → w.heap.size ≤ k) ∧ SupAt w' b s r.2.2 ∧ Turn w w' [b]
theorem listPost_nil {w w' : World} {b : Nat} {s : ByteArray} {e : TypeId} {kd : IntKind} {er : Int} {d : Nat} (h : SupAt w' b s d) (ht : Turn w w' [b]) :
    ListPost w b s e kd ([], er, d) (.returned (.tuple #[.slice none 0 0, .int .i64 er])) w' :=
  ⟨_, rfl, World.ownsRow_nil _ _ _ _, fun k hk => by simp [Value.ownBlock] at hk, h, ht⟩
theorem listPost_row {w w' : World} {b g n : Nat} {s : ByteArray} {e : TypeId} {kd : IntKind} {l : List Int} {d : Nat} (hr : IntRow w' g e kd l) (hl : l.length = n) (hn : n ≤ 100000) (hg : w.heap.size ≤ g) (h : SupAt w' b s d) (ht : Turn w w' [b]) :
    ListPost w b s e kd (l, 0, d) (.returned (.tuple #[.slice (some ⟨g, 0, none⟩) n n, .int .i64 0])) w' := by
  subst hl
  exact ⟨_, rfl, hr.owns rfl (by unfold maxLen; omega), fun k hk => by simp [Value.ownBlock] at hk; omega, h, ht⟩

/-- What Uniform comes to. -/
def uniformR (s : ByteArray) (c : Nat) (n : Int) (q : Nat) : List Int × Int × Nat := if n < 0 ∨ 4096 < n ∨ q < 1 then ([], 2, c) else match takeL s q n.toNat c with
  | some (l, d) => (l.map (fun v : Nat => (v : Int)), 0, d)
  | none => ([], 4, c)
/-- What Bounded comes to. -/
def boundedR (s : ByteArray) (c : Nat) (n : Int) (q : Nat) : List Int × Int × Nat := if n < 0 ∨ 4096 < n ∨ 2147483647 < q then ([], 2, c) else match takeL s (2 * q + 1) n.toNat c with
  | some (l, d) => (l.map (fun v : Nat => (v : Int) - (q : Int)), 0, d)
  | none => ([], 4, c)
end Go.Proofs.Ytkjfpaaiomioaaa
