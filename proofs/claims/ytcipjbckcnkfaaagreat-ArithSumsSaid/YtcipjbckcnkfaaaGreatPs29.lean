/- make of integers of 64 bits. No walk. -/
import Derived.Test.YtcipjbckcnkfaaaGreatPs03
import Derived.Test.YtcipjbckcnkfaaaGreatPs06
import Derived.Laws.OwnMore
import Derived.Laws.MakeOwn
set_option linter.unusedSimpArgs false
set_option linter.unusedVariables false
namespace Go.Proofs.YtcipjbckcnkfaaaGreat
open Go.RowKit
theorem info_l64 : (Tryz.prog.info? 2).map (fun i => (i.zero, i.size, i.bytes)) = some (some (.int .i64 0), 1, 8) := by kernel_rfl
/-- So many zeros. -/
def zeroLs (n : Nat) : Array Value := ((List.replicate n (0 : Int)).map fun x => Value.int .i64 x).toArray
theorem zeroLs_eq (n : Nat) : madeCells (Value.int .i64 0).cells n = zeroLs n := by
  unfold zeroLs
  apply Array.ext
  · simp [madeCells]
  · intro i h1 h2
    have e : (Value.int .i64 0).cells = #[Value.int .i64 0] := rfl
    simp [madeCells, e, Nat.mod_one]
theorem makeLs (n : Nat) (h : n ≤ 1000000) (W : World) : (Instr.makeSlice 38 (.int .i64 n) (.int .i64 n)).run Tryz.prog W = .ok (.slice (some ⟨W.heap.size, 0, none⟩) n n) (W.alloc (.cells (zeroLs n) 2)) := by
  obtain ⟨i0, hi, hz0, hz1, hz2⟩ := info_parts info_l64
  have hr := run_makeSlice (P := Tryz.prog) W 38 2 i0 (.int .i64 0) Tryz.underlying38 hi hz0 .i64 .i64 n n (by omega) (Int.le_refl _) (by rw [hz1]; omega) (by rw [hz2]; omega) (by omega)
  rw [hz1, Nat.mul_one, zeroLs_eq, Int.toNat_natCast] at hr
  exact hr
theorem zeroLs_get (n k : Nat) (hk : k < n) : (zeroLs n)[k]? = some (.int .i64 0) := by unfold zeroLs; simp [hk]
theorem rdI_zeros {w : World} {g n : Nat} (h : Blk w g 2 (zeroLs n)) : RdI w (some ⟨g, 0, none⟩) (List.replicate n 0) := fun k hk => ⟨g, 0, rfl, fun j hj => by
  rw [List.length_replicate] at hj
  rw [Blk.cell h (0 + j), Nat.zero_add, zeroLs_get n j hj]
  simp [List.getD_eq_getElem?_getD, hj]⟩
end Go.Proofs.YtcipjbckcnkfaaaGreat
