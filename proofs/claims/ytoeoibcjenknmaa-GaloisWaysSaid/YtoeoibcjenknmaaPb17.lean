/- The map of paths: what lookups and updates do. -/
import Derived.Test.YtoeoibcjenknmaaPb06
import Derived.Maps.OwnSet
import Derived.Maps.Views
import Derived.Carry
namespace Go.Proofs.Ytoeoibcjenknmaa
open Go.RowKit Go.Shelf
open Go.Maps (Keyed)

/-- An element is held as it is. -/
def rdV (v : Value) : Option (DataW Value × List MemPlace) := some (.held v, [])
/-- Block b is a map from int; f: what it holds. -/
def Mp (w : World) (b n : Nat) (f : Int → Option Value) : Prop :=
  ∃ D : DataW Value, w.ownsMap Try.prog 3 rdV b n D ∧ ∀ k z, (Lit.int .i64 k).wf = true → D.atKey (.int .i64 k) z = (match f k with | some v => .held v | none => z)
theorem keyedInt : Keyed Try.prog 3 := Maps.int_keyed Try.underlying3
theorem zeroSint (w : World) : (zeroValue 26).run Try.prog w = .ok (.slice none 0 0) w := by kernel_rfl
theorem wf_int {k : Int} (h1 : -9223372036854775808 ≤ k) (h2 : k ≤ 9223372036854775807) : (Lit.int .i64 k).wf = true := by
  simp [Lit.wf, IntKind.min, IntKind.max, IntKind.signed, IntKind.bits]
  omega
section
variable {w w' : World} {b n : Nat} {f : Int → Option Value} {S : List Nat}
theorem Mp.made (w : World) : Mp (w.alloc (.map #[] 0)) w.heap.size 0 (fun _ => none) := ⟨_, World.ownsMap_made w _ _ _, fun _ _ _ => rfl⟩
theorem Mp.lt (h : Mp w b n f) : b < w.heap.size := by obtain ⟨D, h, _⟩ := h; exact h.lt
theorem Mp.turn (h : Mp w b n f) (hT : Turn w w' S) (hb : b ∉ S) : Mp w' b n f := by
  obtain ⟨D, h, hf⟩ := h
  have hlt := h.lt
  obtain ⟨es, clock, hh, F, hs, hD⟩ := h
  exact ⟨D, ⟨es, clock, (hT.block b hlt hb).trans hh, F, hs, hD⟩, hf⟩
theorem Mp.mono (h : Mp w b n f) {m : Nat} (hm : n ≤ m) : Mp w b m f := by obtain ⟨D, h, hf⟩ := h; exact ⟨D, h.mono hm, hf⟩
theorem Mp.look_none (h : Mp w b n f) {k : Int} (h1 : -9223372036854775808 ≤ k) (h2 : k ≤ 9223372036854775807) (hk : f k = none) :
    ∃ v, (Instr.lookup 38 (.map (some b)) (.int .i64 k) true).run Try.prog w = .ok (.tuple #[v, .bool false]) w := by
  obtain ⟨D, h, hf⟩ := h
  have e : ∀ z, D.atKey (.int .i64 k) z = z := fun z => by rw [hf k z (wf_int h1 h2), hk]
  obtain ⟨v, ps, hr, _⟩ := h.look_ok keyedInt Try.underlying38 (zeroSint w) (zd := .held (.slice none 0 0)) (zp := []) rfl (Maps.keyOf_int_mk Try.underlying3 (wf_int h1 h2))
  rw [Maps.has_false_of_atKey e] at hr
  exact ⟨v, hr⟩
theorem Mp.look_some (h : Mp w b n f) {k : Int} (h1 : -9223372036854775808 ≤ k) (h2 : k ≤ 9223372036854775807) {v : Value} (hk : f k = some v) :
    (Instr.lookup 38 (.map (some b)) (.int .i64 k) true).run Try.prog w = .ok (.tuple #[v, .bool true]) w ∧ (Instr.lookup 38 (.map (some b)) (.int .i64 k) false).run Try.prog w = .ok v w := by
  obtain ⟨D, h, hf⟩ := h
  have e : ∀ z, D.atKey (.int .i64 k) z = .held v := fun z => by rw [hf k z (wf_int h1 h2), hk]
  obtain ⟨u, ps, hr, hu⟩ := h.look_ok keyedInt Try.underlying38 (zeroSint w) (zd := .held (.slice none 0 0)) (zp := []) rfl (Maps.keyOf_int_mk Try.underlying3 (wf_int h1 h2))
  obtain ⟨u2, ps2, hr2, hu2⟩ := h.lookup keyedInt Try.underlying38 (zeroSint w) (zd := .held (.slice none 0 0)) (zp := []) rfl (Maps.keyOf_int_mk Try.underlying3 (wf_int h1 h2))
  rw [e] at hu hu2
  simp only [rdV, Option.some.injEq, Prod.mk.injEq, DataW.held.injEq] at hu hu2
  rw [Maps.has_true_of_atKey e, hu.1] at hr
  rw [hu2.1] at hr2
  exact ⟨hr, hr2⟩
/-- The map with one more key. -/
def fput (f : Int → Option Value) (k : Int) (v : Value) : Int → Option Value := fun j => if j = k then some v else f j
theorem fput_same (f : Int → Option Value) (k : Int) (v : Value) : fput f k v k = some v := by simp [fput]
theorem fput_other (f : Int → Option Value) {k j : Int} (v : Value) (h : j ≠ k) : fput f k v j = f j := by simp [fput, h]
theorem Mp.update (h : Mp w b n f) {k : Int} (h1 : -9223372036854775808 ≤ k) (h2 : k ≤ 9223372036854775807) (v : Value) (hn : n ≤ 1000000) :
    ∃ w', (Instr.mapUpdate 38 (.map (some b)) (.int .i64 k) v).run Try.prog w = .ok () w' ∧ Mp w' b (n + 1) (fput f k v) ∧ Turn w w' [b] := by
  obtain ⟨D, h, hf⟩ := h
  have hm := h.isMap
  obtain ⟨w', hr, ho, hg⟩ := h.update keyedInt Try.underlying38 (by unfold maxLen; omega) (Maps.keyOf_int_mk Try.underlying3 (wf_int h1 h2)) (val := v) (d := .held v) (ps := []) rfl
  refine ⟨w', hr, ⟨_, ho, ?_⟩, Turn.of_grown hg (fun j hj => .inl (by simp at hj; simp [hj]))⟩
  intro j z hj
  by_cases hjk : j = k
  · subst hjk
    rw [Maps.atKey_put_same hm (keyedInt.key (Maps.keyOf_int_mk Try.underlying3 hj)), fput_same]
  · rw [Maps.atKey_put_other (by intro e; injection e with e1 e2; exact hjk e2), fput_other f v hjk]
    exact hf j z hj
end
end Go.Proofs.Ytoeoibcjenknmaa
