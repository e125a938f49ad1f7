/- Lists that are lent: a copy with a mark behind its end. -/
import Derived.Test.YtoeoibcjenknmaaPa06
import Derived.Lib.AppendZeros
import Derived.Laws.OwnMore
import Derived.Laws.MakeOwn
namespace Go.Proofs.Ytoeoibcjenknmaa
open Go.RowKit

/-- A made slice, what came in appended to it, then one more. -/
theorem lend_run (T E ty : TypeId) (i0 : TypeInfo) (z : Value) (bytes : Nat) (hu : Try.prog.underlying T = some (.slice E)) (hi : Try.prog.info? E = some i0) (hz0 : i0.zero = some z) (hz1 : i0.size = 1) (hz2 : i0.bytes = bytes) (hb8 : bytes ≤ 8)
    (a : Addr) (c : Nat) (vs : List Value) (mark : Value) (w : World) (hn : vs.length ≤ 1000000) (hv : ∀ j u, vs[j]? = some u → w.cell? (a.add j) = some u) (h1 : ∀ u ∈ vs, u.oneCell' = true) (hm : mark.oneCell' = true) :
    ∃ w1 w2 w3, (Instr.makeSlice T (.int .i64 0) (.int .i64 ((vs.length : Int) + 1))).run Try.prog w = .ok (.slice (some ⟨w.heap.size, 0, none⟩) 0 (vs.length + 1)) w1 ∧
      (Builtin.append_ #[T, T] ty #[.slice (some ⟨w.heap.size, 0, none⟩) 0 (vs.length + 1), .slice (some a) vs.length c]).run Try.prog w1 = .ok (.slice (some ⟨w.heap.size, 0, none⟩) vs.length (vs.length + 1)) w2 ∧
      (Builtin.append_ #[T, T] ty #[.slice (some ⟨w.heap.size, 0, none⟩) vs.length (vs.length + 1), .slice (some ⟨w2.heap.size, 0, none⟩) 1 1]).run Try.prog (w2.alloc (.cells #[mark] E)) = .ok (.slice (some ⟨w.heap.size, 0, none⟩) (vs.length + 1) (vs.length + 1)) w3 ∧
      Blk w3 w.heap.size E (vs ++ [mark]).toArray ∧ Below w.heap.size w w3 := by
  have hbytes : i0.bytes * (vs.length + 1) ≤ 281474976710656 := by rw [hz2]; exact Nat.le_trans (Nat.mul_le_mul_right _ hb8) (by omega)
  obtain ⟨w1, hr1, ho1, hg1⟩ := run_make_own (P := Try.prog) w w.heap.size T E i0 z 1 hu hi hz0 hz1 .i64 .i64 (vs.length + 1) hbytes (by unfold maxLen; omega) (Nat.le_refl _)
  have B1 : Below w.heap.size w w1 := (Turn.of_grown (S := []) hg1 (fun k hk => by simp at hk)).below
  have hs1 : w.heap.size < w1.heap.size := by
    rcases ho1.2 with ⟨h, _⟩ | ⟨g, cap, cur, h, _, hh, _⟩
    · simp at h
    · simp at h; obtain ⟨rfl, _⟩ := h; exact block_lt hh
  have hv1 : ∀ j u, vs[j]? = some u → w1.cell? (a.add j) = some u := fun j u hj => (B1.cell (World.block_lt_of_cell? w _ (hv j u hj))).trans (hv j u hj)
  obtain ⟨w2, hr2, ho2, hg2⟩ := run_append_fits (P := Try.prog) w1 w.heap.size T ty E i0 1 hu hi hz1 w.heap.size 0 (vs.length + 1) [] ho1 a vs.length c vs (by omega) hv1 h1 (by omega)
  rw [Nat.zero_add, List.nil_append] at ho2
  have T2 : Turn w1 w2 [w.heap.size] := Turn.of_grown hg2 (fun k hk => by simp at hk; simp [hk])
  have ho2' := World.ownsRow.alloc ho2 (.cells #[mark] E)
  obtain ⟨w3, hr3, ho3, hg3⟩ := run_append_fits (P := Try.prog) (w2.alloc (.cells #[mark] E)) w.heap.size T ty E i0 1 hu hi hz1 w.heap.size vs.length (vs.length + 1) vs ho2' ⟨w2.heap.size, 0, none⟩ 1 1 [mark] rfl (by
    intro j u hj
    match j, hj with
    | 0, hj =>
      simp at hj
      subst hj
      exact (Blk.new w2 _ _).cell 0) (by simpa using hm) (by omega)
  have T3 : Turn (w2.alloc (.cells #[mark] E)) w3 [w.heap.size] := Turn.of_grown hg3 (fun k hk => by simp at hk; simp [hk])
  refine ⟨w1, w2, w3, by simpa using hr1, ?_, hr3, ?_, ?_⟩
  · simpa using hr2
  · rcases ho3.2 with ⟨h, _⟩ | ⟨g, cap, cur, h, _, hh, _, _, hcs, htk⟩
    · simp at h
    · simp only [Value.slice.injEq, Option.some.injEq, Addr.mk.injEq, and_true, true_and] at h
      obtain ⟨rfl, rfl⟩ := h
      show w3.heap[w.heap.size]? = _
      rw [hh]
      congr 2
      apply Array.toList_inj.1
      rw [List.toList_toArray, ← htk, List.take_of_length_le (by rw [Array.length_toList, hcs]; omega)]
  · refine ((B1.trans (T2.belowN (Nat.le_of_lt hs1) (by simp))).alloc (by have := T2.size; omega) _).trans (T3.belowN ?_ (by simp))
    have := T2.size
    simp
    omega

abbrev markInt : Value := .int .i64 (-77177)
set_option maxHeartbeats 1600000 in
theorem lendInts_nil (w : World) : Calls Try.prog 6 #[.slice none 0 0] w fun e w' => e = .returned (.slice none 0 0) ∧ w = w' := by
  have heq : ∀ w, (binOp .eql 26 (.slice none 0 0) (.slice none 0 0)).run Try.prog w = .ok (.bool true) w := fun w => by kernel_rfl
  go_enter Try.func6, Try.ntmps6
  go_wp2
  go_ret
  exact ⟨rfl, rfl⟩
set_option maxHeartbeats 1600000 in
theorem lendInts_some (a : Addr) (c : Nat) (l : List Int) (w : World) (hn : l.length ≤ 1000000) (h : RdI w (some a) l) :
    Calls Try.prog 6 #[.slice (some a) l.length c] w fun e w' => e = .returned (.slice (some ⟨w.heap.size, 0, none⟩) l.length (l.length + 1)) ∧ Blk w' w.heap.size 3 (l.map (Value.int .i64) ++ [markInt]).toArray ∧ Below w.heap.size w w' := by
  obtain ⟨i0, hi, hz0, hz1, hz2⟩ := info_parts info_i64
  obtain ⟨w1, w2, w3, hr1, hr2, hr3, hb, hB⟩ := lend_run 26 3 26 i0 _ 8 Try.underlying26 hi hz0 hz1 hz2 (by omega) a c (l.map (Value.int .i64)) markInt w (by simpa using hn) (by
    intro j u hj
    simp only [List.getElem?_map, Option.map_eq_some_iff] at hj
    obtain ⟨y, hy, rfl⟩ := hj
    obtain ⟨hjl, hy'⟩ := List.getElem?_eq_some_iff.1 hy
    obtain ⟨b, off, e, hc⟩ := h j hjl
    cases e
    have := hc j hjl
    rw [List.getD_eq_getElem?_getD, hy, Option.getD_some] at this
    rw [add_zero_addr]
    exact this) (by simp [Value.oneCell']) rfl
  rw [List.length_map] at hr1 hr2 hr3
  have heq : ∀ w, (binOp .eql 26 (.slice (some a) l.length c) (.slice none 0 0)).run Try.prog w = .ok (.bool false) w := fun w =>
    Lib.run_eql_slice_nil w _ _ _ _ _ _ _ Try.underlying26
  obtain ⟨n, hn'⟩ : ∃ n, l.length = n := ⟨_, rfl⟩
  rw [hn'] at hr1 hr2 hr3 heq hn ⊢
  have HB := Lib.hid (And.intro hb hB)
  have hne : ¬ n + 1 = 0 := by omega
  clear h hn' hb hB hi hz0 hz1 hz2
  go_enter Try.func6, Try.ntmps6
  go_wp2_with (at_builtin; first | refine Lib.wpList_append_run _ rfl (.tmp 8) (.tmp 9) 26 26 rfl _ _ rfl rfl _ _ hr2 ?_ | refine Lib.wpList_append_run _ rfl (.tmp 10) (.tmp 11) 26 26 rfl _ _ rfl rfl _ _ hr3 ?_)
  go_ret
  exact ⟨rfl, HB.out⟩
set_option maxHeartbeats 1600000 in
theorem keptInts_nil (w : World) : Calls Try.prog 10 #[.slice none 0 0, .slice none 0 0] w fun e w' => e = .returned (.bool true) ∧ Below w.heap.size w w' := by
  have HS : Hid (Calls Try.prog 9 #[.slice none 0 0, .slice none 0 0] w fun e w' => e = .returned (.bool true) ∧ Below w.heap.size w w') := Lib.hid (sameInts_walk none none 0 0 [] w (by simp) (RdI.nil _ _) (RdI.nil _ _))
  have heq : ∀ w, (binOp .eql 26 (.slice none 0 0) (.slice none 0 0)).run Try.prog w = .ok (.bool true) w := fun w => by kernel_rfl
  go_enter Try.func10, Try.ntmps10
  go_wp2_with fail
  (with_reducible refine Calls.mono HS.out ?_)
  rintro e w1 ⟨rfl, hb⟩
  have HB := Lib.hid hb
  clear hb
  go_wp2
  go_ret
  exact ⟨rfl, HB.out⟩
theorem rdI_lent {w : World} {g : Nat} {t : TypeId} {l : List Int} {m : Value} (h : Blk w g t (l.map (Value.int .i64) ++ [m]).toArray) : RdI w (some ⟨g, 0, none⟩) l := fun k hk => ⟨g, 0, rfl, fun j hj => by
  rw [h.cell (0 + j), Nat.zero_add]
  simp [hj, List.getElem?_append_left, List.getD_eq_getElem?_getD]⟩
set_option maxHeartbeats 1600000 in
theorem keptInts_some (g c : Nat) (a : Addr) (l : List Int) (w : World) (hn : l.length ≤ 1000000) (h : RdI w (some a) l) (hg : Blk w g 3 (l.map (Value.int .i64) ++ [markInt]).toArray) :
    Calls Try.prog 10 #[.slice (some ⟨g, 0, none⟩) l.length (l.length + 1), .slice (some a) l.length c] w fun e w' => e = .returned (.bool true) ∧ Below w.heap.size w w' := by
  have HS := Lib.hid (sameInts_walk (some ⟨g, 0, none⟩) (some a) (l.length + 1) c l w (by omega) (rdI_lent hg) h)
  have heq : ∀ w, (binOp .eql 26 (.slice (some a) l.length c) (.slice none 0 0)).run Try.prog w = .ok (.bool false) w := fun w =>
    Lib.run_eql_slice_nil w _ _ _ _ _ _ _ Try.underlying26
  have HG : Hid (∀ w', Below w.heap.size w w' → w'.cell? ⟨g, l.length, none⟩ = some markInt) := Lib.hid (fun w' hb => by
    rw [(hg.below hb).cell l.length]
    simp)
  obtain ⟨n, hn'⟩ : ∃ n, l.length = n := ⟨_, rfl⟩
  rw [hn'] at HS heq hn HG ⊢
  have hne : ¬ n + 1 = 0 := by omega
  clear h hn' hg
  go_enter Try.func10, Try.ntmps10
  go_wp2_with fail
  (with_reducible refine Calls.mono HS.out ?_)
  rintro e w1 ⟨rfl, hb⟩
  have HB := Lib.hid hb
  have cg := HG.out w1 hb
  clear hb HS
  go_wp2
  go_ret
  exact ⟨rfl, HB.out⟩
end Go.Proofs.Ytoeoibcjenknmaa
