/- The reference's Same of ciphertexts that are the same.
Lists of words that are lent: a copy with a mark behind its end.
The statements' lend of a ciphertext. (Printed by genlend.py.) -/
import Derived.Test.YtcipjbckcnkfaaaGreatPa49
import Derived.Test.YtcipjbckcnkfaaaGreatPa39
import Derived.Lib.AppendZeros
import Derived.Laws.OwnMore
import Derived.Laws.MakeOwn
namespace Go.Proofs.YtcipjbckcnkfaaaGreat
open Go.RowKit Go.Shelf
attribute [local go_sem ↓] Go.wp_at_zero Go.wp_at_succ

set_option maxHeartbeats 6400000 in
set_option maxRecDepth 100000 in
theorem r14Same_walk (C : Ci) (a1 a2 : Option Addr) (c1 c2 : Nat) (w : World) (hn : C.parts.length ≤ 9223372036854775807) (hf : ∀ i, i < C.parts.length → (C.part i).rows.length ≤ 9223372036854775807 ∧ ∀ j, j < (C.part i).rows.length → ((C.part i).row j).length ≤ 9223372036854775807) (h1 : RdE w a1 C.parts) (h2 : RdE w a2 C.parts) :
    Calls Tryz.prog 12 #[C.val a1 c1, C.val a2 c2] w fun e w' => e = .returned (.bool true) ∧ Below w.heap.size w w' := by
  have HS := Lib.hid (fun (i : Nat) (hi : i < C.parts.length) (w' : World) (x1 x2 : Option Addr) (k1 k2 : Nat) (g1 : RdR w' x1 (C.part i).rows) (g2 : RdR w' x2 (C.part i).rows) => r09Same_walk (C.part i) x1 x2 k1 k2 w' (hf i hi).1 (hf i hi).2 g1 g2)
  have HR1 := Lib.hid h1
  have HR2 := Lib.hid h2
  obtain ⟨n, hn'⟩ : ∃ n, C.parts.length = n := ⟨_, rfl⟩
  have HL := Lib.hid hn'
  unfold Ci.val El.val at *
  rw [hn'] at hn HS ⊢
  clear hf h1 h2 hn'
  go_enter Tryz.func12, Tryz.ntmps12
  go_wp2
  go_loopg [5] n (fun fu v5 wr => ∃ k : Nat, v5 = .int .i64 k ∧ k ≤ n ∧ n - k ≤ fu ∧ Hid (Below w.heap.size w wr) ∧ Hid (Blk wr w.heap.size 28 #[.int .i64 C.level, .int .i64 C.exponent, .slice a1 n c1]) ∧ Hid (Blk wr (w.heap.size + 1) 28 #[.int .i64 C.level, .int .i64 C.exponent, .slice a2 n c2]))
  case atStart => exact ⟨0, rfl, by omega, by omega, Lib.hid (by with_reducible (repeat first | exact bR _ _ | assumption | exact ho (by assumption) | refine bD ?_ | refine bN ?_ _ | refine bA ?_ ?_ _ | refine bS ?_ ?_ _) <;> (first | omega | (simp <;> omega))), Lib.hid (by repeat (first | exact Blk.newAt (by (first | omega | (simp only [World.size_alloc, sz_set, sz_drew, sz_drewN]; done) | (simp only [World.size_alloc, sz_set, sz_drew, sz_drewN]; omega))) | (with_reducible refine Blk.alloc ?_ _) | (with_reducible refine Blk.drew ?_) | (with_reducible refine Blk.drewN ?_ _) | (with_reducible refine Blk.belowB ?_ (Hid.out (by assumption)) ?szk; case szk => (first | omega | (simp only [World.size_alloc, sz_set, sz_drew, sz_drewN]; done) | (simp only [World.size_alloc, sz_set, sz_drew, sz_drewN]; omega))))), Lib.hid (by repeat (first | exact Blk.newAt (by (first | omega | (simp only [World.size_alloc, sz_set, sz_drew, sz_drewN]; done) | (simp only [World.size_alloc, sz_set, sz_drew, sz_drewN]; omega))) | (with_reducible refine Blk.alloc ?_ _) | (with_reducible refine Blk.drew ?_) | (with_reducible refine Blk.drewN ?_ _) | (with_reducible refine Blk.belowB ?_ (Hid.out (by assumption)) ?szk; case szk => (first | omega | (simp only [World.size_alloc, sz_set, sz_drew, sz_drewN]; done) | (simp only [World.size_alloc, sz_set, sz_drew, sz_drewN]; omega)))))⟩
  case round =>
    obtain ⟨k, rfl, hk, hfu, HB, H1, H2⟩ := hrel
    obtain ⟨d0, d1, d2⟩ := el_cells H1.out
    obtain ⟨e0, e1, e2⟩ := el_cells H2.out
    by_cases hkl : k < n
    case neg =>
      obtain rfl : k = n := by omega
      go_wp2
      go_ret
      exact ⟨rfl, (by with_reducible (repeat first | exact bR _ _ | assumption | exact ho (by assumption) | refine bD ?_ | refine bN ?_ _ | refine bA ?_ ?_ _ | refine bS ?_ ?_ _) <;> (first | omega | (simp <;> omega)))⟩
    obtain ⟨b1, o1, rfl, hA⟩ := (HR1.out.below HB.out) k (by rw [HL.out]; exact hkl)
    obtain ⟨r1, s1, x0, x1, x2, x3, _⟩ := hA k (by rw [HL.out]; exact hkl)
    obtain ⟨b2, o2, rfl, hB⟩ := (HR2.out.below HB.out) k (by rw [HL.out]; exact hkl)
    obtain ⟨r2, s2, y0, y1, y2, y3, _⟩ := hB k (by rw [HL.out]; exact hkl)
    rw [show C.parts.getD k ⟨0, false, []⟩ = C.part k from rfl] at x0 x1 x2 x3 y0 y1 y2 y3
    have HC := Lib.hid (fun (w' : World) (hb : Below wr.heap.size wr w') => HS.out k hkl w' r1 r2 s1 s2 (x3.below hb) (y3.below hb))
    obtain ⟨E, hE⟩ : ∃ E, C.part k = E := ⟨_, rfl⟩
    rw [hE] at HC x0 x1 x2 y0 y1 y2
    have i0 : (0 : Int) ≤ (k : Int) := Int.natCast_nonneg _
    have i1 : (k : Int) < (n : Int) := by omega
    clear hA hB x3 y3 hE
    go_wp2
    have hS : (fun w' : World => w'.cell? ⟨w.heap.size, 2, none⟩ = some (.slice (some ⟨b1, o1, none⟩) n c1) ∧ w'.cell? ⟨w.heap.size + 1, 2, none⟩ = some (.slice (some ⟨b2, o2, none⟩) n c2) ∧ w'.cell? ⟨b1, o1 + k * 3, none⟩ = some (.int .i64 E.level) ∧ w'.cell? ⟨b1, o1 + k * 3 + 1, none⟩ = some (.bool E.special) ∧ w'.cell? ⟨b1, o1 + k * 3 + 2, none⟩ = some (.slice r1 E.rows.length s1) ∧ w'.cell? ⟨b2, o2 + k * 3, none⟩ = some (.int .i64 E.level) ∧ w'.cell? ⟨b2, o2 + k * 3 + 1, none⟩ = some (.bool E.special) ∧ w'.cell? ⟨b2, o2 + k * 3 + 2, none⟩ = some (.slice r2 E.rows.length s2)) wr.drew := ⟨d2, e2, x0, x1, x2, y0, y1, y2⟩
    have HK : Hid (∀ w', Below wr.heap.size wr w' → w'.cell? ⟨w.heap.size, 2, none⟩ = some (.slice (some ⟨b1, o1, none⟩) n c1) ∧ w'.cell? ⟨w.heap.size + 1, 2, none⟩ = some (.slice (some ⟨b2, o2, none⟩) n c2) ∧ w'.cell? ⟨b1, o1 + k * 3, none⟩ = some (.int .i64 E.level) ∧ w'.cell? ⟨b1, o1 + k * 3 + 1, none⟩ = some (.bool E.special) ∧ w'.cell? ⟨b1, o1 + k * 3 + 2, none⟩ = some (.slice r1 E.rows.length s1) ∧ w'.cell? ⟨b2, o2 + k * 3, none⟩ = some (.int .i64 E.level) ∧ w'.cell? ⟨b2, o2 + k * 3 + 1, none⟩ = some (.bool E.special) ∧ w'.cell? ⟨b2, o2 + k * 3 + 2, none⟩ = some (.slice r2 E.rows.length s2)) := Lib.hid (fun w' hb => by
      have t : ∀ {a : Addr} {v : Value}, wr.cell? a = some v → w'.cell? a = some v := fun {a v} h => (hb.cell (World.block_lt_of_cell? wr _ h)).trans h
      exact ⟨t d2, t e2, t x0, t x1, t x2, t y0, t y1, t y2⟩)
    refine wp_region_L (fun w' => w'.cell? ⟨w.heap.size, 2, none⟩ = some (.slice (some ⟨b1, o1, none⟩) n c1) ∧ w'.cell? ⟨w.heap.size + 1, 2, none⟩ = some (.slice (some ⟨b2, o2, none⟩) n c2) ∧ w'.cell? ⟨b1, o1 + k * 3, none⟩ = some (.int .i64 E.level) ∧ w'.cell? ⟨b1, o1 + k * 3 + 1, none⟩ = some (.bool E.special) ∧ w'.cell? ⟨b1, o1 + k * 3 + 2, none⟩ = some (.slice r1 E.rows.length s1) ∧ w'.cell? ⟨b2, o2 + k * 3, none⟩ = some (.int .i64 E.level) ∧ w'.cell? ⟨b2, o2 + k * 3 + 1, none⟩ = some (.bool E.special) ∧ w'.cell? ⟨b2, o2 + k * 3 + 2, none⟩ = some (.slice r2 E.rows.length s2)) 12 (by kernel_rfl) (by kernel_rfl) (by kernel_rfl) ?_
    refine tJ 0 (v := ?_) (by assumption) ?_ ?_
    rotate_left
    · (intro w h; (try dsimp only at h); go_simp; try with_reducible rfl)
    try simp only [Act.put, gA, gB, gC, sA, sB, sC]
    refine tJ 1 (v := ?_) (by assumption) ?_ ?_
    rotate_left
    · (intro w h; (try dsimp only at h); go_simp; try with_reducible rfl)
    try simp only [Act.put, gA, gB, gC, sA, sB, sC]
    refine tJ 2 (v := ?_) (by assumption) ?_ ?_
    rotate_left
    · (intro w h; (try dsimp only at h); go_simp; try with_reducible rfl)
    try simp only [Act.put, gA, gB, gC, sA, sB, sC]
    refine tJ 3 (v := ?_) (by assumption) ?_ ?_
    rotate_left
    · (intro w h; (try dsimp only at h); go_simp; try with_reducible rfl)
    try simp only [Act.put, gA, gB, gC, sA, sB, sC]
    refine tJ 4 (v := ?_) (by assumption) ?_ ?_
    rotate_left
    · (intro w h; (try dsimp only at h); go_simp; try with_reducible rfl)
    try simp only [Act.put, gA, gB, gC, sA, sB, sC]
    refine tJ 5 (v := ?_) (by assumption) ?_ ?_
    rotate_left
    · (intro w h; (try dsimp only at h); go_simp; try with_reducible rfl)
    try simp only [Act.put, gA, gB, gC, sA, sB, sC]
    refine tJ 6 (v := ?_) (by assumption) ?_ ?_
    rotate_left
    · (intro w h; (try dsimp only at h); go_simp; try with_reducible rfl)
    try simp only [Act.put, gA, gB, gC, sA, sB, sC]
    refine tJ 7 (v := ?_) (by assumption) ?_ ?_
    rotate_left
    · (intro w h; (try dsimp only at h); go_simp; try with_reducible rfl)
    try simp only [Act.put, gA, gB, gC, sA, sB, sC]
    refine tJ 8 (v := ?_) (by assumption) ?_ ?_
    rotate_left
    · (intro w h; (try dsimp only at h); go_simp; try with_reducible rfl)
    try simp only [Act.put, gA, gB, gC, sA, sB, sC]
    refine tJ 9 (v := ?_) (by assumption) ?_ ?_
    rotate_left
    · (intro w h; (try dsimp only at h); go_simp; try with_reducible rfl)
    try simp only [Act.put, gA, gB, gC, sA, sB, sC]
    clear d0 d1 d2 e0 e1 e2 x0 x1 x2 y0 y1 y2
    refine wpL.eff 10 rfl (by kernel_rfl) rfl ?_
    intro K hK
    go_wp2_with fail
    (with_reducible refine Calls.mono (HC.out _ (by with_reducible (repeat first | exact bR _ _ | assumption | exact ho (by assumption) | refine bD ?_ | refine bN ?_ _ | refine bA ?_ ?_ _ | refine bS ?_ ?_ _) <;> (first | omega | (simp <;> omega)))) ?_)
    rintro e w2 ⟨rfl, hb⟩
    have HB2 : Hid (Below wr.heap.size wr w2) := Lib.hid (below_step' (by with_reducible (repeat first | exact bR _ _ | assumption | exact ho (by assumption) | refine bD ?_ | refine bN ?_ _ | refine bA ?_ ?_ _ | refine bS ?_ ?_ _) <;> (first | omega | (simp <;> omega))) hb)
    clear hb
    refine hK _ _ (HK.out _ HB2.out) (fun hS => ?_)
    clear hK
    try simp only [Act.put, gA, gB, gC, sA, sB, sC]
    refine tJ 11 (v := ?_) (by assumption) ?_ ?_
    rotate_left
    · (intro w h; (try dsimp only at h); go_simp; try with_reducible rfl)
    try simp only [Act.put, gA, gB, gC, sA, sB, sC]
    refine wpL.done (by kernel_rfl) ?_
    go_wp2
    go_roundg (n - (k + 1))
    case measure => omega
    case rel => exact ⟨k + 1, by go_num, by omega, Nat.le_refl _, Lib.hid (HB.out.trans (HB2.out.mono HB.out.size)), Lib.hid (H1.out.below HB2.out), Lib.hid (H2.out.below HB2.out)⟩
end Go.Proofs.YtcipjbckcnkfaaaGreat

namespace Go.Proofs.YtcipjbckcnkfaaaGreat
open Go.RowKit

/-- A made slice, what came in appended to it, then one more. -/
theorem lend_go (T E ty : TypeId) (i0 : TypeInfo) (z : Value) (bytes : Nat) (hu : Tryz.prog.underlying T = some (.slice E)) (hi : Tryz.prog.info? E = some i0) (hz0 : i0.zero = some z) (hz1 : i0.size = 1) (hz2 : i0.bytes = bytes) (hb8 : bytes ≤ 8)
    (a : Addr) (c : Nat) (vs : List Value) (mark : Value) (w : World) (hn : vs.length ≤ 1000000) (hv : ∀ j u, vs[j]? = some u → w.cell? (a.add j) = some u) (h1 : ∀ u ∈ vs, u.oneCell' = true) (hm : mark.oneCell' = true) :
    ∃ w1 w2 w3, (Instr.makeSlice T (.int .i64 0) (.int .i64 ((vs.length : Int) + 1))).run Tryz.prog w = .ok (.slice (some ⟨w.heap.size, 0, none⟩) 0 (vs.length + 1)) w1 ∧
      (Builtin.append_ #[T, T] ty #[.slice (some ⟨w.heap.size, 0, none⟩) 0 (vs.length + 1), .slice (some a) vs.length c]).run Tryz.prog w1 = .ok (.slice (some ⟨w.heap.size, 0, none⟩) vs.length (vs.length + 1)) w2 ∧
      (Builtin.append_ #[T, T] ty #[.slice (some ⟨w.heap.size, 0, none⟩) vs.length (vs.length + 1), .slice (some ⟨w2.heap.size, 0, none⟩) 1 1]).run Tryz.prog (w2.alloc (.cells #[mark] E)) = .ok (.slice (some ⟨w.heap.size, 0, none⟩) (vs.length + 1) (vs.length + 1)) w3 ∧
      Blk w3 w.heap.size E (vs ++ [mark]).toArray ∧ Below w.heap.size w w3 := by
  have hbytes : i0.bytes * (vs.length + 1) ≤ 281474976710656 := by rw [hz2]; exact Nat.le_trans (Nat.mul_le_mul_right _ hb8) (by omega)
  obtain ⟨w1, hr1, ho1, hg1⟩ := run_make_own (P := Tryz.prog) w w.heap.size T E i0 z 1 hu hi hz0 hz1 .i64 .i64 (vs.length + 1) hbytes (by unfold maxLen; omega) (Nat.le_refl _)
  have B1 : Below w.heap.size w w1 := (Turn.of_grown (S := []) hg1 (fun k hk => by simp at hk)).below
  have hs1 : w.heap.size < w1.heap.size := by
    rcases ho1.2 with ⟨h, _⟩ | ⟨g, cap, cur, h, _, hh, _⟩
    · simp at h
    · simp at h; obtain ⟨rfl, _⟩ := h; exact block_lt hh
  have hv1 : ∀ j u, vs[j]? = some u → w1.cell? (a.add j) = some u := fun j u hj => (B1.cell (World.block_lt_of_cell? w _ (hv j u hj))).trans (hv j u hj)
  obtain ⟨w2, hr2, ho2, hg2⟩ := run_append_fits (P := Tryz.prog) w1 w.heap.size T ty E i0 1 hu hi hz1 w.heap.size 0 (vs.length + 1) [] ho1 a vs.length c vs (by omega) hv1 h1 (by omega)
  rw [Nat.zero_add, List.nil_append] at ho2
  have T2 : Turn w1 w2 [w.heap.size] := Turn.of_grown hg2 (fun k hk => by simp at hk; simp [hk])
  have ho2' := World.ownsRow.alloc ho2 (.cells #[mark] E)
  obtain ⟨w3, hr3, ho3, hg3⟩ := run_append_fits (P := Tryz.prog) (w2.alloc (.cells #[mark] E)) w.heap.size T ty E i0 1 hu hi hz1 w.heap.size vs.length (vs.length + 1) vs ho2' ⟨w2.heap.size, 0, none⟩ 1 1 [mark] rfl (by
    intro j u hj
    match j, hj with
    | 0, hj =>
      simp at hj
      subst hj
      exact (Blk.new w2 _ _).cell 0) (by simpa using hm) (by omega)
  have T3 : Turn (w2.alloc (.cells #[mark] E)) w3 [w.heap.size] := Turn.of_grown hg3 (fun k hk => by simp at hk; simp [hk])
  refine ⟨w1, w2, w3, by simpa using hr1, ?_, hr3, ?_, ?_⟩
  · simpa using hr2
  · rcases ho3.2 with ⟨h, _⟩ | ⟨g, cap, cur, h, _, hh, _, _, hcs, htk⟩
    · simp at h
    · simp only [Value.slice.injEq, Option.some.injEq, Addr.mk.injEq, and_true, true_and] at h
      obtain ⟨rfl, rfl⟩ := h
      show w3.heap[w.heap.size]? = _
      rw [hh]
      have e : cur = (vs ++ [mark]).toArray := Array.toList_inj.1 (by rw [List.toList_toArray, ← htk, List.take_of_length_le (by rw [Array.length_toList, hcs]; omega)])
      rw [e]
  · refine ((B1.trans (T2.belowN (Nat.le_of_lt hs1) (by simp))).alloc (by have := T2.size; omega) _).trans (T3.belowN ?_ (by simp))
    have := T2.size
    simp
    omega


/-- A list of words of the call's own. -/
def PutWords (base : Nat) (l : List Nat) (v : Value) (w' : World) : Prop := ∃ ro rc, v = .slice ro l.length rc ∧ Rd w' ro l ∧ l.length ≤ rc ∧ rc ≤ 9223372036854775807 ∧ ∀ a : Addr, ro = some a → U32 w' a.block ∧ base ≤ a.block
abbrev markWord : Value := .int .u32 77177
set_option maxHeartbeats 1600000 in
theorem lendWords_nil (c : Nat) (w : World) : Calls Tryz.prog 34 #[.slice none 0 c] w fun e w' => (∃ v, e = .returned v ∧ PutWords w.heap.size [] v w') ∧ Below w.heap.size w w' := by
  have heq : ∀ w, (binOp .eql 23 (.slice none 0 c) (.slice none 0 0)).run Tryz.prog w = .ok (.bool true) w := fun w =>
    Lib.run_eql_slice_nil w _ _ none _ _ _ _ Tryz.underlying23
  go_enter Tryz.func34, Tryz.ntmps34
  go_wp2
  go_ret
  exact ⟨⟨_, rfl, none, 0, rfl, fun k hk => by simp at hk, by simp, by omega, fun a h => by cases h⟩, Below.refl _ _⟩
set_option maxHeartbeats 1600000 in
set_option maxRecDepth 100000 in
theorem lendWords_some (a : Addr) (c : Nat) (l : List Nat) (w : World) (hn : l.length ≤ 1000000) (h : Rd w (some a) l) :
    Calls Tryz.prog 34 #[.slice (some a) l.length c] w fun e w' => (∃ v, e = .returned v ∧ PutWords w.heap.size l v w') ∧ Below w.heap.size w w' := by
  obtain ⟨i0, hi, hz0, hz1, hz2⟩ := info_parts info_u32
  obtain ⟨w1, w2, w3, hr1, hr2, hr3, hb, hB⟩ := lend_go 23 22 23 i0 _ 4 Tryz.underlying23 hi hz0 hz1 hz2 (by omega) a c (l.map fun x : Nat => Value.int .u32 (x : Int)) markWord w (by simpa using hn) (by
    intro j u hj
    simp only [List.getElem?_map, Option.map_eq_some_iff] at hj
    obtain ⟨y, hy, rfl⟩ := hj
    obtain ⟨hjl, hy'⟩ := List.getElem?_eq_some_iff.1 hy
    obtain ⟨b, off, e, hc⟩ := h j hjl
    cases e
    have := hc j hjl
    rw [List.getD_eq_getElem?_getD, hy, Option.getD_some] at this
    rw [add_zero_addr]
    exact this) (by simp [Value.oneCell']) rfl
  rw [List.length_map] at hr1 hr2 hr3
  have heq : ∀ w, (binOp .eql 23 (.slice (some a) l.length c) (.slice none 0 0)).run Tryz.prog w = .ok (.bool false) w := fun w =>
    Lib.run_eql_slice_nil w _ _ _ _ _ _ _ Tryz.underlying23
  have HP : Hid (PutWords w.heap.size l (.slice (some ⟨w.heap.size, 0, none⟩) l.length (l.length + 1)) w3) := Lib.hid ⟨_, _, rfl, fun k hk => ⟨w.heap.size, 0, rfl, fun j hj => by
    rw [hb.cell (0 + j), Nat.zero_add]
    simp [hj, List.getElem?_append_left, List.getD_eq_getElem?_getD]⟩, by omega, by omega, fun a' e => by cases e; exact ⟨⟨_, hb⟩, Nat.le_refl _⟩⟩
  obtain ⟨n, hn'⟩ : ∃ n, l.length = n := ⟨_, rfl⟩
  rw [hn'] at hr1 hr2 hr3 heq hn HP ⊢
  have HB := Lib.hid hB
  have hne : ¬ n + 1 = 0 := by omega
  clear h hn' hb hB hi hz0 hz1 hz2
  go_enter Tryz.func34, Tryz.ntmps34
  go_wp2_with (at_builtin; first | refine Lib.wpList_append_run _ rfl (.tmp 8) (.tmp 9) 23 23 rfl _ _ rfl rfl _ _ hr2 ?_ | refine Lib.wpList_append_run _ rfl (.tmp 10) (.tmp 11) 23 23 rfl _ _ rfl rfl _ _ hr3 ?_)
  go_ret
  exact ⟨⟨_, rfl, HP.out⟩, HB.out⟩
theorem lendWords_walk (ao : Option Addr) (c : Nat) (l : List Nat) (w : World) (hn : l.length ≤ 1000000) (h : Rd w ao l) :
    Calls Tryz.prog 34 #[.slice ao l.length c] w fun e w' => (∃ v, e = .returned v ∧ PutWords w.heap.size l v w') ∧ Below w.heap.size w w' := by
  cases ao with
  | some a => exact lendWords_some a c l w hn h
  | none =>
    cases l with
    | nil => exact lendWords_nil c w
    | cons x l => obtain ⟨b, o, e, _⟩ := h 0 (by simp); cases e
end Go.Proofs.YtcipjbckcnkfaaaGreat

namespace Go.Proofs.YtcipjbckcnkfaaaGreat
open Go.RowKit Go.Shelf
attribute [local go_sem ↓] Go.wp_at_zero Go.wp_at_succ

theorem take_snoc {α : Type} (l : List α) (d : α) (k : Nat) (h : k < l.length) : l.take (k + 1) = l.take k ++ [l.getD k d] := by
  rw [List.take_add_one, List.getD_eq_getElem?_getD, List.getElem?_eq_getElem h]
  rfl
theorem take_len {α : Type} (l : List α) (k : Nat) (h : k ≤ l.length) : (l.take k).length = k := by rw [List.length_take]; omega

set_option maxHeartbeats 6400000 in
set_option maxRecDepth 100000 in
theorem lend16_walk (C : Ci) (ao : Option Addr) (cA : Nat) (w : World) (hn : C.parts.length ≤ 1000) (hf : ∀ i, i < C.parts.length → (C.part i).rows.length ≤ 1000 ∧ ∀ j, j < (C.part i).rows.length → ((C.part i).row j).length ≤ 1000000) (h1 : RdE w ao C.parts) :
    Calls Tryz.prog 9 #[C.val ao cA] w fun e w' => (∃ v, e = .returned v ∧ GiveCi w.heap.size C v w') ∧ Below w.heap.size w w' := by
  have HR := Lib.hid h1
  have HF := Lib.hid hf
  obtain ⟨n, hn'⟩ : ∃ n, C.parts.length = n := ⟨_, rfl⟩
  have HL := Lib.hid hn'
  obtain ⟨L, hL⟩ : ∃ L, C.level = L := ⟨_, rfl⟩
  obtain ⟨X, hX⟩ : ∃ X, C.exponent = X := ⟨_, rfl⟩
  have HLX := Lib.hid (And.intro hL hX)
  unfold Ci.val
  rw [hn', hL, hX] 
  rw [hn'] at hn HF
  clear h1 hf hn' hL hX
  go_enter Tryz.func9, Tryz.ntmps9
  go_wp2
  refine gen_w _ _ (fun W0 hW0 => ?_)
  have HB0 : Hid (Below w.heap.size w W0) := Lib.hid (by rw [hW0]; exact (by with_reducible (repeat first | exact bR _ _ | assumption | exact ho (by assumption) | refine bD ?_ | refine bN ?_ _ | refine bA ?_ ?_ _ | refine bS ?_ ?_ _) <;> (first | omega | (simp <;> omega))))
  have hz0 : W0.heap.size = w.heap.size + 1 + 1 + 1 := by rw [hW0]; simp
  have HA0 : Hid (Blk W0 w.heap.size 28 #[.int .i64 L, .int .i64 X, .slice ao n cA]) := Lib.hid (by rw [hW0]; exact (by repeat (first | exact Blk.newAt (by (first | omega | (simp only [World.size_alloc, sz_set, sz_drew, sz_drewN]; done) | (simp only [World.size_alloc, sz_set, sz_drew, sz_drewN]; omega))) | (with_reducible refine Blk.alloc ?_ _) | (with_reducible refine Blk.drew ?_) | (with_reducible refine Blk.drewN ?_ _) | (with_reducible refine Blk.belowB ?_ (Hid.out (by assumption)) ?szk; case szk => (first | omega | (simp only [World.size_alloc, sz_set, sz_drew, sz_drewN]; done) | (simp only [World.size_alloc, sz_set, sz_drew, sz_drewN]; omega))))))
  have HC0 : Hid (Blk W0 (w.heap.size + 1) 28 #[.int .i64 0, .int .i64 0, .slice none 0 0]) := Lib.hid (by rw [hW0]; exact (by repeat (first | exact Blk.newAt (by (first | omega | (simp only [World.size_alloc, sz_set, sz_drew, sz_drewN]; done) | (simp only [World.size_alloc, sz_set, sz_drew, sz_drewN]; omega))) | (with_reducible refine Blk.alloc ?_ _) | (with_reducible refine Blk.drew ?_) | (with_reducible refine Blk.drewN ?_ _) | (with_reducible refine Blk.belowB ?_ (Hid.out (by assumption)) ?szk; case szk => (first | omega | (simp only [World.size_alloc, sz_set, sz_drew, sz_drewN]; done) | (simp only [World.size_alloc, sz_set, sz_drew, sz_drewN]; omega))))))
  have HO0 : Hid (Blk W0 (w.heap.size + 1 + 1) 28 #[.int .i64 L, .int .i64 X, .slice none 0 0]) := Lib.hid (by rw [hW0]; exact (by repeat (first | exact Blk.newAt (by (first | omega | (simp only [World.size_alloc, sz_set, sz_drew, sz_drewN]; done) | (simp only [World.size_alloc, sz_set, sz_drew, sz_drewN]; omega))) | (with_reducible refine Blk.alloc ?_ _) | (with_reducible refine Blk.drew ?_) | (with_reducible refine Blk.drewN ?_ _) | (with_reducible refine Blk.belowB ?_ (Hid.out (by assumption)) ?szk; case szk => (first | omega | (simp only [World.size_alloc, sz_set, sz_drew, sz_drewN]; done) | (simp only [World.size_alloc, sz_set, sz_drew, sz_drewN]; omega))))))
  have HZ0 := Lib.hid hz0
  have hz1 : w.heap.size + 1 + 1 < W0.heap.size := by omega
  clear hW0 hz0
  go_loopg [4] n (fun fu v4 wr => ∃ (i : Nat) (oo : Option Addr) (oc : Nat), v4 = .int .i64 i ∧ i ≤ n ∧ n - i ≤ fu ∧ Hid (Blk wr (w.heap.size + 1 + 1) 28 #[.int .i64 L, .int .i64 X, .slice oo i oc]) ∧ Hid (OwE wr W0.heap.size (.slice oo i oc) (C.parts.take i)) ∧ Hid (Turn W0 wr [w.heap.size + 1 + 1]))
  case atStart => exact ⟨0, none, 0, rfl, by omega, by omega, HO0, Lib.hid (OwE.nil _ _), Lib.hid (Turn.refl _ _)⟩
  case round =>
    obtain ⟨i, oo, oc, rfl, hi, hfu, HO, HE, HT⟩ := hrel
    obtain ⟨wo, rfl⟩ : ∃ wo, wo = wr := ⟨_, rfl⟩
    have hbA := HA0.out.turn HT.out (by simp <;> omega)
    obtain ⟨a0, a1, a2⟩ := el_cells hbA
    obtain ⟨e0, e1, e2⟩ := el_cells HO.out
    have hsr := HT.out.size
    by_cases hlt : i < n
    case neg =>
      obtain rfl : i = n := by omega
      have hbC := HC0.out.turn HT.out (by simp <;> omega)
      obtain ⟨k0, k1, k2⟩ := el_cells hbC
      have f0 := hbC.free 0
      have f1 := hbC.free 1
      have f2 := hbC.free 2
      have HFI : Hid (∀ x, Turn wo x [w.heap.size + 1] → GiveCi w.heap.size C (.agg #[.int .i64 L, .int .i64 X, .slice oo i oc]) x ∧ Below w.heap.size w x) := Lib.hid (fun x hT => by
        obtain ⟨ao', c', e, r1, r2, r3⟩ := HE.out.give
        rw [take_len _ _ (by rw [HL.out]; exact Nat.le_refl _)] at e r2
        cases e
        rw [List.take_of_length_le (by rw [HL.out]; exact Nat.le_refl _)] at r1
        refine ⟨⟨oo, oc, by unfold Ci.val; rw [HLX.out.1, HLX.out.2, HL.out], (r1.turn hT (fun y hy => by simp at hy; omega)).mono (by omega), by rw [HL.out]; exact r2, r3⟩, ?_⟩
        exact HB0.out.trans ((HT.out.trans' hT).belowN HB0.out.size (fun y hy => by simp at hy; omega)))
      clear hbC hbA
      go_wp2
      have T0 := (((Turn.refl wo [w.heap.size + 1]).setCell (p := ⟨w.heap.size + 1, 0, none⟩) (.inl (by simp)) (.int .i64 L)).setCell (p := ⟨w.heap.size + 1, 1, none⟩) (.inl (by simp)) (.int .i64 X)).setCell (p := ⟨w.heap.size + 1, 2, none⟩) (.inl (by simp)) (.slice oo i oc)
      obtain ⟨z1, z2⟩ := HFI.out _ T0
      refine bodyPost_ret (v := .agg #[.int .i64 L, .int .i64 X, .slice oo i oc]) (by simp [results, Tryz.results9, go_sem, k0, k1, k2]) rfl ⟨⟨_, rfl, z1⟩, z2⟩
    have HBw : Hid (Below w.heap.size w wo) := Lib.hid (HB0.out.trans (HT.out.belowN HB0.out.size (fun y hy => by simp at hy; omega)))
    obtain ⟨b, o, rfl, hA⟩ := (HR.out.below HBw.out) i (by rw [HL.out]; exact hlt)
    obtain ⟨r, rc, x0, x1, x2, x3, x4, x5⟩ := hA i (by rw [HL.out]; exact hlt)
    rw [show C.parts.getD i ⟨0, false, []⟩ = C.part i from rfl] at x0 x1 x2 x3 x4
    have hfi := HF.out i hlt
    obtain ⟨E, hE⟩ : ∃ E, C.part i = E := ⟨_, rfl⟩
    rw [hE] at x0 x1 x2 x3 x4 hfi
    have HEE := Lib.hid hE
    have HRE := Lib.hid x3
    obtain ⟨lv, hlv⟩ : ∃ lv, E.level = lv := ⟨_, rfl⟩
    obtain ⟨sp, hsp⟩ : ∃ sp, E.special = sp := ⟨_, rfl⟩
    obtain ⟨m, hm⟩ : ∃ m, E.rows.length = m := ⟨_, rfl⟩
    rw [hlv] at x0
    rw [hsp] at x1
    rw [hm] at x2 x4 hfi
    have HM := Lib.hid (And.intro hlv (And.intro hsp hm))
    have HFI := Lib.hid hfi
    have hm1 := hfi.1
    have lb : b < wo.heap.size := World.block_lt_of_cell? wo _ x0
    have i0 : (0 : Int) ≤ (i : Int) := Int.natCast_nonneg _
    have i1 : (i : Int) < (n : Int) := by omega
    have HK5 : Hid (∀ w', Below wo.heap.size wo w' → (w'.cell? ⟨w.heap.size, 2, none⟩ = some (.slice (some ⟨b, o, none⟩) n cA) ∧ w'.cell? ⟨b, o + i * 3, none⟩ = some (.int .i64 lv) ∧ w'.cell? ⟨b, o + i * 3 + 1, none⟩ = some (.bool sp)) ∧ w'.cell? ⟨b, o + i * 3 + 2, none⟩ = some (.slice r m rc)) := Lib.hid (fun w' hb => by
      have t : ∀ {a : Addr} {v : Value}, wo.cell? a = some v → w'.cell? a = some v := fun {a v} h => (hb.cell (World.block_lt_of_cell? wo _ h)).trans h
      exact ⟨⟨t a2, t x0, t x1⟩, t x2⟩)
    have HSR := Lib.hid hsr
    clear hA x0 x1 x2 x3 hfi hE hlv hsp hm hbA a0 a1 e0 e1 e2
    go_wp2
    have hS : (fun w' : World => w'.cell? ⟨w.heap.size, 2, none⟩ = some (.slice (some ⟨b, o, none⟩) n cA) ∧ w'.cell? ⟨b, o + i * 3, none⟩ = some (.int .i64 lv) ∧ w'.cell? ⟨b, o + i * 3 + 1, none⟩ = some (.bool sp)) wo.drew := (HK5.out _ ((Below.refl _ _).drew)).1
    refine wp_region_L (fun w' => w'.cell? ⟨w.heap.size, 2, none⟩ = some (.slice (some ⟨b, o, none⟩) n cA) ∧ w'.cell? ⟨b, o + i * 3, none⟩ = some (.int .i64 lv) ∧ w'.cell? ⟨b, o + i * 3 + 1, none⟩ = some (.bool sp)) 15 (by kernel_rfl) (by kernel_rfl) (by kernel_rfl) ?_
    refine tJ 0 (v := ?_) (by assumption) ?_ ?_
    rotate_left
    · (intro w h; (try dsimp only at h); go_simp; try with_reducible rfl)
    try simp only [Act.put, gA, gB, gC, sA, sB, sC]
    refine tJ 1 (v := ?_) (by assumption) ?_ ?_
    rotate_left
    · (intro w h; (try dsimp only at h); go_simp; try with_reducible rfl)
    try simp only [Act.put, gA, gB, gC, sA, sB, sC]
    refine tJ 2 (v := ?_) (by assumption) ?_ ?_
    rotate_left
    · (intro w h; (try dsimp only at h); go_simp; try with_reducible rfl)
    try simp only [Act.put, gA, gB, gC, sA, sB, sC]
    refine tJ 3 (v := ?_) (by assumption) ?_ ?_
    rotate_left
    · (intro w h; (try dsimp only at h); go_simp; try with_reducible rfl)
    try simp only [Act.put, gA, gB, gC, sA, sB, sC]
    refine tJ 4 (v := ?_) (by assumption) ?_ ?_
    rotate_left
    · (intro w h; (try dsimp only at h); go_simp; try with_reducible rfl)
    try simp only [Act.put, gA, gB, gC, sA, sB, sC]
    refine tJ 5 (v := ?_) (by assumption) ?_ ?_
    rotate_left
    · (intro w h; (try dsimp only at h); go_simp; try with_reducible rfl)
    try simp only [Act.put, gA, gB, gC, sA, sB, sC]
    refine tJ 6 (v := ?_) (by assumption) ?_ ?_
    rotate_left
    · (intro w h; (try dsimp only at h); go_simp; try with_reducible rfl)
    try simp only [Act.put, gA, gB, gC, sA, sB, sC]
    refine tJ 7 (v := ?_) (by assumption) ?_ ?_
    rotate_left
    · (intro w h; (try dsimp only at h); go_simp; try with_reducible rfl)
    try simp only [Act.put, gA, gB, gC, sA, sB, sC]
    refine tJ 8 (v := ?_) (by assumption) ?_ ?_
    rotate_left
    · (intro w h; (try dsimp only at h); go_simp; try with_reducible rfl)
    try simp only [Act.put, gA, gB, gC, sA, sB, sC]
    refine tJ 9 (v := ?_) (by assumption) ?_ ?_
    rotate_left
    · (intro w h; (try dsimp only at h); go_simp; try with_reducible rfl)
    try simp only [Act.put, gA, gB, gC, sA, sB, sC]
    refine tJ 10 (v := ?_) (by assumption) ?_ ?_
    rotate_left
    · (intro w h; (try dsimp only at h); go_simp; try with_reducible rfl)
    try simp only [Act.put, gA, gB, gC, sA, sB, sC]
    refine tJ 11 (v := ?_) (by assumption) ?_ ?_
    rotate_left
    · (intro w h; (try dsimp only at h); go_simp; try with_reducible rfl)
    try simp only [Act.put, gA, gB, gC, sA, sB, sC]
    refine tJ 12 (v := ?_) (by assumption) ?_ ?_
    rotate_left
    · (intro w h; (try dsimp only at h); go_simp; try with_reducible rfl)
    try simp only [Act.put, gA, gB, gC, sA, sB, sC]
    refine wpL.eff 13 rfl (by kernel_rfl) rfl ?_
    intro K hK
    go_wp2
    refine hK _ _ ((HK5.out _ (by with_reducible (repeat first | exact bR _ _ | assumption | exact ho (by assumption) | refine bD ?_ | refine bN ?_ _ | refine bA ?_ ?_ _ | refine bS ?_ ?_ _) <;> (first | omega | (simp <;> omega)))).1) (fun hS => ?_)
    clear hK
    try simp only [Act.put, gA, gB, gC, sA, sB, sC]
    refine wpL.eff 14 rfl (by kernel_rfl) rfl ?_
    intro K hK
    go_wp2
    refine hK _ _ ((HK5.out _ (by with_reducible (repeat first | exact bR _ _ | assumption | exact ho (by assumption) | refine bD ?_ | refine bN ?_ _ | refine bA ?_ ?_ _ | refine bS ?_ ?_ _) <;> (first | omega | (simp <;> omega)))).1) (fun hS => ?_)
    clear hK
    try simp only [Act.put, gA, gB, gC, sA, sB, sC]
    refine wpL.done (by kernel_rfl) ?_
    refine gen_w _ _ (fun Wp hWp => ?_)
    obtain ⟨d, hd⟩ : ∃ d, wo.heap.size = d := ⟨_, rfl⟩
    rw [hd]
    have HBp : Hid (Below wo.heap.size wo Wp) := Lib.hid (by rw [hWp]; exact (by with_reducible (repeat first | exact bR _ _ | assumption | exact ho (by assumption) | refine bD ?_ | refine bN ?_ _ | refine bA ?_ ?_ _ | refine bS ?_ ?_ _) <;> (first | omega | (simp <;> omega))))
    have HDp : Hid (Blk Wp d 54 #[.int .i64 lv, .bool sp, .slice none 0 0]) := Lib.hid (by rw [hWp, ← hd]; exact Blk.new _ _ _)
    have hsp1 : Wp.heap.size = d + 1 := by rw [hWp, ← hd]; simp
    have HSP := Lib.hid (And.intro hd hsp1)
    have lbd : b < d := by omega
    have lbd2 : w.heap.size + 1 + 1 < d := by omega
    clear hS hWp hsp1 a2
    go_wp2
    go_loopg [6] m (fun fu v6 wr => ∃ (k : Nat) (ro : Option Addr) (c2 : Nat), v6 = .int .i64 k ∧ k ≤ m ∧ m - k ≤ fu ∧ Hid (Blk wr d 54 #[.int .i64 lv, .bool sp, .slice ro k c2]) ∧ Hid (OwR wr Wp.heap.size (.slice ro k c2) (E.rows.take k)) ∧ Hid (Turn Wp wr [d]))
    case atStart => exact ⟨0, none, 0, rfl, by omega, by omega, HDp, Lib.hid (OwR.nil _ _), Lib.hid (Turn.refl _ _)⟩
    case round =>
      obtain ⟨k, ro, c2, rfl, hk, hfu2, HD, HOR, HTq⟩ := hrel
      have hsq := HTq.out.size
      have HBq : Hid (Below wo.heap.size wo wr) := Lib.hid (HBp.out.trans (HTq.out.belowN HBp.out.size (fun y hy => by have := HSP.out.1; simp at hy; omega)))
      obtain ⟨⟨a2, x0, x1⟩, x2⟩ := HK5.out _ HBq.out
      obtain ⟨d0, d1, d2⟩ := el_cells HD.out
      have g2 := HD.out.free 2
      by_cases hkl : k < m
      case neg =>
        obtain rfl : k = m := by omega
        obtain ⟨oe0, oe1, oe2⟩ := el_cells (HO.out.below HBq.out)
        have of2 := (HO.out.below HBq.out).free 2
        have HAP : Hid (∃ oo4 oc4 w5, (Builtin.append_ #[26, 26] 26 #[.slice oo i oc, .slice (some ⟨wr.heap.size, 0, none⟩) 1 1]).run Tryz.prog (wr.alloc (.cells #[.int .i64 lv, .bool sp, .slice ro k c2] 54)) = .ok (.slice oo4 (i + 1) oc4) w5 ∧
            Blk w5 (w.heap.size + 1 + 1) 28 #[.int .i64 L, .int .i64 X, .slice oo i oc] ∧ Hid (OwE w5 W0.heap.size (.slice oo4 (i + 1) oc4) (C.parts.take (i + 1))) ∧ Hid (Turn W0 w5 [w.heap.size + 1 + 1])) := Lib.hid (by
          have hal : Below wr.heap.size wr (wr.alloc (.cells #[.int .i64 lv, .bool sp, .slice ro k c2] 54)) := (Below.refl _ _).alloc (Nat.le_refl _) _
          have hq := HBq.out.size
          have hOq : OwR wr W0.heap.size (.slice ro E.rows.length c2) E.rows := by
            have h := HOR.out
            rw [List.take_of_length_le (by rw [HM.out.2.2]; exact Nat.le_refl _)] at h
            rw [HM.out.2.2]
            exact h.mono (by have := HSP.out; have := HSR.out; omega)
          obtain ⟨v', w5, hrun, hO5, hB5, hT5⟩ := ((HE.out.below HBq.out).below hal).append (by have := HSR.out; simp; omega) (by rw [take_len _ _ (by rw [HL.out]; omega)]; omega) wr.heap.size 1 E ro c2 (by rw [HM.out.1, HM.out.2.1, HM.out.2.2]; exact Blk.new _ _ _) (OwR.give (hOq.below hal)).1 (OwR.give (hOq.below hal)).2.1 (OwR.give (hOq.below hal)).2.2
          obtain ⟨oo4, oc4, rfl, _, _, _⟩ := hO5.shape
          have hl4 : (C.parts.take i ++ [E]).length = i + 1 := by rw [List.length_append, take_len _ _ (by rw [HL.out]; omega)]; rfl
          have ht4 : C.parts.take (i + 1) = C.parts.take i ++ [E] := by rw [take_snoc _ ⟨0, false, []⟩ _ (by rw [HL.out]; exact hlt), ← HEE.out]; rfl
          rw [hl4] at hrun hO5
          rw [← ht4] at hO5
          refine ⟨oo4, oc4, w5, hrun, (hB5.block _ hz1).trans ((HO.out.below HBq.out).below hal), Lib.hid hO5, Lib.hid (HT.out.low (((HBq.out.mono HSR.out).trans (hal.mono (by have := HSR.out; omega))).trans hB5) (Nat.le_refl _))⟩)
        obtain ⟨oo4, oc4, w5, hrun, hbk5, HO5, HT5⟩ := HAP.out
        obtain ⟨p0, p1, p2⟩ := el_cells hbk5
        have pf := hbk5.free 2
        have HBK5 := Lib.hid hbk5
        clear hbk5 HAP
        go_wp2_with (at_builtin; refine Lib.wpList_append_run _ rfl (.tmp 59) (.tmp 61) 26 26 rfl _ _ rfl rfl _ _ hrun ?_)
        clear hrun
        go_roundg (n - (i + 1))
        case measure => omega
        case rel => exact ⟨i + 1, oo4, oc4, by go_num, by omega, Nat.le_refl _, Lib.hid (HBK5.out.set 2 _), Lib.hid (HO5.out.turn (S := [w.heap.size + 1 + 1]) ((Turn.refl w5 _).setCell (p := ⟨w.heap.size + 1 + 1, 2, none⟩) (.inl (by simp)) _) (fun x hx => by simp at hx; omega)), Lib.hid (HT5.out.setCell (p := ⟨w.heap.size + 1 + 1, 2, none⟩) (.inl (by simp)) _)⟩
      obtain ⟨br, or, rfl, hrr⟩ := (HRE.out.below HBq.out) k (by rw [HM.out.2.2]; exact hkl)
      obtain ⟨rr, rrc, y0, y1, y2⟩ := hrr k (by rw [HM.out.2.2]; exact hkl)
      have hlen : (E.rows.getD k []).length ≤ 1000000 := HFI.out.2 k hkl
      obtain ⟨row, hrow⟩ : ∃ row, E.rows.getD k [] = row := ⟨_, rfl⟩
      rw [hrow] at y0 y1 y2 hlen
      have HLW := Lib.hid (fun (w' : World) (hb : Below wr.heap.size wr w') => (lendWords_walk rr rrc row w' hlen (y1.below hb)).mono (fun e w2 h => (show (∃ vo vc, e = .returned (.slice vo row.length vc) ∧ PutWords w'.heap.size row (.slice vo row.length vc) w2) ∧ Below w'.heap.size w' w2 from by
        obtain ⟨⟨v, h1, h2⟩, h3⟩ := h
        obtain ⟨vo, vc, rfl, h4⟩ := h2
        exact ⟨⟨vo, vc, h1, vo, vc, rfl, h4⟩, h3⟩)))
      obtain ⟨br', or', ebr, hrr0⟩ := HRE.out k (by rw [HM.out.2.2]; exact hkl)
      cases ebr
      obtain ⟨_, _, yy, _⟩ := hrr0 k (by rw [HM.out.2.2]; exact hkl)
      have lbr : br < d := by have := HSP.out.1; have : br < wo.heap.size := World.block_lt_of_cell? wo _ yy; omega
      clear hrr0 yy
      have HROW := Lib.hid hrow
      obtain ⟨len, hlen'⟩ : ∃ len, row.length = len := ⟨_, rfl⟩
      rw [hlen'] at y0 HLW hlen
      have HLN := Lib.hid hlen'
      have k0 : (0 : Int) ≤ (k : Int) := Int.natCast_nonneg _
      have k1 : (k : Int) < (m : Int) := by omega
      have HK9 : Hid (∀ w', Below wr.heap.size wr w' → w'.cell? ⟨d, 2, none⟩ = some (.slice ro k c2) ∧ w'.cell? ⟨w.heap.size, 2, none⟩ = some (.slice (some ⟨b, o, none⟩) n cA) ∧ w'.cell? ⟨b, o + i * 3 + 2, none⟩ = some (.slice (some ⟨br, or, none⟩) m rc) ∧ w'.cell? ⟨br, or + k, none⟩ = some (.slice rr len rrc)) := Lib.hid (fun w' hb => by
        have t : ∀ {a : Addr} {v : Value}, wr.cell? a = some v → w'.cell? a = some v := fun {a v} h => (hb.cell (World.block_lt_of_cell? wr _ h)).trans h
        exact ⟨t d2, t a2, t x2, t y0⟩)
      have HAP : Hid (∀ w4 v, PutWords wr.heap.size row v w4 → Below wr.heap.size wr w4 → ∃ ro4 c4 w5, (Builtin.append_ #[52, 52] 52 #[.slice ro k c2, .slice (some ⟨w4.heap.size, 0, none⟩) 1 1]).run Tryz.prog (w4.alloc (.cells #[v] 23)) = .ok (.slice ro4 (k + 1) c4) w5 ∧
          Blk w5 d 54 #[.int .i64 lv, .bool sp, .slice ro k c2] ∧ Hid (OwR w5 Wp.heap.size (.slice ro4 (k + 1) c4) (E.rows.take (k + 1))) ∧ Hid (Turn Wp w5 [d]) ∧ w5.cell? ⟨d, 2, none⟩ = some (.slice ro k c2) ∧ w5.cell? ⟨w.heap.size, 2, none⟩ = some (.slice (some ⟨b, o, none⟩) n cA) ∧ w5.cell? ⟨b, o + i * 3 + 2, none⟩ = some (.slice (some ⟨br, or, none⟩) m rc) ∧ w5.cell? ⟨br, or + k, none⟩ = some (.slice rr len rrc)) := Lib.hid (fun w4 v hv hb4 => by
        obtain ⟨ro', rc', rfl, v1, v2, v3, v4⟩ := hv
        have hs4 := hb4.size
        have hal : Below w4.heap.size w4 (w4.alloc (.cells #[.slice ro' row.length rc'] 23)) := (Below.refl _ _).alloc (Nat.le_refl _) _
        have hdlt : d < wr.heap.size := HD.out.lt
        obtain ⟨v', w5, hrun, hO5, hB5, hT5⟩ := ((HOR.out.below hb4).below hal).append (by simp; omega) (by rw [take_len _ _ (by rw [HM.out.2.2]; omega)]; omega) 52 ⟨w4.heap.size, 0, none⟩ 1 ro' rc' row ((Blk.new w4 _ _).cell 0) (v1.below hal) v2 (fun a ha => by
          obtain ⟨u1, u2⟩ := v4 a ha
          obtain ⟨vals, ho1, hg1, _⟩ := HOR.out
          refine ⟨fun kk => ?_, u1.below hal, by omega⟩
          have := hg1 _ kk
          omega)
        obtain ⟨ro4, c4, rfl, _, _, _⟩ := hO5.shape
        have hl4 : (E.rows.take k ++ [row]).length = k + 1 := by rw [List.length_append, take_len _ _ (by rw [HM.out.2.2]; omega)]; rfl
        have ht4 : E.rows.take (k + 1) = E.rows.take k ++ [row] := by rw [take_snoc _ [] _ (by rw [HM.out.2.2]; exact hkl), HROW.out]
        rw [hl4] at hrun hO5
        rw [← ht4] at hO5
        have hw := HSP.out.2
        refine ⟨ro4, c4, w5, hrun, (hB5.block _ (by omega)).trans ((HD.out.below hb4).below hal), Lib.hid hO5, Lib.hid (HTq.out.low (((hb4.mono hsq).trans (hal.mono (by omega))).trans hB5) (Nat.le_refl _)), ?_⟩
        have t : ∀ {a : Addr} {u : Value}, (w4.alloc (.cells #[.slice ro' row.length rc'] 23)).cell? a = some u → a.block < Wp.heap.size → w5.cell? a = some u := fun {a u} h hh => (hB5.cell hh).trans h
        obtain ⟨s1, s2, s3, s4⟩ := HK9.out _ (hb4.alloc hb4.size (.cells #[.slice ro' row.length rc'] 23))
        exact ⟨t s1 (by simp only; omega), t s2 (by simp only; omega), t s3 (by simp only; omega), t s4 (by simp only; omega)⟩)
      clear hrr y1 y2 hrow hlen' x0 x1 d0 d1
      go_wp2
      have hS : (fun w' : World => w'.cell? ⟨d, 2, none⟩ = some (.slice ro k c2) ∧ w'.cell? ⟨w.heap.size, 2, none⟩ = some (.slice (some ⟨b, o, none⟩) n cA) ∧ w'.cell? ⟨b, o + i * 3 + 2, none⟩ = some (.slice (some ⟨br, or, none⟩) m rc) ∧ w'.cell? ⟨br, or + k, none⟩ = some (.slice rr len rrc)) wr.drew := HK9.out _ ((Below.refl _ _).drew)
      refine wp_region_L (fun w' => w'.cell? ⟨d, 2, none⟩ = some (.slice ro k c2) ∧ w'.cell? ⟨w.heap.size, 2, none⟩ = some (.slice (some ⟨b, o, none⟩) n cA) ∧ w'.cell? ⟨b, o + i * 3 + 2, none⟩ = some (.slice (some ⟨br, or, none⟩) m rc) ∧ w'.cell? ⟨br, or + k, none⟩ = some (.slice rr len rrc)) 15 (by kernel_rfl) (by kernel_rfl) (by kernel_rfl) ?_
      refine tJ 0 (v := ?_) (by assumption) ?_ ?_
      rotate_left
      · (intro w h; (try dsimp only at h); go_simp; try with_reducible rfl)
      try simp only [Act.put, gA, gB, gC, sA, sB, sC]
      refine tJ 1 (v := ?_) (by assumption) ?_ ?_
      rotate_left
      · (intro w h; (try dsimp only at h); go_simp; try with_reducible rfl)
      try simp only [Act.put, gA, gB, gC, sA, sB, sC]
      refine tJ 2 (v := ?_) (by assumption) ?_ ?_
      rotate_left
      · (intro w h; (try dsimp only at h); go_simp; try with_reducible rfl)
      try simp only [Act.put, gA, gB, gC, sA, sB, sC]
      refine tJ 3 (v := ?_) (by assumption) ?_ ?_
      rotate_left
      · (intro w h; (try dsimp only at h); go_simp; try with_reducible rfl)
      try simp only [Act.put, gA, gB, gC, sA, sB, sC]
      refine tJ 4 (v := ?_) (by assumption) ?_ ?_
      rotate_left
      · (intro w h; (try dsimp only at h); go_simp; try with_reducible rfl)
      try simp only [Act.put, gA, gB, gC, sA, sB, sC]
      refine tJ 5 (v := ?_) (by assumption) ?_ ?_
      rotate_left
      · (intro w h; (try dsimp only at h); go_simp; try with_reducible rfl)
      try simp only [Act.put, gA, gB, gC, sA, sB, sC]
      refine tJ 6 (v := ?_) (by assumption) ?_ ?_
      rotate_left
      · (intro w h; (try dsimp only at h); go_simp; try with_reducible rfl)
      try simp only [Act.put, gA, gB, gC, sA, sB, sC]
      refine tJ 7 (v := ?_) (by assumption) ?_ ?_
      rotate_left
      · (intro w h; (try dsimp only at h); go_simp; try with_reducible rfl)
      try simp only [Act.put, gA, gB, gC, sA, sB, sC]
      refine tJ 8 (v := ?_) (by assumption) ?_ ?_
      rotate_left
      · (intro w h; (try dsimp only at h); go_simp; try with_reducible rfl)
      try simp only [Act.put, gA, gB, gC, sA, sB, sC]
      refine tJ 9 (v := ?_) (by assumption) ?_ ?_
      rotate_left
      · (intro w h; (try dsimp only at h); go_simp; try with_reducible rfl)
      try simp only [Act.put, gA, gB, gC, sA, sB, sC]
      refine tJ 10 (v := ?_) (by assumption) ?_ ?_
      rotate_left
      · (intro w h; (try dsimp only at h); go_simp; try with_reducible rfl)
      try simp only [Act.put, gA, gB, gC, sA, sB, sC]
      refine wpL.eff 11 rfl (by kernel_rfl) rfl ?_
      intro K hK
      go_wp2_with fail
      (with_reducible refine Calls.mono (HLW.out _ (by with_reducible (repeat first | exact bR _ _ | assumption | exact ho (by assumption) | refine bD ?_ | refine bN ?_ _ | refine bA ?_ ?_ _ | refine bS ?_ ?_ _) <;> (first | omega | (simp <;> omega)))) ?_)
      rintro e w4 ⟨⟨vo, vc, rfl, hv⟩, hb4⟩
      have HB4 : Hid (Below wr.heap.size wr w4) := Lib.hid (below_step' (by with_reducible (repeat first | exact bR _ _ | assumption | exact ho (by assumption) | refine bD ?_ | refine bN ?_ _ | refine bA ?_ ?_ _ | refine bS ?_ ?_ _) <;> (first | omega | (simp <;> omega))) hb4)
      obtain ⟨ro4, c4, w5, hrun, hbk5, HO5, HT5, hS5⟩ := HAP.out w4 (.slice vo len vc) (by rw [← HLN.out] at hv ⊢; exact hv) HB4.out
      have pf := hbk5.free 2
      have HBK5 := Lib.hid hbk5
      have hs4 := HB4.out.size
      clear hb4 hv hbk5
      refine hK _ _ (HK9.out _ (by with_reducible (repeat first | exact bR _ _ | assumption | exact ho (by assumption) | refine bD ?_ | refine bN ?_ _ | refine bA ?_ ?_ _ | refine bS ?_ ?_ _) <;> (first | omega | (simp <;> omega)))) (fun hS => ?_)
      clear hK
      try simp only [Act.put, gA, gB, gC, sA, sB, sC]
      refine wpL.eff 12 rfl (by kernel_rfl) rfl ?_
      intro K hK
      go_wp2
      refine hK _ _ (HK9.out _ (by with_reducible (repeat first | exact bR _ _ | assumption | exact ho (by assumption) | refine bD ?_ | refine bN ?_ _ | refine bA ?_ ?_ _ | refine bS ?_ ?_ _) <;> (first | omega | (simp <;> omega)))) (fun hS => ?_)
      clear hK
      try simp only [Act.put, gA, gB, gC, sA, sB, sC]
      refine wpL.eff 13 rfl (by kernel_rfl) rfl ?_
      intro K hK
      refine wp_append_run (.tmp 44) (.tmp 55) 52 rfl _ _ rfl rfl _ _ hrun ?_
      refine hK _ _ (hS5) (fun hS => ?_)
      clear hK
      try simp only [Act.put, gA, gB, gC, sA, sB, sC]
      refine tJ 14 (v := ?_) (by assumption) ?_ ?_
      rotate_left
      · (intro w h; (try dsimp only at h); go_simp; try with_reducible rfl)
      try simp only [Act.put, gA, gB, gC, sA, sB, sC]
      clear hS
      refine wpL.last 15 rfl (by kernel_rfl) rfl (by kernel_rfl) rfl ?_
      clear hrun
      obtain ⟨s1, s2, s3, s4⟩ := hS5
      go_wp2
      go_roundg (m - (k + 1))
      case measure => omega
      case rel => exact ⟨k + 1, ro4, c4, by go_num, by omega, Nat.le_refl _, Lib.hid (HBK5.out.set 2 _), Lib.hid (HO5.out.turn (S := [d]) ((Turn.refl w5 _).setCell (p := ⟨d, 2, none⟩) (.inl (by simp)) _) (fun x hx => by have := HSP.out; simp at hx; omega)), Lib.hid (HT5.out.setCell (p := ⟨d, 2, none⟩) (.inl (by simp)) _)⟩
end Go.Proofs.YtcipjbckcnkfaaaGreat
