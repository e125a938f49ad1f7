/- Ciphertexts as the rows lay them. -/
import Derived.Test.YtcipjbckcnkfaaaGreatPs21
import Derived.Test.YtcipjbckcnkfaaaGreatPs35
set_option linter.unusedSimpArgs false
set_option linter.unusedVariables false
namespace Go.Proofs.YtcipjbckcnkfaaaGreat
open Go.ChangeShapes Go.WideShapes Go.ChangeAt Go.RowKit Go.Deep Go.Joins

theorem choose_list {α : Type} (d : α) (n : Nat) (Q : Nat → α → Prop) (h : ∀ i, i < n → ∃ x, Q i x) : ∃ l : List α, l.length = n ∧ ∀ i, i < n → Q i (l.getD i d) := by
  induction n with
  | zero => exact ⟨[], rfl, fun i hi => by omega⟩
  | succ n ih =>
    obtain ⟨l, hl, hq⟩ := ih (fun i hi => h i (by omega))
    obtain ⟨x, hx⟩ := h n (by omega)
    refine ⟨l ++ [x], by simp [hl], fun i hi => ?_⟩
    rcases Nat.lt_or_ge i n with q | q
    · rw [List.getD_eq_getElem?_getD, List.getElem?_append_left (by omega), ← List.getD_eq_getElem?_getD]
      exact hq i q
    · obtain rfl : i = n := by omega
      rw [List.getD_eq_getElem?_getD, List.getElem?_append_right (by omega)]
      simpa [hl] using hx
section
variable {H : Type} {enc : TypeId × Value → H} {w : World} {base : Nat} {spare : Nat → Bool} {held : Bool} {fuel : Nat} {x : DataW H × List MemPlace} {v : Value}
/-- The elements of a list that came in, one by one. -/
theorem slice_in {t e : TypeId} {k : Nat} (ht : Tryz.prog.underlying t = some (.slice e)) (hk : Tryz.prog.cellsOf e = k) (hk0 : 0 < k) (h : DataW.trod enc Tryz.prog w base spare held fuel t [v] = some x) :
    ∃ ao len cap, v = .slice ao len cap ∧ len ≤ cap ∧ cap ≤ maxLen ∧ ∃ n, ∀ i, i < len → ∃ b o cs y, ao = some ⟨b, o, none⟩ ∧ cs.length = k ∧ (∀ j, j < k → w.cell? ⟨b, o + i * k + j, none⟩ = cs[j]?) ∧ DataW.trod enc Tryz.prog w base spare held n e cs = some y := by
  rcases DataW.trod_slice ht h with ⟨h0, _⟩ | ⟨a, len, cap, elems, rest, n, _, h0, _, hb, hl, hm, hlen, hel, _⟩
  · exact ⟨none, 0, 0, by simpa using h0, by omega, by omega, 0, fun i hi => by omega⟩
  · have hv : v = .slice (some a) len cap := by simpa using h0
    rw [hk] at hel
    refine ⟨some a, len, cap, hv, hl, hm, n, fun i hi => ?_⟩
    have h2 := hel i hi
    rw [List.getElem?_eq_getElem (by omega)] at h2
    obtain ⟨cs, h3, h4⟩ := Option.bind_eq_some_iff.1 h2
    obtain ⟨_, h5, h6⟩ := World.cells?_some h3
    have ha : a = ⟨a.block, a.off, none⟩ := by
      have h2' := hel 0 (by omega)
      rw [List.getElem?_eq_getElem (by omega)] at h2'
      obtain ⟨cs', h3', _⟩ := Option.bind_eq_some_iff.1 h2'
      obtain ⟨_, h5', h6'⟩ := World.cells?_some h3'
      have h7 := h6' 0 hk0
      rw [List.getElem?_eq_getElem (by omega), Nat.zero_mul] at h7
      exact addr_of_cell h7
    refine ⟨a.block, a.off, cs, _, by rw [← ha], h5, fun j hj => ?_, h4⟩
    have h7 := h6 j hj
    rw [ha, add_zero_addr, add_zero_addr] at h7
    exact h7
/-- Rows that came in. -/
theorem rows_in (h : DataW.trod enc Tryz.prog w base spare held fuel 52 [v] = some x) :
    ∃ (ao : Option Addr) (c : Nat) (rows : List (List Nat)), v = .slice ao rows.length c ∧ rows.length ≤ c ∧ c ≤ maxLen ∧ RdR w ao rows ∧ ∀ i, i < rows.length → (rows.getD i []).length ≤ 9223372036854775807 ∧ ∀ j, j < (rows.getD i []).length → (rows.getD i []).getD j 0 ≤ 4294967295 := by
  obtain ⟨ao, len, cap, rfl, hl, hm, n, hel⟩ := slice_in Tryz.underlying52 (k := 1) (by kernel_rfl) (by omega) h
  have hq : ∀ i, i < len → ∃ l : List Nat, (∃ b o r c, ao = some ⟨b, o, none⟩ ∧ w.cell? ⟨b, o + i, none⟩ = some (.slice r l.length c) ∧ Rd w r l ∧ l.length ≤ c ∧ c ≤ maxLen) ∧ ∀ j, j < l.length → l.getD j 0 ≤ 4294967295 := fun i hi => by
    obtain ⟨b, o, cs, y, e, h1, h2, h3⟩ := hel i hi
    match cs, h1 with
    | [c0], _ =>
      obtain ⟨r, c, l, rfl, _, h5, h6, h7, h8⟩ := words_in h3
      have := h2 0 (by omega)
      simp only [Nat.mul_one, Nat.add_zero, List.getElem?_cons_zero] at this
      exact ⟨l, ⟨b, o, r, c, e, this, h7, h5, h6⟩, h8⟩
  obtain ⟨rows, hrl, hrq⟩ := choose_list [] len _ hq
  refine ⟨ao, cap, rows, by rw [hrl], by omega, hm, fun k hk => ?_, fun i hi => ?_⟩
  · obtain ⟨⟨b, o, _, _, rfl, _⟩, _⟩ := hrq k (by omega)
    refine ⟨b, o, rfl, fun j hj => ?_⟩
    obtain ⟨⟨b', o', r, c, e, h1, h2, h3, h4⟩, _⟩ := hrq j (by omega)
    cases e
    exact ⟨r, c, h1, h2, h3⟩
  · obtain ⟨⟨_, _, _, _, _, _, _, h3, h4⟩, h5⟩ := hrq i (by omega)
    unfold maxLen at h4
    exact ⟨by omega, h5⟩
set_option maxRecDepth 100000 in
/-- An element that came in, in three cells. -/
theorem elem_in {cs : List Value} (h : DataW.trod enc Tryz.prog w base spare held fuel 54 cs = some x) :
    ∃ (E : El) (ro : Option Addr) (rc : Nat), cs = [.int .i64 E.level, .bool E.special, .slice ro E.rows.length rc] ∧ RdR w ro E.rows ∧ E.rows.length ≤ rc ∧ rc ≤ 9223372036854775807 ∧ ElFit E := by
  obtain ⟨xs, n, _, _, hl, hlen, hf⟩ := DataW.trod_struct Tryz.underlying54 h
  have hl3 : cs.length = 3 := hl.trans (by kernel_rfl)
  match cs, hl3 with
  | [c0, c1, c2], _ =>
    match xs, hlen with
    | [y0, y1, y2], _ =>
      have f0 := hf 0 _ rfl
      have f1 := hf 1 _ rfl
      have f2 := hf 2 _ rfl
      have g0 : DataW.trod enc Tryz.prog w base spare held n 3 [c0] = some y0 := by
        have e : Tryz.prog.cellsOf 3 = 1 := by kernel_rfl
        simpa [e] using f0
      have g1 : DataW.trod enc Tryz.prog w base spare held n 4 [c1] = some y1 := by
        have e : Tryz.prog.cellsOf 4 = 1 := by kernel_rfl
        simpa [e] using f1
      have g2 : DataW.trod enc Tryz.prog w base spare held n 52 [c2] = some y2 := by
        have e : Tryz.prog.cellsOf 52 = 1 := by kernel_rfl
        simpa [e] using f2
      obtain ⟨z0, e0, _, w0⟩ := DataW.trod_int Tryz.underlying3 g0
      obtain ⟨z1, e1, _⟩ := DataW.trod_bool Tryz.underlying4 g1
      obtain ⟨ro, rc, rows, rfl, h3, h4, h5, h6⟩ := rows_in g2
      simp at e0 e1
      subst e0 e1
      obtain ⟨a0, b0⟩ := bounds_int w0
      unfold maxLen at h4
      exact ⟨⟨z0, z1, rows⟩, ro, rc, rfl, h5, h3, by omega, ⟨a0, b0, by simp only; omega, h6⟩⟩
set_option maxRecDepth 100000 in
/-- A ciphertext that came in. -/
theorem cipher_in {b0 : Nat} {r : Reach} {d : DataW H} {p : List MemPlace} (hv : Value.okWide Tryz.prog w r b0 28 v) (h : DataW.Trod enc Tryz.prog w base spare held 28 v d p) :
    ∃ (C : Ci) (ao : Option Addr) (c : Nat), v = C.val ao c ∧ CiIn w C ao c := by
  obtain ⟨cs, rfl, hsz⟩ := okWide_struct Tryz.underlying28 hv
  obtain ⟨l⟩ := cs
  have hl3 : l.length = 3 := hsz.trans (by kernel_rfl)
  match l, hl3 with
  | [c0, c1, c2], _ =>
    obtain ⟨fuel, hf0⟩ := h
    obtain ⟨xs, n, _, _, _, hlen, hf⟩ := DataW.trod_struct Tryz.underlying28 hf0
    match xs, hlen with
    | [y0, y1, y2], _ =>
      have f0 := hf 0 _ rfl
      have f1 := hf 1 _ rfl
      have f2 := hf 2 _ rfl
      have ei : Tryz.prog.cellsOf 3 = 1 := by kernel_rfl
      have es : Tryz.prog.cellsOf 26 = 1 := by kernel_rfl
      have g0 : DataW.trod enc Tryz.prog w base spare held n 3 [c0] = some y0 := by simpa [ei, Value.cells] using f0
      have g1 : DataW.trod enc Tryz.prog w base spare held n 3 [c1] = some y1 := by simpa [ei, Value.cells] using f1
      have g2 : DataW.trod enc Tryz.prog w base spare held n 26 [c2] = some y2 := by simpa [es, Value.cells] using f2
      obtain ⟨z0, e0, _, w0⟩ := DataW.trod_int Tryz.underlying3 g0
      obtain ⟨z1, e1, _, w1⟩ := DataW.trod_int Tryz.underlying3 g1
      simp at e0 e1
      subst e0 e1
      obtain ⟨a0, b0⟩ := bounds_int w0
      obtain ⟨a1, b1⟩ := bounds_int w1
      obtain ⟨ao, len, cap, rfl, hl, hm, n2, hel⟩ := slice_in Tryz.underlying26 (k := 3) (by kernel_rfl) (by omega) g2
      have hq : ∀ i, i < len → ∃ E : El, (∃ b o, ao = some ⟨b, o, none⟩ ∧ ElAt w b (o + i * 3) E) ∧ ElFit E := fun i hi => by
        obtain ⟨b, o, cs, y, e, h1, h2, h3⟩ := hel i hi
        obtain ⟨E, ro, rc, rfl, k1, k2, k3, k4⟩ := elem_in h3
        exact ⟨E, ⟨b, o, e, ro, rc, h2 0 (by omega), h2 1 (by omega), h2 2 (by omega), k1, k2, k3⟩, k4⟩
      obtain ⟨parts, hpl, hpq⟩ := choose_list ⟨0, false, []⟩ len _ hq
      unfold maxLen at hm
      have hfit : ∀ i, i < parts.length → ElFit (Ci.part ⟨z0, z1, parts⟩ i) := fun i hi => (hpq i (by omega)).2
      refine ⟨⟨z0, z1, parts⟩, ao, cap, by rw [← hpl], { rd := fun k hk => ?_, l1 := a0, l2 := b0, e1 := a1, e2 := b1, len := by simp only; omega, room := by simp only; omega, room2 := by omega, fit := hfit }⟩
      obtain ⟨⟨b, o, rfl, _⟩, _⟩ := hpq k (by simp only at hk; omega)
      refine ⟨b, o, rfl, fun j hj => ?_⟩
      obtain ⟨⟨b', o', e, h1⟩, _⟩ := hpq j (by simp only at hj; omega)
      cases e
      exact h1
end
end Go.Proofs.YtcipjbckcnkfaaaGreat
