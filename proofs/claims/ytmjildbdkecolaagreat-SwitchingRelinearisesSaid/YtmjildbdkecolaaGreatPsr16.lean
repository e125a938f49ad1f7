/- append and copy. No walk. -/
import Derived.Test.YtmjildbdkecolaaGreatPsr07
set_option linter.unusedSimpArgs false
set_option linter.unusedVariables false
set_option linter.unnecessarySimpa false
namespace Go.Proofs.YtmjildbdkecolaaGreat
open Go.RowKit

/-- Where elements are read from. -/
inductive SrcIs (H : Nat → Option Box) : D → Nat → Nat → (Nat → List D) → List Nat → Prop where
 | fz (q : Bool) (j m : Nat) (g : Nat → List D) : SrcIs H (.fz q j m g) j m g []
 | sl {k n j m : Nat} {g : Nat → List D} (h : isArr (H k) n m g) (hj : j ≤ n) : SrcIs H (.sl k m j) j m g [k]
 | nil (m : Nat) (g : Nat → List D) : SrcIs H (.val (.slice none 0 0)) 0 m g []
section
variable {P : Program} {N : Nat} {o : Oper} {E E1 : Nat → D} {H H1 : Nat → Option Box} {S : Cx} {Z : Zn} {i : Nm} {a : Act} {w w' : World}
theorem SrcIs.agree {d : D} {j m : Nat} {g : Nat → List D} {ks : List Nat} (h : SrcIs H d j m g ks) (hk : ∀ k, k ∈ ks → H1 k = H k) : SrcIs H1 d j m g ks := by
 cases h with
 | fz q => exact .fz q _ _ _
 | sl h hj => exact .sl (by rw [hk _ (by simp)]; exact h) hj
 | nil => exact .nil _ _
theorem SrcIs.elems (hF : Fits S E H Z i a w) {d : D} {j m : Nat} {g : Nat → List D} {ks : List Nat} (h : SrcIs H d j m g ks) {v : Value} (hv : Rep Z w i v d) : ∃ (ao : Option Addr) (cap : Nat) (vs : Nat → Nat → Value), v = .slice ao j cap ∧ j ≤ cap ∧ (∀ e, e < j → (g e).length = m) ∧ ∀ e c, e < j → c < m → ∃ b p, ao = some ⟨b, p, none⟩ ∧ w.cell? ⟨b, p + (e * m + c), none⟩ = some (vs e c) ∧ (vs e c).oneCell' = true ∧ Rep Z w noN (vs e c) (dl (g e) c) := by
 cases h with
 | fz q =>
  cases hv with | fz _ _ ao _ cap _ _ vs h1 h2 hl ha hr =>
  exact ⟨ao, cap, vs, rfl, h1, hl, fun e c he hc => by obtain ⟨b, p, r1, _, r3, r4⟩ := ha e c he hc; exact ⟨b, p, r1, r3, r4, hr e c he hc⟩⟩
 | @sl k n _ _ _ h hj =>
  cases hv with
  | @sl _ b _ _ _ cap hib h1 h2 =>
   obtain ⟨t, cp, hA⟩ := hF.arr h hib
   have hA2 := hA
   obtain ⟨cs, _, _, _, hfl, _⟩ := hA2
   refine ⟨_, cap.c, fun e c => (w.cell? ⟨b, e * m + c, none⟩).getD undef, rfl, h1, fun e he => hfl e (by omega), fun e c he hc => ?_⟩
   obtain ⟨u, u1, u2, u3⟩ := hA.cellAt (e := e) (c := c) (by omega) hc
   refine ⟨b, 0, rfl, ?_, ?_, ?_⟩
   ·simp [u1]
   ·simpa [u1] using u2
   ·simpa [u1] using u3
  | sl0 => exact ⟨none, 0, fun _ _ => undef, rfl, Nat.le_refl _, fun e he => by omega, fun e c he => by omega⟩
 | nil => cases hv; exact ⟨none, 0, fun _ _ => undef, rfl, Nat.le_refl _, fun e he => by omega, fun e c he => by omega⟩
/-- Elements' cells in a row. -/
def rowL (j m : Nat) (vs : Nat → Nat → Value) : List Value := (List.range (j * m)).map fun q => vs (q / m) (q % m)
theorem rowL_len (j m : Nat) (vs : Nat → Nat → Value) : (rowL j m vs).length = j * m := by simp [rowL]
theorem rowL_at {j m e c : Nat} {vs : Nat → Nat → Value} (he : e < j) (hc : c < m) : (rowL j m vs)[e * m + c]? = some (vs e c) := by
 have hlt : e * m + c < j * m := by
  have : (e + 1) * m ≤ j * m := Nat.mul_le_mul_right _ (by omega)
  rw [Nat.add_mul] at this; omega
 rw [rowL, List.getElem?_map, List.getElem?_range hlt]
 have h1 : (e * m + c) / m = e := by rw [Nat.mul_comm, Nat.mul_add_div (by omega), Nat.div_eq_of_lt hc]; omega
 have h2 : (e * m + c) % m = c := by rw [Nat.mul_comm, Nat.mul_add_mod, Nat.mod_eq_of_lt hc]
 simp [h1, h2]
theorem rowL_ind {j m q : Nat} (hq : q < j * m) : ∃ e c, e < j ∧ c < m ∧ q = e * m + c := by
 have hm : 0 < m := by rcases Nat.eq_zero_or_pos m with h | h; subst h; simp at hq; exact h
 exact ⟨q / m, q % m, Nat.div_lt_of_lt_mul (by rw [Nat.mul_comm]; exact hq), Nat.mod_lt _ hm, by rw [Nat.mul_comm]; exact (Nat.div_add_mod q m).symm⟩
theorem append_core {t ty el : TypeId} {info info' : TypeInfo} {d' : TypeDesc} {z : Value} {m : Nat} [hT : TI P t info (.slice el)] [hT' : TI P el info' d'] (hz : info'.zero = some z) (hm : info'.size = m) (hzs : z.cells.size = m) (hms : 0 < m)
  (v : Value) (n : Nat) (xs : List Value) (hown : w.ownsRow 0 el m v n xs) (ao : Option Addr) (j cap : Nat) (vs : Nat → Nat → Value) (hne : j = 0 ∨ ∃ b p, ao = some ⟨b, p, none⟩) (hc : ∀ e c, e < j → c < m → ∃ b p, ao = some ⟨b, p, none⟩ ∧ w.cell? ⟨b, p + (e * m + c), none⟩ = some (vs e c) ∧ (vs e c).oneCell' = true)
  (hb : (n + j) * info'.bytes ≤ 140737488355328) (h63 : n + j ≤ 9223372036854775807) :
  ∃ v' w', (Builtin.append_ #[t, t] ty #[v, .slice ao j cap]).run P w = .ok v' w' ∧ (w'.os = w.os ∧ w'.tape = w.tape ∧ w'.output = w.output ∧ w.heap.size ≤ w'.heap.size) ∧ (∀ b, b < w.heap.size → some b ≠ v.ownBlock → w'.heap[b]? = w.heap[b]?) ∧
   w'.ownsRow 0 el m v' (n + j) (xs ++ rowL j m vs) ∧ (v'.ownBlock = v.ownBlock ∨ v'.ownBlock = some w.heap.size) := by
 cases ao with
 | none =>
  obtain rfl : j = 0 := by rcases hne with h | ⟨b, p, h⟩; exact h; cases h
  have e0 : rowL 0 m vs = [] := by simp [rowL]
  refine ⟨v, w, ?_, ⟨rfl, rfl, rfl, Nat.le_refl _⟩, fun _ _ _ => rfl, by rw [e0, List.append_nil]; exact hown, .inl rfl⟩
  have s1 : (sizeOf el).run P w = .ok m w := by simp [sizeOf, typeInfo, hT'.info, Result.andThen, hm]
  rcases hown.2 with ⟨rfl, rfl⟩ | ⟨g, cap, cur, rfl, _, _, h3, _⟩
  ·simp [Builtin.append_, run_underlying hT.under, s1, Builtin.lenOf, Builtin.firstCells]
  ·simp [Builtin.append_, run_underlying hT.under, s1, Builtin.lenOf, Builtin.firstCells, h3, storeCells]
 | some ad =>
  have hnews : ∀ q u, (rowL j m vs)[q]? = some u → w.cell? (ad.add q) = some u := fun q u hq => by
   have hlt : q < j * m := by have := (List.getElem?_eq_some_iff.1 hq).1; rwa [rowL_len] at this
   obtain ⟨e, c, he, hc', rfl⟩ := rowL_ind hlt
   rw [rowL_at he hc'] at hq
   cases hq
   obtain ⟨b, p, e1, e2, _⟩ := hc e c he hc'
   cases e1
   rw [addr_add]
   exact e2
  have h1 : ∀ u ∈ rowL j m vs, u.oneCell' = true := fun u hu => by
   obtain ⟨q, hq, rfl⟩ := List.mem_map.1 hu
   obtain ⟨e, c, he, hc', rfl⟩ := rowL_ind (List.mem_range.1 hq)
   have e1 : (e * m + c) / m = e := by rw [Nat.mul_comm, Nat.mul_add_div (by omega), Nat.div_eq_of_lt hc']; omega
   have e2 : (e * m + c) % m = c := by rw [Nat.mul_comm, Nat.mul_add_mod, Nat.mod_eq_of_lt hc']
   rw [e1, e2]
   obtain ⟨b, p, _, _, e3⟩ := hc e c he hc'
   exact e3
  obtain ⟨v', w', r1, r2, r3, _, r5⟩ := run_append_own_at (P := P) w 0 t ty el info' z m info'.bytes hT.under hT'.info hz hm rfl hzs hms v n xs hown ad j cap (rowL j m vs) (rowL_len _ _ _) hnews h1 (by unfold maxLen; omega) hb (Nat.zero_le _)
  exact ⟨v', w', r1, ⟨r3.os, r3.tape, r3.output, r3.size⟩, r3.block, r2, r5⟩
theorem run_appendOp {x y : Operand} {t : TypeId} {v' : Value} (ho : o.op = .call { callee := .builtin .append, args := #[x, y], argTypes := #[t, t] }) (h : (Builtin.append_ #[t, t] o.type #[a.eval x, a.eval y]).run P w = .ok v' w') : (execOp a.eval o).run P w = .ok (.value v') w' := by
 simp only [execOp, ho, resolve, invoke, builtin]
 simp [h, Result.andThen]
theorem blt_no {a b : Nat} (h : Nat.blt a b = false) : ¬ a < b := fun q => by rw [← Nat.blt_eq, h] at q; cases q
/-- The old elements, then others. -/
def appF (n : Nat) (f g : Nat → List D) (e : Nat) : List D := match Nat.blt e n with | true => f e | false => g (e - n)
/-- What lies behind an append. -/
theorem own_of_row {v' : Value} {n m j : Nat} {el : TypeId} {f g : Nat → List D} {xs : List Value} {vs : Nat → Nat → Value} {k' : Nat} (hm : 0 < m) (h : w'.ownsRow 0 el m v' (n + j) (xs ++ rowL j m vs)) (hx : ∀ e c, e < n → c < m → ∃ u, xs[e * m + c]? = some u ∧ u.oneCell' = true ∧ Rep Z w' noN u (dl (f e) c)) (hxl : xs.length = n * m) (hfl : ∀ e, e < n → (f e).length = m) (hg : ∀ e c, e < j → c < m → (vs e c).oneCell' = true ∧ Rep Z w' noN (vs e c) (dl (g e) c)) (hgl : ∀ e, e < j → (g e).length = m) :
  ∃ ik, (∀ i' : Nm, i' k' = some ik → Rep Z w' i' v' (.sl k' m (n + j))) ∧ ((ik = none ∧ n + j = 0 ∧ v'.ownBlock = none) ∨ ∃ b cap, ik = some (b, cap) ∧ v'.ownBlock = some b ∧ ArrAt Z w' b cap.c el (n + j) m (appF n f g)) := by
 rcases h.2 with ⟨rfl, h0⟩ | ⟨b, cap, cur, rfl, _, hB, hnc, hml, hcs, htk⟩
 ·refine ⟨none, fun i' hi' => ?_, .inl ⟨rfl, h0, rfl⟩⟩
  rw [h0]; exact .sl0 _ _ _ hi'
 ·refine ⟨some (b, (cap : Cp)), fun i' hi' => .sl _ _ _ _ _ hi' hnc (by show cap ≤ _; unfold maxLen at hml; omega), .inr ⟨b, (cap : Cp), rfl, rfl, cur, hB, hcs, hnc, fun e he => ?_, fun e c he hc => ?_⟩⟩
  ·unfold appF
   cases q : Nat.blt e n with
   | true => exact hfl e (by simpa using q)
   | false => exact hgl _ (by have := blt_no q; omega)
  ·have hlt : e * m + c < (n + j) * m := by
    have : (e + 1) * m ≤ (n + j) * m := Nat.mul_le_mul_right _ (by omega)
    rw [Nat.add_mul] at this; omega
   have e1 : cur.toList[e * m + c]? = (xs ++ rowL j m vs)[e * m + c]? := by rw [← htk, List.getElem?_take, if_pos hlt]
   have e2 : cur.getD (e * m + c) undef = ((xs ++ rowL j m vs)[e * m + c]?).getD undef := by
    rw [← e1, Array.getElem?_toList, Array.getD_eq_getD_getElem?]
   rw [e2]
   unfold appF
   cases q : Nat.blt e n with
   | true =>
    have q' : e < n := by simpa using q
    have : (e + 1) * m ≤ n * m := Nat.mul_le_mul_right _ (by omega)
    rw [Nat.add_mul] at this
    rw [List.getElem?_append_left (by omega)]
    obtain ⟨u, u1, u2, u3⟩ := hx e c q' hc
    rw [u1]; exact ⟨u2, u3⟩
   | false =>
    have q' := blt_no q
    have hge : n * m ≤ e * m := Nat.mul_le_mul_right _ (by omega)
    have hsub : e * m + c - n * m = (e - n) * m + c := by rw [Nat.sub_mul]; omega
    rw [List.getElem?_append_right (by omega), hxl, hsub, rowL_at (by omega) hc]
    exact hg (e - n) c (by omega) hc
theorem SrcIs.hne {ao : Option Addr} {j m : Nat} {vs : Nat → Nat → Value} (hm : 0 < m) (h : ∀ e c, e < j → c < m → ∃ b p, ao = some ⟨b, p, none⟩ ∧ w.cell? ⟨b, p + (e * m + c), none⟩ = some (vs e c) ∧ (vs e c).oneCell' = true) : j = 0 ∨ ∃ b p, ao = some ⟨b, p, none⟩ := by
 rcases Nat.eq_zero_or_pos j with q | q
 ·exact .inl q
 ·obtain ⟨b, p, e, _⟩ := h 0 0 q hm; exact .inr ⟨b, p, e⟩
def goneL : Option Nat → List (Nat × Option Box)
 | some x => [(x, some .gone)]
 | none => []
theorem Fits.appended (hF : Fits S E H Z i a w) {k : Option Nat} {k' : Nat} {el : TypeId} {n m : Nat} {f : Nat → List D} {v v' : Value} {ik : Option (Nat × Cp)} (hk' : H k' = none) (h100 : 1000 ≤ k')
    (hk : ∀ x, k = some x → 1000 ≤ x ∧ ∃ t nb fb, H x = some (.arr t nb m fb)) (hv : ∀ b, v.ownBlock = some b → ∃ x cap, k = some x ∧ i x = some (some (b, cap)))
    (hos : w'.os = w.os ∧ w'.tape = w.tape ∧ w'.output = w.output ∧ w.heap.size ≤ w'.heap.size) (hb : ∀ b, b < w.heap.size → some b ≠ v.ownBlock → w'.heap[b]? = w.heap[b]?) (hvb : v'.ownBlock = v.ownBlock ∨ v'.ownBlock = some w.heap.size)
    (hA : (ik = none ∧ n = 0 ∧ v'.ownBlock = none) ∨ ∃ b cap, ik = some (b, cap) ∧ v'.ownBlock = some b ∧ ArrAt Z w' b cap.c el n m f) :
    Fits S E (updH H ((k', some (.arr el n m f)) :: goneL k)) Z (fun x => if x = k' then some ik else i x) a w' := by
  have hsz := hF.kept.size
  have hkk : ∀ x, k = some x → x ≠ k' := fun x hx e => by obtain ⟨_, t, nb, fb, h⟩ := hk x hx; rw [e, hk'] at h; cases h
  obtain ⟨H2, hH2⟩ : ∃ H2, updH H ((k', some (.arr el n m f)) :: goneL k) = H2 := ⟨_, rfl⟩
  have hHk : H2 k' = some (.arr el n m f) := by rw [← hH2]; simp [updH]
  have hHx : ∀ x, k = some x → H2 x = some .gone := fun x hx => by
    rw [← hH2, hx]; simp only [updH, goneL]; rw [if_neg (Ne.symm (hkk x hx))]; simp
  have hHo : ∀ x, x ≠ k' → k ≠ some x → H2 x = H x := fun x h1 h2 => by
    rw [← hH2]
    simp only [updH]; rw [if_neg (Ne.symm h1)]
    cases k with
    | none => rfl
    | some y => simp only [updH, goneL]; exact if_neg (fun e => h2 (by rw [e]))
  rw [hH2]
  -- the block of the new slice
  have hblk : ∀ b, v'.ownBlock = some b → (∃ x cap, k = some x ∧ i x = some (some (b, cap))) ∨ b = w.heap.size := fun b hb' => by
    rcases hvb with q | q
    · exact .inl (hv b (q ▸ hb'))
    · rw [q] at hb'; cases hb'; exact .inr rfl
  have hbok : ∀ b, v'.ownBlock = some b → (¬ Z true b ∧ (S.w1.heap.size ≤ b ∨ S.M1 b)) ∧ S.w0.heap.size ≤ b := fun b hb' => by
    rcases hblk b hb' with ⟨x, cap, q1, q2⟩ | q
    · obtain ⟨h100, t, nb, fb, h⟩ := hk x q1
      rcases hF.box x _ h with ⟨b', c', e1, e2, e3, _⟩ | ⟨e1, _⟩
      · rw [q2] at e1; cases e1
        exact ⟨e3 rfl, by rcases e2 with e2 | ⟨e2, _⟩; exact e2; omega⟩
      · rw [q2] at e1; cases e1
    · subst q; exact ⟨⟨fun hz => by have := (hF.zOld _ hz).1; omega, .inl hF.kept1.size⟩, hsz⟩
  have hi' : ∀ x, x ≠ k' → (fun x => if x = k' then some ik else i x) x = i x := fun x hx => if_neg hx
  have hv' : ∀ b, v.ownBlock = some b → ∃ x cap, (x = k' ∨ k = some x) ∧ (∃ B, H x = some B ∧ B.mut = true) ∧ i x = some (some (b, cap)) := fun b hb' => by
    obtain ⟨x, cap, q1, q2⟩ := hv b hb'
    obtain ⟨_, t, nb, fb, h⟩ := hk x q1
    exact ⟨x, cap, .inr q1, ⟨_, h, rfl⟩, q2⟩
  refine hF.step (fun x => x = k' ∨ k = some x) hos (fun b hbl hn => hb b hbl (fun e => ?_)) (fun x hx => hi' x (fun e => hx (e ▸ hk'))) (fun x hx => hHo x (fun e => hx (.inl e)) (fun e => hx (.inr e))) (fun x hx e => ?_) (fun x hx e => ?_) (fun x hx e => ?_) (fun o b hb => hb) (fun b hb => .inl hb) (fun b hb => ⟨hF.zsub b hb, hF.zNew b hb⟩) (fun x B hx hB => ?_) (fun x B b hx hB hm hf => ?_) (fun x x' B1 B2 b hx hx' h1 h2 m1 m2 _ _ => ?_)
  · obtain ⟨x, cap, q1, ⟨B, q2, q3⟩, q4⟩ := hv' b e.symm
    exact hn x B q1 q2 q3 (.root q4)
  · rcases hx with hx | hx
    · subst hx; rw [hHk] at e; cases e
    · rw [hHx x hx] at e; cases e
  · show (if x = k' then some ik else i x) = none
    rw [if_neg (fun e => hx (.inl e))]; exact hF.nil x e
  · show (if x = k' then some ik else i x) = none
    rw [if_neg (by omega)]; exact hF.nil x e
  · rcases hx with hx | hx
    · subst hx
      rw [hHk] at hB; cases hB
      rcases hA with ⟨q1, q2, _⟩ | ⟨b, cap, q1, q2, q3⟩
      · exact .inr ⟨by show (if x = x then some ik else i x) = _; rw [if_pos rfl, q1], .inr (.inl ⟨_, _, _, .inl (by rw [q2])⟩)⟩
      · exact .inl ⟨b, cap, by show (if x = x then some ik else i x) = _; rw [if_pos rfl, q1], .inl (hbok b q2).2, fun _ => (hbok b q2).1, fun h => (by cases h), q3⟩
    · rw [hHx x hx] at hB; cases hB
      obtain ⟨_, t, nb, fb, h⟩ := hk x hx
      rcases hF.box x _ h with ⟨b, c, e1, e2, _, _, e5⟩ | ⟨e1, e2⟩
      · exact .inl ⟨b, c, (hi' x (hkk x hx)).trans e1, e2, fun h => (by cases h), fun h => (by cases h), Nat.lt_of_lt_of_le e5.lt hos.2.2.2⟩
      · exact .inr ⟨(hi' x (hkk x hx)).trans e1, .inl rfl⟩
  · rcases hx with hx | hx
    · subst hx
      rw [hHk] at hB; cases hB
      obtain ⟨cp, e⟩ := hf.flat rfl
      have e' : ik = some (b, cp) := by have : some ik = some (some (b, cp)) := by rw [← e]; exact (if_pos rfl).symm
                                        cases this; rfl
      rcases hA with ⟨q1, _, _⟩ | ⟨b2, cap, q1, q2, q3⟩
      · rw [q1] at e'; cases e'
      · rw [q1] at e'; cases e'
        rcases hblk b q2 with ⟨y, cy, y1, y2⟩ | y
        · obtain ⟨y3, t, nb, fb, h⟩ := hk y y1
          exact .inr ⟨y, _, .inr y1, fun h _ => absurd h (by omega), h, rfl, .root y2⟩
        · obtain ⟨cs, hB, _⟩ := q3
          exact .inl ⟨by omega, hB.lt⟩
    · rw [hHx x hx] at hB; cases hB; cases hm
  · rcases hx with hx | hx
    · rcases hx' with hx' | hx'
      · exact hx.trans hx'.symm
      · rw [hHx x' hx'] at h2; cases h2; cases m2
    · rw [hHx x hx] at h1; cases h1; cases m1
/-- append to a slice of the call's own. -/
theorem loc_append {t el : TypeId} {x y : Operand} {k k' n nb m j : Nat} {f g : Nat → List D} {d : D} {ks : List Nat} {info info' : TypeInfo} {d' : TypeDesc} {z : Value} (ho : o.op = .call { callee := .builtin .append, args := #[x, y], argTypes := #[t, t] }) (hd : dstLt o N = true) [hT : TI P t info (.slice el)] [hT' : TI P el info' d'] (hz : info'.zero = some z) (hm : info'.size = m) (hzs : z.cells.size = m) (hms : Nat.blt 0 m = true)
  (hx : Opd E x (.sl k m n)) (hk : H k = some (.arr el nb m f)) (hn : n ≤ nb) (h100 : Nat.ble 1000 k = true) (hy : Opd E y d) (hs : SrcIs H d j m g ks) (hb : (n + j) * info'.bytes ≤ 140737488355328) (h63 : n + j ≤ 9223372036854775807) :
  Loc P N o E H ⟨k :: ks, o.dst, .sl k' m (n + j), [(k', some (.arr el (n + j) m (appF n f g))), (k, some .gone)], [k']⟩ := by
 refine ⟨rfl, by simp [ho], fun E1 H1 h1 h2 h3 S a w hN hR K Q hK => ?_⟩
 obtain ⟨Z, i, hF⟩ := hR
 replace hms : 0 < m := by simpa using hms
 have e1 := hF.opd (Opd.agree (x := x) (by simp [ho, Op.operands, Call.operands]) h1 hx)
 have e2 := hF.opd (Opd.agree (x := y) (by simp [ho, Op.operands, Call.operands]) h1 hy)
 have hk1 := (h2 k (by simp)).trans hk
 have hs1 := hs.agree (H1 := H1) (fun k hk => h2 k (by simp [hk]))
 obtain ⟨ao, cap, vs, s1, s2, s3, s4⟩ := hs1.elems hF e2
 have hc : ∀ e c, e < j → c < m → ∃ b p, ao = some ⟨b, p, none⟩ ∧ w.cell? ⟨b, p + (e * m + c), none⟩ = some (vs e c) ∧ (vs e c).oneCell' = true := fun e c he hc => by obtain ⟨b, p, q1, q2, q3, _⟩ := s4 e c he hc; exact ⟨b, p, q1, q2, q3⟩
 have hne := SrcIs.hne hms hc
 -- the slice that is appended to
 have hown : ∃ v xs, a.eval x = v ∧ w.ownsRow 0 el m v n xs ∧ xs.length = n * m ∧ (∀ e c, e < n → c < m → ∃ u, xs[e * m + c]? = some u ∧ u.oneCell' = true ∧ Rep Z w noN u (dl (f e) c)) ∧ (∀ e, e < n → (f e).length = m) ∧ (∀ b, v.ownBlock = some b → ∃ x cap, some k = some x ∧ i x = some (some (b, cap))) := by
  generalize hv : a.eval x = v at e1
  cases e1 with
  | @sl _ b _ _ _ cap hib q1 q2 =>
   rcases hF.box k _ hk1 with ⟨b', c', r1, _, _, _, cs, hB, hcs, hnc, hfl, hall⟩ | ⟨r1, _⟩
   ·rw [hib] at r1; cases r1
    have hle : n * m ≤ cap.c * m := Nat.mul_le_mul_right _ q1
    refine ⟨_, cs.toList.take (n * m), rfl, ⟨by simp; omega, .inr ⟨b, cap.c, cs, rfl, Nat.zero_le _, hB, q1, by unfold maxLen; omega, hcs, rfl⟩⟩, by simp; omega, fun e c he hc => ?_, fun e he => hfl e (by omega), fun b2 hb2 => ?_⟩
    ·have hlt : (e + 1) * m ≤ n * m := Nat.mul_le_mul_right _ (by omega)
     rw [Nat.add_mul] at hlt
     refine ⟨cs.getD (e * m + c) undef, ?_, hall e c (by omega) hc⟩
     rw [List.getElem?_take, if_pos (by omega), Array.getElem?_toList, Array.getD_eq_getD_getElem?, Array.getElem?_eq_getElem (by omega)]; rfl
    ·cases hb2; exact ⟨k, cap, rfl, hib⟩
   ·rw [hib] at r1; cases r1
  | sl0 _ _ _ hib =>
   exact ⟨_, [], rfl, World.ownsRow_nil w 0 el m, by simp, fun e c he => by omega, fun e he => by omega, fun b hb => by cases hb⟩
 obtain ⟨v, xs, hv, o1, o2, o3, o4, o5⟩ := hown
 obtain ⟨v', w', r1, r2, r3, r4, r5⟩ := append_core (P := P) (ty := o.type) (w := w) (t := t) (el := el) hz hm hzs hms v n xs o1 ao j cap vs hne hc hb h63
 have hrun := run_appendOp (P := P) (a := a) (w := w) (w' := w') ho (by rw [hv, s1]; exact r1)
 unfold Oper.wp
 rw [hrun]
 have hZo : ∀ o x, Z o x → w'.heap[x]? = w.heap[x]? := fun o x hx => by
  have hxt : Z true x := by cases o; exact hF.zsub x hx; exact hx
  refine r3 x (hF.zOld x hxt).1 (fun e => ?_)
  obtain ⟨y, cy, y1, y2⟩ := o5 x e.symm
  cases y1
  rcases hF.box k _ hk1 with ⟨b', c', q1, _, q3, _⟩ | ⟨q1, _⟩
  ·rw [y2] at q1; cases q1; exact (q3 rfl).1 hxt
  ·rw [y2] at q1; cases q1
 have mr : ∀ {v : Value} {d : D}, Rep Z w noN v d → Rep Z w' noN v d := fun hv => hv.mem (fun o x hx => ⟨hx, hZo o x hx⟩)
 obtain ⟨ik, p1, p2⟩ := own_of_row (k' := k') (f := f) (g := g) (Z := Z) hms r4 (fun e c he hc => by obtain ⟨u, u1, u2, u3⟩ := o3 e c he hc; exact ⟨u, u1, u2, mr u3⟩) o2 o4 (fun e c he hc => by obtain ⟨b, p, _, _, q3, q4⟩ := s4 e c he hc; exact ⟨q3, mr q4⟩) s3
 have hF2 := hF.appended (k := some k) (k' := k') (el := el) (n := n + j) (m := m) (f := appF n f g) (v := v) (v' := v') (ik := ik) (h3 k' (by simp)).1 (h3 k' (by simp)).2 (fun x hx => by cases hx; exact ⟨Nat.le_of_ble_eq_true h100, el, nb, f, hk1⟩) o5 r2 r3 r5 p2
 exact hK _ _ ⟨Z, _, hF2.put (by rw [hN]; exact dstLt_spec hd) (p1 _ (if_pos rfl))⟩
/-- append to a nil slice. -/
theorem loc_append_nil {t el : TypeId} {x y : Operand} {k' m j : Nat} {g : Nat → List D} {d : D} {ks : List Nat} {info info' : TypeInfo} {d' : TypeDesc} {z : Value} (ho : o.op = .call { callee := .builtin .append, args := #[x, y], argTypes := #[t, t] }) (hd : dstLt o N = true) [hT : TI P t info (.slice el)] [hT' : TI P el info' d'] (hz : info'.zero = some z) (hm : info'.size = m) (hzs : z.cells.size = m) (hms : Nat.blt 0 m = true)
  (hx : Opd E x (.val (.slice none 0 0))) (hy : Opd E y d) (hs : SrcIs H d j m g ks) (hb : j * info'.bytes ≤ 140737488355328) (h63 : j ≤ 9223372036854775807) :
  Loc P N o E H ⟨ks, o.dst, .sl k' m j, [(k', some (.arr el j m g))], [k']⟩ := by
 refine ⟨rfl, by simp [ho], fun E1 H1 h1 h2 h3 S a w hN hR K Q hK => ?_⟩
 obtain ⟨Z, i, hF⟩ := hR
 replace hms : 0 < m := by simpa using hms
 have e1 := (hF.opd (Opd.agree (x := x) (by simp [ho, Op.operands, Call.operands]) h1 hx)).valEq
 have e2 := hF.opd (Opd.agree (x := y) (by simp [ho, Op.operands, Call.operands]) h1 hy)
 have hs1 := hs.agree (H1 := H1) (fun k hk => h2 k hk)
 obtain ⟨ao, cap, vs, s1, s2, s3, s4⟩ := hs1.elems hF e2
 have hc : ∀ e c, e < j → c < m → ∃ b p, ao = some ⟨b, p, none⟩ ∧ w.cell? ⟨b, p + (e * m + c), none⟩ = some (vs e c) ∧ (vs e c).oneCell' = true := fun e c he hc => by obtain ⟨b, p, q1, q2, q3, _⟩ := s4 e c he hc; exact ⟨b, p, q1, q2, q3⟩
 have hne := SrcIs.hne hms hc
 obtain ⟨v', w', r1, r2, r3, r4, r5⟩ := append_core (P := P) (ty := o.type) (w := w) (t := t) (el := el) hz hm hzs hms (.slice none 0 0) 0 [] (World.ownsRow_nil w 0 el m) ao j cap vs hne hc (by rw [Nat.zero_add]; exact hb) (by omega)
 have hrun := run_appendOp (P := P) (a := a) (w := w) (w' := w') ho (by rw [e1, s1]; exact r1)
 unfold Oper.wp
 rw [hrun]
 have hZo : ∀ o x, Z o x → w'.heap[x]? = w.heap[x]? := fun o x hx => by
  have hxt : Z true x := by cases o; exact hF.zsub x hx; exact hx
  exact r3 x (hF.zOld x hxt).1 (fun e => by cases e)
 have mr : ∀ {v : Value} {d : D}, Rep Z w noN v d → Rep Z w' noN v d := fun hv => hv.mem (fun o x hx => ⟨hx, hZo o x hx⟩)
 obtain ⟨ik, p1, p2⟩ := own_of_row (n := 0) (k' := k') (f := g) (g := g) (Z := Z) hms r4 (fun e c he => by omega) (by simp) (fun e he => by omega) (fun e c he hc => by obtain ⟨b, p, _, _, q3, q4⟩ := s4 e c he hc; exact ⟨q3, mr q4⟩) s3
 have ef : appF 0 g g = g := by funext e; rfl
 rw [Nat.zero_add, ef] at p2
 rw [Nat.zero_add] at p1
 have hF2 := hF.appended (k := none) (k' := k') (el := el) (n := j) (m := m) (f := g) (v := .slice none 0 0) (v' := v') (ik := ik) (h3 k' (by simp)).1 (h3 k' (by simp)).2 (fun x hx => by cases hx) (fun b hb => by cases hb) r2 r3 r5 p2
 exact hK _ _ ⟨Z, _, hF2.put (by rw [hN]; exact dstLt_spec hd) (p1 _ (if_pos rfl))⟩
/-- The first elements turned. -/
def cpF (n : Nat) (g f : Nat → List D) (e : Nat) : List D := match Nat.blt e n with | true => g e | false => f e
/-- copy into a slice of the call's own. -/
theorem loc_copy {t t2 el : TypeId} {x y : Operand} {k n nb j : Nat} {f g : Nat → List D} {d : D} {ks : List Nat} {info info' : TypeInfo} {d' : TypeDesc} {tb : TypeId} (ho : o.op = .call { callee := .builtin .copy, args := #[x, y], argTypes := #[t, t2] }) (hd : dstLt o N = true) [hT : TI P t info (.slice el)] [hT' : TI P el info' d'] (hm : info'.size = 1)
    (hx : Opd E x (.sl k 1 n)) (hk : H k = some (.arr tb nb 1 f)) (hn : n ≤ nb) (hy : Opd E y d) (hs : SrcIs H d j 1 g ks) :
    Loc P N o E H ⟨k :: ks, o.dst, .val (.int .i64 (min j n : Nat)), [(k, some (.arr tb nb 1 (cpF (min j n) g f)))], []⟩ := by
  refine ⟨rfl, by simp [ho], fun E1 H1 h1 h2 h3 S a w hN hR K Q hK => ?_⟩
  obtain ⟨Z, i, hF⟩ := hR
  have e1 := hF.opd (Opd.agree (x := x) (by simp [ho, Op.operands, Call.operands]) h1 hx)
  have e2 := hF.opd (Opd.agree (x := y) (by simp [ho, Op.operands, Call.operands]) h1 hy)
  have hk1 := (h2 k (by simp)).trans hk
  have hs1 := hs.agree (H1 := H1) (fun k hk => h2 k (by simp [hk]))
  obtain ⟨ao, cap, vs, s1, s2, s3, s4⟩ := hs1.elems hF e2
  have hsz : (P.info? el).map (·.size) = some 1 := by rw [hT'.info]; simp [hm]
  have hgo : ∀ {n' : Nat}, (execOp a.eval o).run P w = .ok (.value (goInt n')) w → n' = min j n → (n' = 0) → Oper.wp P o a w K Q := fun {n'} hr hn' h0 => by
    unfold Oper.wp
    rw [hr]
    refine hK _ _ ⟨Z, i, ?_⟩
    have e0 : min j n = 0 := by omega
    have eB : updH H1 [(k, some (Box.arr tb nb 1 (cpF (min j n) g f)))] = H1 := by
      funext q; simp only [updH]; split
      · subst_vars; rw [hk1, e0]; rfl
      · rfl
    rw [eB]
    have := hF.put (dst := o.dst) (by rw [hN]; exact dstLt_spec hd) (.val (Z := Z) (w := w) i (.int .i64 (min j n : Nat)))
    rw [hn']
    exact this
  generalize hvx : a.eval x = v at e1
  cases e1 with
  | sl0 _ _ _ hib =>
    have hr := run_copy_none (P := P) w t t2 o.type el none ao 0 0 j cap hT.under hsz (by simp)
    refine hgo (n' := 0) ?_ (by simp) rfl
    simp only [execOp, ho, resolve, invoke, builtin]
    simp [hvx, s1, hr, Result.andThen]
  | @sl _ b _ _ _ capx hib q1 q2 =>
    rcases hF.box k _ hk1 with ⟨b', c', r1, _, _, _, cs, hB, hcs, hnc, hfl, hall⟩ | ⟨r1, _⟩
    · rw [hib] at r1; cases r1
      rcases Nat.eq_zero_or_pos (min j n) with q | q
      · have hr := run_copy_none (P := P) w t t2 o.type el (some ⟨b, 0, none⟩) ao n capx.c j cap hT.under hsz q
        refine hgo (n' := 0) ?_ q.symm rfl
        simp only [execOp, ho, resolve, invoke, builtin]
        simp [hvx, s1, hr, Result.andThen]
      · obtain ⟨b2, p2, rfl, _⟩ := s4 0 0 (by omega) (by omega)
        obtain ⟨L, hL⟩ : ∃ L : List Value, (List.range (min j n)).map (fun e => vs e 0) = L := ⟨_, rfl⟩
        have hLl : L.length = min j n := by rw [← hL]; simp
        have hLat : ∀ e, e < min j n → L[e]? = some (vs e 0) := fun e he => by rw [← hL, List.getElem?_map, List.getElem?_range he]; rfl
        have hr := run_copy_row (P := P) w t t2 o.type el b 0 n capx.c ⟨b2, p2, none⟩ j cap cs tb L hT.under hsz hB hLl (fun e u hu => by
          have he : e < min j n := by have := (List.getElem?_eq_some_iff.1 hu).1; omega
          rw [hLat e he] at hu; cases hu
          obtain ⟨b3, p3, q1, q2, _⟩ := s4 e 0 (by omega) (by omega)
          cases q1
          rw [addr_add]; simpa using q2) (by rw [hcs]; omega) (fun u hu => by
          rw [← hL] at hu
          obtain ⟨e, he, rfl⟩ := List.mem_map.1 hu
          obtain ⟨_, _, _, _, q3, _⟩ := s4 e 0 (by have := List.mem_range.1 he; omega) (by omega)
          exact q3)
        have hrun : (execOp a.eval o).run P w = .ok (.value (goInt L.length)) (w.setRow b (cs.toList.take 0 ++ L ++ cs.toList.drop (0 + L.length)).toArray) := by
          simp only [execOp, ho, resolve, invoke, builtin]
          simp at hr
          simp [hvx, s1, hr, Result.andThen]
        obtain ⟨L2, hL2⟩ : ∃ L2, cs.toList.take 0 ++ L ++ cs.toList.drop (0 + L.length) = L2 := ⟨_, rfl⟩
        have key : ∀ e, L2.toArray.getD e undef = if e < min j n then vs e 0 else cs.getD e undef := fun e => by
          rw [toArray_getD, ← hL2, List.append_assoc, getD_seg undef cs.toList L 0 e (by simp; omega), hLl, ← toArray_getD (l := cs.toList), Array.toArray_toList]
          by_cases he : e < min j n
          · rw [if_pos (by omega), if_pos he, Nat.sub_zero, List.getD_eq_getElem?_getD, hLat e he]; rfl
          · rw [if_neg (by omega), if_neg he]
        have hL2l : L2.length = capx.c := by rw [← hL2]; simp; omega
        rw [hL2] at hrun
        unfold Oper.wp
        rw [hrun]
        have hF2 := hF.turn (C := .arr tb nb 1 (cpF (min j n) g f)) (w' := w.setRow b L2.toArray) hk1 rfl rfl rfl rfl hib ⟨rfl, rfl, rfl, by simp⟩ (fun y _ hy => setRow_other _ _ _ _ hy) (fun mm => ⟨_, setRow_heap _ _ _ _ _ _ hB, by simp; omega, hnc, fun e he => by
          unfold cpF
          cases q : Nat.blt e (min j n) with
          | true => exact s3 e (by have : e < min j n := by simpa using q
                                   omega)
          | false => exact hfl e he, fun e c he hc => by
          obtain rfl : c = 0 := by omega
          have mr : ∀ {v : Value} {d : D}, Rep Z w noN v d → Rep Z (w.setRow b L2.toArray) noN v d := fun hv => hv.mem (fun o x hx => ⟨hx, mm o x hx⟩)
          rw [Nat.mul_one, Nat.add_zero, key]
          unfold cpF
          cases q : Nat.blt e (min j n) with
          | true =>
            have q' : e < min j n := by simpa using q
            rw [if_pos q']
            obtain ⟨_, _, _, _, q3, q4⟩ := s4 e 0 (by omega) (by omega)
            exact ⟨q3, mr q4⟩
          | false =>
            rw [if_neg (blt_no q)]
            have := hall e 0 he (by omega)
            rw [Nat.mul_one, Nat.add_zero] at this
            exact ⟨this.1, mr this.2⟩⟩)
        refine hK _ _ ⟨Z, i, ?_⟩
        have := hF2.put (dst := o.dst) (by rw [hN]; exact dstLt_spec hd) (.val (Z := Z) (w := w.setRow b L2.toArray) i (.int .i64 (min j n : Nat)))
        rw [hLl]
        exact this
    · rw [hib] at r1; cases r1
end
end Go.Proofs.YtmjildbdkecolaaGreat
