/- Operations that make boxes. No walk. -/
import Derived.Test.YtefoddjclngckaaGreatPrd03
set_option linter.unusedSimpArgs false
set_option linter.unusedVariables false
set_option linter.unnecessarySimpa false
namespace Go.Proofs.YtefoddjclngckaaGreat
open Go.RowKit

/-- The cells of data, and whether each fits a cell. -/
def D.cellL : D → List D
  | .agg l => l
  | d => [d]
def D.fit : D → Bool
  | .agg _ => true
  | d => d.one
theorem toArray_getD {α : Type} (l : List α) (j : Nat) (d : α) : l.toArray.getD j d = l.getD j d := by simp [Array.getD_eq_getD_getElem?, List.getD_eq_getElem?_getD]
section
variable {P : Program} {N : Nat} {o : Oper} {E E1 : Nat → D} {H H1 : Nat → Option Box} {S : Cx} {Z : Zn} {i : Nm} {a : Act} {w : World}
/-- A value's cells. -/
theorem Rep.cells {v : Value} {d : D} (h : Rep Z w i v d) (hf : d.fit = true) : v.cells.size = d.cellL.length ∧ ∀ j, j < d.cellL.length → (v.cells.getD j undef).oneCell' = true ∧ Rep Z w i (v.cells.getD j undef) (dl d.cellL j) := by
  have one : ∀ {v : Value} {d : D}, Rep Z w i v d → v.oneCell' = true → d.cellL = [d] → v.cells.size = d.cellL.length ∧ ∀ j, j < d.cellL.length → (v.cells.getD j undef).oneCell' = true ∧ Rep Z w i (v.cells.getD j undef) (dl d.cellL j) := by
    intro v d h h1 hd
    have hc : v.cells = #[v] := by cases v <;> first | rfl | (simp [Value.oneCell'] at h1)
    rw [hc, hd]
    refine ⟨rfl, fun j hj => ?_⟩
    obtain rfl : j = 0 := by simpa using hj
    exact ⟨h1, h⟩
  have h' := h
  cases h with
  | agg _ vs l hl h1 hr =>
    refine ⟨by simpa [Value.cells, D.cellL] using hl, fun j hj => ?_⟩
    have : (Value.agg vs.toArray).cells.getD j undef = vs.getD j undef := toArray_getD _ _ _
    rw [this]
    exact ⟨h1 j hj, hr j hj⟩
  | any => cases hf
  | tup => cases hf
  | val => exact one h' hf rfl
  | eptr => exact one h' rfl rfl
  | sl => exact one h' rfl rfl
  | sl0 => exact one h' rfl rfl
  | slr => exact one h' rfl rfl
  | eptrr => exact one h' rfl rfl
  | fz => exact one h' rfl rfl
  | fptr => exact one h' rfl rfl
  | clo => exact one h' rfl rfl
/-- A new box. -/
theorem Fits.new (h : Fits S E H Z i a w) {k : Nat} {cap : Cp} (hk : H k = none) (h100 : 1000 ≤ k) {B : Box} {ob : Obj} (hI0 : (B.isIce || !Nat.beq B.nrows 0) = false)
    (hB : ∀ w', (∀ o x, Z o x → w'.heap[x]? = w.heap[x]?) → w'.heap[w.heap.size]? = some ob → w.heap.size < w'.heap.size → ∀ i' : Nm, (∀ x y, i x = some y → i' x = some y) → BoxAt Z w' i' w.heap.size cap B) :
    Fits S E (updH H [(k, some B)]) Z (fun x => if x = k then some (some (w.heap.size, cap)) else i x) a (w.alloc ob) := by
  have hI : B.isIce = false := by cases q : B.isIce <;> simp [q] at hI0 ⊢
  have hN : B.nrows = 0 := by simp only [hI, Bool.false_or, Bool.not_eq_false'] at hI0; exact Nat.eq_of_beq_eq_true hI0
  have hsz := h.kept.size
  have hold : ∀ x, x < w.heap.size → (w.alloc ob).heap[x]? = w.heap[x]? := fun x hx => Below.heap_alloc w ob x hx
  have hZo : ∀ o x, Z o x → (w.alloc ob).heap[x]? = w.heap[x]? := fun o x hx => hold x (h.zOld x (by cases o; exact h.zsub x hx; exact hx)).1
  have hext : ∀ x y, i x = some y → (fun x => if x = k then some (some (w.heap.size, cap)) else i x) x = some y := fun x y e => by
    have : x ≠ k := fun q => by subst q; rw [h.nil x hk] at e; cases e
    simp only [if_neg this, e]
  have hnew : (w.alloc ob).heap[w.heap.size]? = some ob := by show (w.heap.push ob)[w.heap.size]? = some ob; exact Array.getElem?_push_size
  refine h.step (fun x => x = k) ⟨rfl, rfl, rfl, by simp⟩ (fun b hb _ => hold b hb) (fun x hx => ?_) (fun x hx => ?_) (fun x hx e => ?_) (fun x hx e => ?_) (fun x hx e => ?_) (fun o b hb => hb) (fun b hb => .inl hb) (fun b hb => ⟨h.zsub b hb, h.zNew b hb⟩) (fun x B' hx hB' => ?_) (fun x B' b hx hB' hm hf => ?_) (fun x x' B1 B2 b hx hx' _ _ _ _ _ _ => hx.trans hx'.symm)
  · show (if x = k then _ else _) = _; exact if_neg (fun e => hx (by rw [e]; exact hk))
  · simp only [updH]; exact if_neg (Ne.symm hx)
  · subst hx; simp [updH] at e
  · show (if x = k then _ else _) = none; rw [if_neg hx]; exact h.nil x e
  · show (if x = k then _ else _) = none; rw [if_neg (by omega)]; exact h.nil x e
  · subst hx
    simp only [updH, if_true] at hB'
    cases hB'
    refine .inl ⟨w.heap.size, cap, if_pos rfl, .inl hsz, fun _ => ⟨fun hz => by have := (h.zOld _ hz).1; omega, .inl h.kept1.size⟩, fun hi => (by rw [hI] at hi; cases hi), hB _ hZo hnew (by simp) _ hext⟩
  · subst hx
    simp only [updH, if_true] at hB'
    cases hB'
    obtain ⟨cp, e⟩ := hf.flat hN
    simp only [if_true] at e
    cases e
    exact .inl ⟨Nat.le_refl _, by simp⟩
/-- An operation that makes a block. -/
theorem loc_new {k : Nat} {B : Box} {r : D} {names : List Nat} (hnd : ∀ c, o.op ≠ .defer c) (hd : dstLt o N = true) (hI : (B.isIce || !Nat.beq B.nrows 0) = false)
    (h : ∀ (E1 : Nat → D) (H1 : Nat → Option Box) (S : Cx) (Z : Zn) (i : Nm) (a : Act) (w : World), Fits S E1 H1 Z i a w → (∀ x, x ∈ o.op.operands → ∀ d, Opd E x d → Opd E1 x d) → (∀ k, k ∈ names → H1 k = H k) →
      ∃ v ob cap, (execOp a.eval o).run P w = .ok (.value v) (w.alloc ob) ∧ (∀ w', (∀ o x, Z o x → w'.heap[x]? = w.heap[x]?) → w'.heap[w.heap.size]? = some ob → w.heap.size < w'.heap.size → ∀ i' : Nm, (∀ x y, i x = some y → i' x = some y) → BoxAt Z w' i' w.heap.size cap B) ∧ ∀ w' i', i' k = some (some (w.heap.size, cap)) → Rep Z w' i' v r) :
    Loc P N o E H ⟨names, o.dst, r, [(k, some B)], [k]⟩ := by
  refine ⟨rfl, hnd, fun E1 H1 h1 h2 h3 S a w hN hR K Q hK => ?_⟩
  obtain ⟨Z, i, hF⟩ := hR
  obtain ⟨v, ob, cap, hv, hB, hr⟩ := h E1 H1 S Z i a w hF (fun x hx d hd => hd.agree hx h1) h2
  unfold Oper.wp
  rw [hv]
  have hF2 := hF.new (h3 k (by simp)).1 (h3 k (by simp)).2 hI hB
  exact hK _ _ ⟨Z, _, hF2.put (by rw [hN]; exact dstLt_spec hd) (hr _ _ (if_pos rfl))⟩
/-- A type's zero, cell by cell. -/
def ZeroIs (P : Program) (t : TypeId) (zs : List Value) : Prop := (∀ w, ∃ z, (zeroValue t).run P w = .ok z w ∧ z.cells = zs.toArray) ∧ ∀ z, z ∈ zs → z.oneCell' = true
theorem ZeroIs.mk {t : TypeId} {info : TypeInfo} {d : TypeDesc} {z : Value} [hT : TI P t info d] (hz : info.zero = some z) (h1 : (z.cells.toList.all fun z => z.oneCell') = true) : ZeroIs P t z.cells.toList :=
  ⟨fun w => ⟨z, by simp [zeroValue, typeInfo, hT.info, hz, Result.andThen], by simp⟩, fun z hz => List.all_eq_true.1 h1 z hz⟩
def valL : List Value → List D
  | [] => []
  | v :: l => .val v :: valL l
theorem valL_len : ∀ (zs : List Value), (valL zs).length = zs.length
  | [] => rfl
  | _ :: l => by simp [valL, valL_len l]
theorem valL_at : ∀ {zs : List Value} {j : Nat}, j < zs.length → dl (valL zs) j = .val (zs.getD j undef)
  | [], j, h => by simp at h
  | v :: l, 0, _ => rfl
  | v :: l, j + 1, h => by
    simp only [valL, dl]
    rw [valL_at (by simpa using h)]
    simp
theorem getD_mem {α : Type} {l : List α} {j : Nat} (d : α) (hj : j < l.length) : l.getD j d ∈ l := by
  rw [List.getD_eq_getElem?_getD, List.getElem?_eq_getElem hj]
  exact List.getElem_mem hj
theorem loc_alloc {t : TypeId} {k : Nat} {zs : List Value} (ho : o.op = .alloc t) (hd : dstLt o N = true) (hz : ZeroIs P t zs) : Loc P N o E H ⟨[], o.dst, .eptr k 0 0 0, [(k, some (.lit t (valL zs)))], [k]⟩ :=
  loc_new (by simp [ho]) hd rfl (fun E1 H1 S Z i a w hF hA hN => by
    obtain ⟨z, hz1, hz2⟩ := hz.1 w
    refine ⟨.pointer (some ⟨w.heap.size, 0, none⟩), .cells zs.toArray t (0, 0), 1, ?_, fun w' h1 hb hlt i' h2 => ⟨zs.toArray, hb, by simp [valL_len], fun j hj => ?_⟩, fun w' i' hi => by simpa using Rep.eptr (Z := Z) (w := w') i' k 0 0 0 hi⟩
    · simp only [execOp, ho, Instr.alloc]
      simp [hz1, Result.andThen, newVar, newRow, hz2]
    · rw [valL_len] at hj
      rw [valL_at hj, toArray_getD]
      exact ⟨hz.2 _ (getD_mem _ hj), .val _ _⟩)
/-- An array variable: a row of elements. -/
theorem loc_alloc_arr {t el : TypeId} {k n : Nat} {info info' : TypeInfo} {d' : TypeDesc} {z z' : Value} (ho : o.op = .alloc t) (hd : dstLt o N = true) [hT : TI P t info (.array n el)] [hT' : TI P el info' d'] (hz : info.zero = some z) (hz' : info'.zero = some z')
    (hc : z.cells.toList = (List.replicate n z'.cells.toList).flatten) (hm : info'.size = z'.cells.toList.length) (h1 : (z'.cells.toList.all fun z => z.oneCell') = true) : Loc P N o E H ⟨[], o.dst, .eptr k info'.size 0 0, [(k, some (.arr t n info'.size fun _ => valL z'.cells.toList))], [k]⟩ :=
  loc_new (by simp [ho]) hd rfl (fun E1 H1 S Z i a w hF hA hN => by
    have hz1 : (zeroValue t).run P w = .ok z w := by simp [zeroValue, typeInfo, hT.info, hz, Result.andThen]
    have hcs : z.cells.size = n * info'.size := by rw [← Array.length_toList, hc, hm]; simp
    have hat : ∀ n e c, e < n → c < z'.cells.toList.length → (List.replicate n z'.cells.toList).flatten.getD (e * z'.cells.toList.length + c) undef = z'.cells.toList.getD c undef := by
      intro n
      induction n with
      | zero => intro e c he; omega
      | succ n ih =>
        intro e c he hc
        rw [List.replicate_succ, List.flatten_cons, List.getD_eq_getElem?_getD]
        cases e with
        | zero => rw [Nat.zero_mul, Nat.zero_add, List.getElem?_append_left hc, List.getD_eq_getElem?_getD]
        | succ e =>
          rw [List.getElem?_append_right (by rw [Nat.add_mul]; omega), show (e + 1) * z'.cells.toList.length + c - z'.cells.toList.length = e * z'.cells.toList.length + c by rw [Nat.add_mul]; omega]
          have := ih e c (by omega) hc
          rwa [List.getD_eq_getElem?_getD] at this
    refine ⟨.pointer (some ⟨w.heap.size, 0, none⟩), .cells z.cells t (0, 0), n, ?_, fun w' h1' hb hlt i' h2 => ⟨z.cells, hb, hcs, Nat.le_refl _, fun e he => by rw [valL_len, hm], fun e c he hc' => ?_⟩, fun w' i' hi => by simpa using Rep.eptr (Z := Z) (w := w') i' k info'.size 0 0 hi⟩
    · simp only [execOp, ho, Instr.alloc]
      simp [hz1, Result.andThen, newVar, newRow]
    · rw [hm] at hc' ⊢
      have e1 : z.cells.getD (e * z'.cells.toList.length + c) undef = z'.cells.toList.getD c undef := by
        rw [← hat n e c he hc', ← hc, ← toArray_getD]
      rw [e1, valL_at hc']
      exact ⟨List.all_eq_true.1 h1 _ (getD_mem _ hc'), .val _ _⟩)
theorem loc_box {t : TypeId} {x : Operand} {k : Nat} {d : D} (ho : o.op = .box t x) (hd : dstLt o N = true) (hx : Opd E x d) (hf : d.fit = true) : Loc P N o E H ⟨[], o.dst, .eptr k 0 0 0, [(k, some (.lit t d.cellL))], [k]⟩ :=
  loc_new (by simp [ho]) hd rfl (fun E1 H1 S Z i a w hF hA hN => by
    have h1 := hF.opd (hA x (by simp [ho, Op.operands]) _ hx)
    obtain ⟨c1, c2⟩ := h1.cells hf
    refine ⟨.pointer (some ⟨w.heap.size, 0, none⟩), .cells (a.eval x).cells t (0, 0), 1, ?_, fun w' h1 hb hlt i' h2 => ⟨(a.eval x).cells, hb, c1, fun j hj => ⟨(c2 j hj).1, ((c2 j hj).2.mem (fun o b hz => ⟨hz, h1 o b hz⟩)).ext h2⟩⟩, fun w' i' hi => by simpa using Rep.eptr (Z := Z) (w := w') i' k 0 0 0 hi⟩
    simp only [execOp, ho, Instr.box]
    simp [Result.andThen, newVar, newRow])
/-- An array value boxed: a row of elements. -/
theorem loc_box_arr {t : TypeId} {x : Operand} {k n m : Nat} {l : List D} {f : Nat → List D} (ho : o.op = .box t x) (hd : dstLt o N = true) (hx : Opd E x (.agg l)) (hl : l.length = n * m) (hf : ∀ e, e < n → (f e).length = m ∧ ∀ c, c < m → dl (f e) c = dl l (e * m + c)) (hp : D.free.freeL (fun _ => false) l = true) : Loc P N o E H ⟨[], o.dst, .eptr k m 0 0, [(k, some (.arr t n m f))], [k]⟩ :=
  loc_new (by simp [ho]) hd rfl (fun E1 H1 S Z i a w hF hA hN => by
    have h1 := hF.opd (hA x (by simp [ho, Op.operands]) _ hx)
    obtain ⟨c1, c2⟩ := h1.cells rfl
    simp only [D.cellL] at c1 c2
    refine ⟨.pointer (some ⟨w.heap.size, 0, none⟩), .cells (a.eval x).cells t (0, 0), n, ?_, fun w' h1 hb hlt i' h2 => ⟨(a.eval x).cells, hb, c1.trans hl, Nat.le_refl _, fun e he => (hf e he).1, fun e c he hc => ?_⟩, fun w' i' hi => by simpa using Rep.eptr (Z := Z) (w := w') i' k m 0 0 hi⟩
    · simp only [execOp, ho, Instr.box]
      simp [Result.andThen, newVar, newRow]
    · have hlt2 : e * m + c < l.length := by
        have : (e + 1) * m ≤ n * m := Nat.mul_le_mul_right m (by omega)
        rw [Nat.add_mul] at this
        omega
      rw [(hf e he).2 c hc]
      exact ⟨(c2 _ hlt2).1, ((c2 _ hlt2).2.mem (fun o b hz => ⟨hz, h1 o b hz⟩)).nm (freeL_at hp _ hlt2) (fun k x hk => by cases hk)⟩)
/-- Cells laid over others. -/
def setL (ds : List D) (c : Nat) (xs : List D) : List D := takeL c ds ++ (xs ++ dropL (c + xs.length) ds)
theorem getD_seg {α : Type} (u : α) (l vs : List α) (c j : Nat) (h : c + vs.length ≤ l.length) : (l.take c ++ (vs ++ l.drop (c + vs.length))).getD j u = if c ≤ j ∧ j < c + vs.length then vs.getD (j - c) u else l.getD j u := by
  simp only [List.getD_eq_getElem?_getD, ← List.append_assoc]
  have hm : (l.take c).length = c := by simp; omega
  have hm2 : (l.take c ++ vs).length = c + vs.length := by rw [List.length_append, hm]
  by_cases h2 : j < c + vs.length
  · rw [List.getElem?_append_left (by omega)]
    by_cases h1 : j < c
    · rw [List.getElem?_append_left (by omega), if_neg (by omega), List.getElem?_take, if_pos h1]
    · rw [List.getElem?_append_right (by omega), hm, if_pos (by omega)]
  · rw [List.getElem?_append_right (by omega), hm2, if_neg (by omega), List.getElem?_drop]
    congr 2
    omega
theorem setL_len {ds : List D} {c : Nat} {xs : List D} (h : c + xs.length ≤ ds.length) : (setL ds c xs).length = ds.length := by
  unfold setL; rw [takeL_eq, dropL_eq]; simp; omega
theorem setL_at {ds : List D} {c j : Nat} {xs : List D} (h : c + xs.length ≤ ds.length) : dl (setL ds c xs) j = if c ≤ j ∧ j < c + xs.length then dl xs (j - c) else dl ds j := by
  unfold setL; rw [takeL_eq, dropL_eq, dl_eq, getD_seg D.any ds xs c j h, dl_eq, dl_eq]
/-- Parts laid into zero cells. -/
def fillD (place : Nat → Option (Nat × Nat)) (cells : List D) : List (Nat × D) → Option (List D)
  | [] => some cells
  | (j, d) :: rest =>
    match place j with
    | none => none
    | some (off, size) => match d.fit && Nat.beq d.cellL.length size && Nat.ble (off + d.cellL.length) cells.length with
      | true => fillD place (setL cells off d.cellL) rest
      | false => none
def CellsRep (Z : Zn) (w : World) (i : Nm) (cs : Array Value) (ds : List D) : Prop := cs.size = ds.length ∧ ∀ j, j < ds.length → (cs.getD j undef).oneCell' = true ∧ Rep Z w i (cs.getD j undef) (dl ds j)
theorem foldl_set (vs : List Value) : ∀ (off k : Nat) (cs : Array Value), off + k + vs.length ≤ cs.size → ((vs.zipIdx k).foldl (fun cs (c, j) => cs.setIfInBounds (off + j) c) cs).toList = cs.toList.take (off + k) ++ (vs ++ cs.toList.drop (off + k + vs.length)) := by
  induction vs with
  | nil => intro off k cs h; simp
  | cons v vs ih =>
    intro off k cs h
    simp only [List.zipIdx_cons, List.foldl_cons]
    rw [ih off (k + 1) _ (by simp at h ⊢; omega)]
    simp only [List.length_cons] at h
    apply List.ext_getElem?
    intro j
    simp only [Array.toList_setIfInBounds, List.getElem?_append, List.length_take, List.length_set, Array.length_toList, List.getElem?_take, List.getElem?_set, List.getElem?_drop, List.length_cons, List.getElem?_cons]
    rw [show min (off + (k + 1)) cs.size = off + (k + 1) by omega, show min (off + k) cs.size = off + k by omega]
    by_cases q1 : j < off + k
    · simp [show j < off + (k + 1) by omega, show j < off + k by omega, show ¬ off + k = j by omega, show j < cs.size by omega]
    · by_cases q2 : j = off + k
      · subst q2
        simp [show off + k < off + (k + 1) by omega, show off + k < cs.size by omega]
      · by_cases q3 : j < off + k + 1 + vs.length
        · simp only [show ¬ j < off + (k + 1) by omega, show j - (off + (k + 1)) < vs.length by omega, show ¬ j < off + k by omega, show j - (off + k) < vs.length + 1 by omega, show ¬ j - (off + k) = 0 by omega, if_true, if_false]
          congr 1
        · simp only [show ¬ j < off + (k + 1) by omega, show ¬ j - (off + (k + 1)) < vs.length by omega, show ¬ j < off + k by omega, show ¬ j - (off + k) < vs.length + 1 by omega, show ¬ off + k = j by omega, if_false]
          rw [if_neg (by omega)]
          congr 1; omega
theorem fill_rep {place : Nat → Option (Nat × Nat)} : ∀ (ps : List (Nat × D)) (vs : List (Nat × Value)) (cs : Array Value) (ds ds' : List D), ps.length = vs.length → (∀ (j : Nat) (x : Nat × D) (y : Nat × Value), ps[j]? = some x → vs[j]? = some y → x.1 = y.1 ∧ Rep Z w i y.2 x.2) → CellsRep Z w i cs ds → fillD place ds ps = some ds' → ∃ cs', Instr.fill place cs vs = some cs' ∧ CellsRep Z w i cs' ds'
  | [], [], cs, ds, ds', _, _, hc, h => by cases h; exact ⟨cs, rfl, hc⟩
  | (j, d) :: ps, (j', v) :: vs, cs, ds, ds', hl, hp, hc, h => by
    obtain ⟨rfl, hv⟩ := hp 0 _ _ rfl rfl
    simp only [fillD] at h
    cases hpl : place j with
    | none => rw [hpl] at h; cases h
    | some os =>
      obtain ⟨off, size⟩ := os
      rw [hpl] at h
      simp only at h
      split at h
      · rename_i hb
        simp only [Bool.and_eq_true] at hb
        obtain ⟨⟨hb1, hb2⟩, hb3⟩ := hb
        replace hb2 := Nat.eq_of_beq_eq_true hb2
        replace hb3 := Nat.le_of_ble_eq_true hb3
        obtain ⟨k1, k2⟩ : v.cells.size = d.cellL.length ∧ ∀ j, j < d.cellL.length → (v.cells.getD j undef).oneCell' = true ∧ Rep Z w i (v.cells.getD j undef) (dl d.cellL j) := Rep.cells hv hb1
        have k1' : v.cells.size = d.cellL.length := k1
        have hcs := hc.1
        have hfold : (v.cells.zipIdx.foldl (fun cs (c, j) => cs.setIfInBounds (off + j) c) cs) = (cs.toList.take off ++ (v.cells.toList ++ cs.toList.drop (off + v.cells.toList.length))).toArray := by
          have := foldl_set v.cells.toList off 0 cs (by simp; omega)
          simp only [Nat.add_zero] at this
          rw [← this]
          rw [← Array.toList_zipIdx, Array.foldl_toList]
        have hl2 : v.cells.toList.length = d.cellL.length := by simpa using k1'
        have hc' : CellsRep Z w i (cs.toList.take off ++ (v.cells.toList ++ cs.toList.drop (off + v.cells.toList.length))).toArray (setL ds off d.cellL) := by
          refine ⟨?_, fun j hj => ?_⟩
          · rw [setL_len hb3]; simp; omega
          · rw [setL_len hb3] at hj
            rw [toArray_getD, getD_seg undef cs.toList v.cells.toList off j (by simp; omega), setL_at hb3, hl2]
            split
            · rename_i q
              have := k2 (j - off) (by omega)
              rw [← toArray_getD]
              exact this
            · have := hc.2 j hj
              rw [← toArray_getD]
              exact this
        obtain ⟨cs', e1, e2⟩ := fill_rep ps vs _ _ ds' (by simpa using hl) (fun j x y hx hy => hp (j + 1) x y (by simpa using hx) (by simpa using hy)) hc' h
        refine ⟨cs', ?_, e2⟩
        simp only [Instr.fill, hpl, hfold]
        rw [if_neg (by simp; omega)]
        exact e1
      · cases h
  | [], _ :: _, _, _, _, h, _, _, _ => by simp at h
  | _ :: _, [], _, _, _, h, _, _, _ => by simp at h
end
end Go.Proofs.YtefoddjclngckaaGreat
