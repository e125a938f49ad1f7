/- What each operation that only reads makes of a state of data. No walk.
Operations that only read: places, lengths, parts. No walk. -/
import Derived.Test.YtmjildbdkecolaaGreatPsr03
set_option linter.unusedSimpArgs false
set_option linter.unusedVariables false
set_option linter.unnecessarySimpa false
namespace Go.Proofs.YtmjildbdkecolaaGreat
open Go.RowKit

/-- A type's facts; a function's. -/
class TI (P : Program) (t : TypeId) (i : outParam TypeInfo) (d : outParam TypeDesc) : Prop where
 info : P.info? t = some i
 under : P.underlying t = some d
class FI (P : Program) (f : FuncId) (fn : outParam Func) : Prop where
 func : P.funcs[f]? = some fn
 enters : ∀ args w, (callFunc f args).run P w = .ok (.enter f args) w
/-- One operation in a region: what it reads of boxes, what it makes. -/
structure Rec where
 names : List Nat
 dst : Option Nat
 r : D
 ws : List (Nat × Option Box)
 fresh : List Nat
def slotsOf (o : Oper) : List Nat := o.op.operands.toList.filterMap fun x => match x with | .tmp t => some t | _ => none
def Opd (E : Nat → D) (x : Operand) (d : D) : Prop :=
 match x with
 | .tmp t => E t = d
 | .const v => d = .val v
 | .global g => d = .val (.pointer (some ⟨g, 0, none⟩))
 | .func f => d = .val (.func (.func f) #[] #[])
def AStep (P : Program) (N : Nat) (o : Oper) (E : Nat → D) (H : Nat → Option Box) (E' : Nat → D) (H' : Nat → Option Box) : Prop :=
 ∀ S a w, S.N = N → RepS S E H a w → ∀ (K : Act → World → Prop) (Q : Exit → Act → World → Prop), (∀ a' w', RepS S E' H' a' w' → K a' w') → o.wp P a w K Q
def Loc (P : Program) (N : Nat) (o : Oper) (E : Nat → D) (H : Nat → Option Box) (R : Rec) : Prop :=
 R.dst = o.dst ∧ (∀ c, o.op ≠ .defer c) ∧ ∀ E1 H1, (∀ t, t ∈ slotsOf o → E1 t = E t) → (∀ k, k ∈ R.names → H1 k = H k) → (∀ k, k ∈ R.fresh → H1 k = none ∧ 1000 ≤ k) → AStep P N o E1 H1 (updE E1 R.dst R.r) (updH H1 R.ws)
def dstLt (o : Oper) (N : Nat) : Bool := match o.dst with | some d => Nat.blt d N | none => true
theorem dstLt_spec {o : Oper} {N : Nat} (h : dstLt o N = true) : ∀ d, o.dst = some d → d < N := by
 intro d hd
 simp only [dstLt, hd, Nat.blt_eq] at h
 exact h
theorem Opd.agree {E E1 : Nat → D} {o : Oper} {x : Operand} {d : D} (hx : x ∈ o.op.operands) (h : ∀ t, t ∈ slotsOf o → E1 t = E t) (hd : Opd E x d) : Opd E1 x d := by
 cases x with
 | tmp t => exact (h t (List.mem_filterMap.2 ⟨.tmp t, by simpa using hx, rfl⟩)).trans hd
 | _ => exact hd
section
variable {P : Program} {N : Nat} {o : Oper} {E E1 : Nat → D} {H H1 : Nat → Option Box} {S : Cx} {Z : Zn} {i : Nm} {a : Act} {w : World}
theorem Fits.opd (h : Fits S E H Z i a w) {x : Operand} {d : D} (hx : Opd E x d) : Rep Z w i (a.eval x) d := by
 cases x with
 | tmp t => obtain rfl := hx; exact h.env t
 | const v => obtain rfl := hx; exact .val _ _
 | global g => obtain rfl := hx; exact .val _ _
 | func f => obtain rfl := hx; exact .val _ _
/-- An operation that only reads. -/
theorem loc_run {names : List Nat} {r : D} (hnd : ∀ c, o.op ≠ .defer c) (hd : dstLt o N = true)
  (h : ∀ (E1 : Nat → D) (H1 : Nat → Option Box) (S : Cx) (Z : Zn) (i : Nm) (a : Act) (w : World), Fits S E1 H1 Z i a w → (∀ x, x ∈ o.op.operands → ∀ d, Opd E x d → Opd E1 x d) → (∀ k, k ∈ names → H1 k = H k) → ∃ v, (execOp a.eval o).run P w = .ok (.value v) w ∧ Rep Z w i v r) :
  Loc P N o E H ⟨names, o.dst, r, [], []⟩ := by
 refine ⟨rfl, hnd, fun E1 H1 h1 h2 _ S a w hN hR K Q hK => ?_⟩
 obtain ⟨Z, i, hF⟩ := hR
 obtain ⟨v, hv, hr⟩ := h E1 H1 S Z i a w hF (fun x hx d hd => hd.agree hx h1) h2
 unfold Oper.wp
 rw [hv]
 exact hK _ _ ⟨Z, i, hF.put (by rw [hN]; exact dstLt_spec hd) hr⟩
theorem loc_move {x : Operand} {d : D} (ho : o.op = .move x ∨ o.op = .assign x) (hd : dstLt o N = true) (hx : Opd E x d) : Loc P N o E H ⟨[], o.dst, d, [], []⟩ :=
 loc_run (by rcases ho with ho | ho <;> simp [ho]) hd (fun E1 H1 S Z i a w hF hA _ => by
  refine ⟨a.eval x, ?_, hF.opd (hA x (by rcases ho with ho | ho <;> simp [ho, Op.operands]) d hx)⟩
  rcases ho with ho | ho <;> simp [execOp, ho])
theorem loc_pick {c x y : Operand} {t : Bool} {d : D} (ho : o.op = .pick c x y) (hd : dstLt o N = true) (hc : Opd E c (.val (.bool t))) (hx : t = true → Opd E x d) (hy : t = false → Opd E y d) : Loc P N o E H ⟨[], o.dst, d, [], []⟩ :=
 loc_run (by simp [ho]) hd (fun E1 H1 S Z i a w hF hA _ => by
  have h1 := (hF.opd (hA c (by simp [ho, Op.operands]) _ hc)).valEq
  have h2 := hF.opd (hA (if t then x else y) (by cases t <;> simp [ho, Op.operands]) d (by cases t; exact hy rfl; exact hx rfl))
  refine ⟨a.eval (if t then x else y), ?_, h2⟩
  simp [execOp, ho, h1, asBool]
  cases t <;> simp [Result.andThen])
/-- Data under a condition. -/
def when (b : Bool) (d : D) : D := match b with | true => d | false => .val undef
theorem loc_and {c x : Operand} {s t : Bool} (ho : o.op = .pick c x (.const (.bool false))) (hd : dstLt o N = true) (hc : Opd E c (.val (.bool s))) (hx : Opd E x (when (s == true) (.val (.bool t)))) : Loc P N o E H ⟨[], o.dst, .val (.bool (s && t)), [], []⟩ :=
 loc_pick ho hd hc (fun e => by subst e; exact hx) (fun e => by subst e; rfl)
theorem loc_or {c x : Operand} {s t : Bool} (ho : o.op = .pick c (.const (.bool true)) x) (hd : dstLt o N = true) (hc : Opd E c (.val (.bool s))) (hx : Opd E x (when (s == false) (.val (.bool t)))) : Loc P N o E H ⟨[], o.dst, .val (.bool (s || t)), [], []⟩ :=
 loc_pick ho hd hc (fun e => by subst e; rfl) (fun e => by subst e; exact hx)
theorem loc_bin {op : BinOp} {t ty : TypeId} {x y : Operand} {vx vy r : Value} (ho : o.op = .binOp op t x y ty) (hd : dstLt o N = true) (hx : Opd E x (.val vx)) (hy : Opd E y (.val vy))
  (hr : ∀ w, (do eqGuard op t x y vx vy; binOp op t vx vy : Sem Value).run P w = .ok r w) : Loc P N o E H ⟨[], o.dst, .val r, [], []⟩ :=
 loc_run (by simp [ho]) hd (fun E1 H1 S Z i a w hF hA _ => by
  have h1 := (hF.opd (hA x (by simp [ho, Op.operands]) _ hx)).valEq
  have h2 := (hF.opd (hA y (by simp [ho, Op.operands]) _ hy)).valEq
  have h3 := hr w
  refine ⟨r, ?_, .val _ _⟩
  simp only [execOp, ho, h1, h2]
  rw [Sem.run_bind, h3]
  rfl)
theorem loc_un {op : UnOp} {t : TypeId} {x : Operand} {vx r : Value} (ho : o.op = .unOp op t x) (hd : dstLt o N = true) (hx : Opd E x (.val vx)) (hr : ∀ w, (Op.unary op vx).run P w = .ok r w) : Loc P N o E H ⟨[], o.dst, .val r, [], []⟩ :=
 loc_run (by simp [ho]) hd (fun E1 H1 S Z i a w hF hA _ => by
  have h1 := (hF.opd (hA x (by simp [ho, Op.operands]) _ hx)).valEq
  refine ⟨r, ?_, .val _ _⟩
  simp only [execOp, ho, h1]
  rw [Sem.run_bind, hr w]
  rfl)
theorem loc_conv {s t : TypeId} {x : Operand} {vx r : Value} (ho : o.op = .convert s t x) (hd : dstLt o N = true) (hx : Opd E x (.val vx)) (hr : ∀ w, (convert s t vx).run P w = .ok r w) : Loc P N o E H ⟨[], o.dst, .val r, [], []⟩ :=
 loc_run (by simp [ho]) hd (fun E1 H1 S Z i a w hF hA _ => by
  have h1 := (hF.opd (hA x (by simp [ho, Op.operands]) _ hx)).valEq
  refine ⟨r, ?_, .val _ _⟩
  simp only [execOp, ho, h1]
  rw [Sem.run_bind, hr w]
  rfl)
theorem loc_extract {x : Operand} {ix : Nat} {l : List D} (ho : o.op = .extract x ix) (hd : dstLt o N = true) (hx : Opd E x (.tup l)) (hi : Nat.blt ix l.length = true) : Loc P N o E H ⟨[], o.dst, dl l ix, [], []⟩ :=
 loc_run (by simp [ho]) hd (fun E1 H1 S Z i a w hF hA _ => by
  have h1 := hF.opd (hA x (by simp [ho, Op.operands]) _ hx)
  replace hi : ix < l.length := by simpa using hi
  generalize hv : a.eval x = v at h1
  cases h1 with | tup _ vs _ hl hr =>
  refine ⟨vs.getD ix undef, ?_, hr ix hi⟩
  simp only [execOp, ho, hv, Instr.extract]
  have : vs.toArray[ix]? = some (vs.getD ix undef) := by rw [List.getElem?_toArray, List.getD_eq_getElem?_getD, List.getElem?_eq_getElem (by omega)]; rfl
  rw [this]
  rfl)
/-- A variable of a type is read. -/
def LoadIs (P : Program) (t : TypeId) (n : Nat) (ag : Bool) : Prop := (ag = false → n = 1) ∧ ∀ (ad : Addr) (cs : Nat → Value) (w : World), (∀ j, j < n → w.cell? (ad.add j) = some (cs j)) → (loadVar t ad).run P w = .ok (if ag then .agg ((List.range n).map cs).toArray else cs 0) w
def isAggD : TypeDesc → Bool
 | .struct _ => true
 | .array _ _ => true
 | _ => false
theorem LoadIs.mk {t : TypeId} {info : TypeInfo} {d : TypeDesc} [hT : TI P t info d] : LoadIs P t (match isAggD d with | true => info.size | false => 1) (isAggD d) := by
 have hu := hT.under
 have hi := hT.info
 refine ⟨fun h => by rw [h], fun ad cs w hc => ?_⟩
 have h2 : (sizeOf t).run P w = .ok info.size w := by simp [sizeOf, typeInfo, hi, Result.andThen]
 cases hd : isAggD d with
 | true =>
  rw [hd] at hc
  unfold loadVar isAgg
  cases d <;> simp [isAggD] at hd <;> simp [run_underlying hu, Result.andThen, h2, run_loadCells w ad info.size cs hc]
 | false =>
  rw [hd] at hc
  have h0 := hc 0 (by simp)
  rw [show ad.add 0 = ad by simp [Addr.add]] at h0
  unfold loadVar isAgg
  cases d <;> simp_all [run_underlying hu, Result.andThen, isAggD]
/-- What is read of n cells. -/
def ldD (ag : Bool) (l : List D) : D := match ag with | true => .agg l | false => dl l 0
def takeL : Nat → List D → List D
 | 0, _ => []
 | _ + 1, [] => []
 | n + 1, d :: l => d :: takeL n l
def dropL : Nat → List D → List D
 | 0, l => l
 | _ + 1, [] => []
 | n + 1, _ :: l => dropL n l
theorem takeL_eq : ∀ (n : Nat) (l : List D), takeL n l = l.take n
 | 0, l => by simp [takeL]
 | _ + 1, [] => rfl
 | n + 1, d :: l => by simp [takeL, takeL_eq n l]
theorem dropL_eq : ∀ (n : Nat) (l : List D), dropL n l = l.drop n
 | 0, l => by simp [dropL]
 | _ + 1, [] => rfl
 | n + 1, d :: l => by simp [dropL, dropL_eq n l]
theorem dl_seg {l : List D} {c n j : Nat} (hj : j < n) : dl (takeL n (dropL c l)) j = dl l (c + j) := by
 rw [takeL_eq, dropL_eq, dl_eq, dl_eq, List.getD_eq_getElem?_getD, List.getD_eq_getElem?_getD, List.getElem?_take, if_pos hj, List.getElem?_drop]
theorem dl_drop {l : List D} {c j : Nat} : dl (dropL c l) j = dl l (c + j) := by
 rw [dropL_eq, dl_eq, dl_eq, List.getD_eq_getElem?_getD, List.getD_eq_getElem?_getD, List.getElem?_drop]
theorem len_seg {l : List D} {c n : Nat} (h : c + n ≤ l.length) : (takeL n (dropL c l)).length = n := by
 rw [takeL_eq, dropL_eq]; simp; omega
theorem ldD_rep {ag : Bool} {n : Nat} {l : List D} {cs : Nat → Value} (h0 : ag = false → n = 1) (hl : l.length = n) (h : ∀ j, j < n → (cs j).oneCell' = true ∧ Rep Z w i (cs j) (dl l j)) : Rep Z w i (if ag then .agg ((List.range n).map cs).toArray else cs 0) (ldD ag l) := by
 cases ag with
 | false => exact (h 0 (by rw [h0 rfl]; omega)).2
 | true =>
  have hg : ∀ j, j < l.length → ((List.range n).map cs).getD j undef = cs j := fun j hj => by
   rw [List.getD_eq_getElem?_getD, List.getElem?_map, List.getElem?_range (by omega)]; rfl
  exact .agg i _ l (by simp [hl]) (fun j hj => by rw [hg j hj]; exact (h j (by omega)).1) (fun j hj => by rw [hg j hj]; exact (h j (by omega)).2)
theorem run_loadOp {t : TypeId} {x : Operand} {n : Nat} {ag : Bool} {ad : Addr} {cs : Nat → Value} (ho : o.op = .load t x) (hL : LoadIs P t n ag) (hx : a.eval x = .pointer (some ad)) (hc : ∀ j, j < n → w.cell? (ad.add j) = some (cs j)) : (execOp a.eval o).run P w = .ok (.value (if ag then .agg ((List.range n).map cs).toArray else cs 0)) w := by
 have h := hL.2 ad cs w hc
 simp only [execOp, ho, hx, Instr.loadAt, Instr.sureAddr]
 simp only [pure_bind, Sem.run_bind, h]
 rfl
theorem addr_add (b o j : Nat) : (⟨b, o, none⟩ : Addr).add j = ⟨b, o + j, none⟩ := by
 unfold Addr.add; split
 ·subst_vars; rfl
 ·rfl
theorem loc_load_lit {t t' : TypeId} {x : Operand} {k n m e c : Nat} {ag : Bool} {ds : List D} (ho : o.op = .load t x) (hd : dstLt o N = true) (hL : LoadIs P t n ag) (hx : Opd E x (.eptr k m e c)) (he : e * m = 0) (hk : H k = some (.lit t' ds)) (hc : Nat.ble (c + n) ds.length = true) : Loc P N o E H ⟨[k], o.dst, ldD ag (takeL n (dropL c ds)), [], []⟩ :=
 loc_run (by simp [ho]) hd (fun E1 H1 S Z i a w hF hA hN => by
  have h1 := hF.opd (hA x (by simp [ho, Op.operands]) _ hx)
  replace hc := Nat.le_of_ble_eq_true hc
  generalize hv : a.eval x = v at h1
  cases h1 with | @eptr _ b _ _ _ _ _ hib =>
  have hk1 := hN k (by simp)
  rw [hk] at hk1
  rcases hF.box k _ hk1 with ⟨b', _, e1, _, _, _, cs, hB, hs, hall⟩ | ⟨q, _⟩
  ·rw [hib] at e1; cases e1
   refine ⟨_, run_loadOp ho hL hv (cs := fun j => cs.getD (c + j) undef) (fun j hj => ?_), ldD_rep hL.1 (len_seg hc) (fun j hj => by rw [dl_seg hj]; exact hall (c + j) (by omega))⟩
   rw [addr_add, he, Nat.zero_add]
   exact hB.cell _ (by omega)
  ·rw [hib] at q; cases q)
theorem loc_load_litE {t t' : TypeId} {x : Operand} {k n m e c c0 : Nat} {ag : Bool} {ds : List D} (ho : o.op = .load t x) (hd : dstLt o N = true) (hL : LoadIs P t n ag) (hx : Opd E x (.eptr k m e c)) (he : e * m + c = c0) (hk : H k = some (.lit t' ds)) (hc : Nat.ble (c0 + n) ds.length = true) : Loc P N o E H ⟨[k], o.dst, ldD ag (takeL n (dropL c0 ds)), [], []⟩ :=
 loc_run (by simp [ho]) hd (fun E1 H1 S Z i a w hF hA hN => by
  have h1 := hF.opd (hA x (by simp [ho, Op.operands]) _ hx)
  replace hc := Nat.le_of_ble_eq_true hc
  generalize hv : a.eval x = v at h1
  cases h1 with | @eptr _ b _ _ _ _ _ hib =>
  have hk1 := hN k (by simp)
  rw [hk] at hk1
  rcases hF.box k _ hk1 with ⟨b', _, e1, _, _, _, cs, hB, hs, hall⟩ | ⟨q, _⟩
  ·rw [hib] at e1; cases e1
   refine ⟨_, run_loadOp ho hL hv (cs := fun j => cs.getD (c0 + j) undef) (fun j hj => ?_), ldD_rep hL.1 (len_seg hc) (fun j hj => by rw [dl_seg hj]; exact hall (c0 + j) (by omega))⟩
   rw [addr_add, he]
   exact hB.cell _ (by omega)
  ·rw [hib] at q; cases q)
theorem ArrAt.cellAt {b cap : Nat} {t : TypeId} {n m e c : Nat} {f : Nat → List D} (h : ArrAt Z w b cap t n m f) (he : e < n) (hc : c < m) : ∃ v, w.cell? ⟨b, e * m + c, none⟩ = some v ∧ v.oneCell' = true ∧ Rep Z w noN v (dl (f e) c) := by
 obtain ⟨cs, hB, hs, hn, _, hall⟩ := h
 have hlt : e * m + c < cs.size := by
  rw [hs]
  have : (e + 1) * m ≤ cap * m := Nat.mul_le_mul_right m (by omega)
  rw [Nat.add_mul] at this
  omega
 exact ⟨_, hB.cell _ hlt, hall e c he hc⟩
def isArr (B : Option Box) (n m : Nat) (f : Nat → List D) : Prop := ∃ t, B = some (.arr t n m f) ∨ B = some (.ice t n m f)
theorem Fits.arr (h : Fits S E H Z i a w) {k n m b : Nat} {cap : Cp} {f : Nat → List D} (hk : isArr (H k) n m f) (hi : i k = some (some (b, cap))) : ∃ t cap, ArrAt Z w b cap t n m f := by
 obtain ⟨t, hk | hk⟩ := hk
 ·rcases h.box k _ hk with ⟨b', c', e1, _, _, _, h5⟩ | ⟨q, _⟩
  ·rw [hi] at e1; cases e1; exact ⟨t, _, h5⟩
  ·rw [hi] at q; cases q
 ·rcases h.box k _ hk with ⟨b', c', e1, _, _, _, h5⟩ | ⟨q, _⟩
  ·rw [hi] at e1; cases e1; exact ⟨t, h5⟩
  ·rw [hi] at q; cases q
theorem loc_load_arr {t : TypeId} {x : Operand} {k n n' m e c : Nat} {ag : Bool} {f : Nat → List D} (ho : o.op = .load t x) (hd : dstLt o N = true) (hL : LoadIs P t n ag) (hx : Opd E x (.eptr k m e c)) (hk : isArr (H k) n' m f) (hc : Nat.ble (c + n) m = true) (he : e < n') : Loc P N o E H ⟨[k], o.dst, ldD ag (takeL n (dropL c (f e))), [], []⟩ :=
 loc_run (by simp [ho]) hd (fun E1 H1 S Z i a w hF hA hN => by
  have h1 := hF.opd (hA x (by simp [ho, Op.operands]) _ hx)
  replace hc := Nat.le_of_ble_eq_true hc
  generalize hv : a.eval x = v at h1
  cases h1 with | @eptr _ b cp _ _ _ _ hib =>
  have hk1 := hN k (by simp)
  obtain ⟨t', cp, hAr⟩ := hF.arr (hk1.symm ▸ hk) hib
  have hfl : (f e).length = m := by obtain ⟨_, _, _, _, h, _⟩ := hAr; exact h e he
  have hcell : ∀ j, j < n → ∃ v, w.cell? ⟨b, e * m + (c + j), none⟩ = some v ∧ v.oneCell' = true ∧ Rep Z w noN v (dl (f e) (c + j)) := fun j hj => hAr.cellAt he (by omega)
  refine ⟨_, run_loadOp ho hL hv (cs := fun j => (w.cell? ⟨b, e * m + (c + j), none⟩).getD undef) (fun j hj => ?_), ldD_rep hL.1 (len_seg (by omega)) (fun j hj => ?_)⟩
  ·obtain ⟨v, h1, _⟩ := hcell j hj
   rw [addr_add, Nat.add_assoc, h1]; rfl
  ·obtain ⟨v, h1, h2, h3⟩ := hcell j hj
   rw [dl_seg hj, h1]
   exact ⟨h2, h3.of_noN⟩)
theorem loc_load_fz {t : TypeId} {x : Operand} {n : Nat} {ag q : Bool} {l : List D} (ho : o.op = .load t x) (hd : dstLt o N = true) (hL : LoadIs P t n ag) (hx : Opd E x (.fptr q l)) (hn : n ≤ l.length) : Loc P N o E H ⟨[], o.dst, ldD ag (takeL n l), [], []⟩ :=
 loc_run (by simp [ho]) hd (fun E1 H1 S Z i a w hF hA hN => by
  have h1 := hF.opd (hA x (by simp [ho, Op.operands]) _ hx)
  generalize hv : a.eval x = v at h1
  cases h1 with | fptr _ _ b o' _ vs ha hr =>
  have e0 : takeL n l = takeL n (dropL 0 l) := rfl
  refine ⟨_, run_loadOp ho hL hv (cs := vs) (fun j hj => ?_), ldD_rep hL.1 (by rw [e0]; exact len_seg (by omega)) (fun j hj => ⟨(ha j (by omega)).2.2, ?_⟩)⟩
  ·rw [addr_add]
   exact (ha j (by omega)).2.1
  ·rw [e0, dl_seg hj, Nat.zero_add]
   exact (hr j (by omega)).of_noN)
/-- A field's place. -/
def FieldIs (P : Program) (s : TypeId) (f off : Nat) : Prop := ∀ (ad : Addr) (w : World), (Instr.fieldAt s (.pointer (some ad)) f).run P w = .ok (.pointer (some (ad.add off))) w
theorem FieldIs.mk {s : TypeId} {f : Nat} {info info' : TypeInfo} {fs : Array Field} {d' : TypeDesc} {fl : Field} [hT : TI P s info (.struct fs)] (hf : fs[f]? = some fl) [hT' : TI P fl.type info' d'] (h0 : (info'.size == 0) = false) : FieldIs P s f fl.offset := by
 intro ad w
 have h2 : (sizeOf fl.type).run P w = .ok info'.size w := by simp [sizeOf, typeInfo, hT'.info, Result.andThen]
 have h3 : ¬ info'.size = 0 := by simpa using h0
 simp [Instr.fieldAt, run_underlying hT.under, Result.andThen, hf, Instr.sureAddr, fieldPlace, h2, h3]
theorem run_fieldOp {s : TypeId} {x : Operand} {f off : Nat} {ad : Addr} (ho : o.op = .fieldAddr s x f) (hL : FieldIs P s f off) (hx : a.eval x = .pointer (some ad)) : (execOp a.eval o).run P w = .ok (.value (.pointer (some (ad.add off)))) w := by
 simp only [execOp, ho, hx]
 rw [Sem.run_bind, hL ad w]
 rfl
theorem loc_field {s : TypeId} {x : Operand} {f off k m e c : Nat} (ho : o.op = .fieldAddr s x f) (hd : dstLt o N = true) (hL : FieldIs P s f off) (hx : Opd E x (.eptr k m e c)) : Loc P N o E H ⟨[], o.dst, .eptr k m e (c + off), [], []⟩ :=
 loc_run (by simp [ho]) hd (fun E1 H1 S Z i a w hF hA hN => by
  have h1 := hF.opd (hA x (by simp [ho, Op.operands]) _ hx)
  generalize hv : a.eval x = v at h1
  cases h1 with | @eptr _ b _ _ _ _ _ hib =>
  refine ⟨_, run_fieldOp ho hL hv, ?_⟩
  rw [addr_add, Nat.add_assoc]
  exact .eptr _ _ _ _ _ hib)
theorem loc_field_fz {s : TypeId} {x : Operand} {f off : Nat} {q : Bool} {l : List D} (ho : o.op = .fieldAddr s x f) (hd : dstLt o N = true) (hL : FieldIs P s f off) (hx : Opd E x (.fptr q l)) : Loc P N o E H ⟨[], o.dst, .fptr q (dropL off l), [], []⟩ :=
 loc_run (by simp [ho]) hd (fun E1 H1 S Z i a w hF hA hN => by
  have h1 := hF.opd (hA x (by simp [ho, Op.operands]) _ hx)
  generalize hv : a.eval x = v at h1
  cases h1 with | fptr _ _ b o' _ vs ha hr =>
  refine ⟨_, run_fieldOp ho hL hv, ?_⟩
  rw [addr_add]
  have hl : (dropL off l).length = l.length - off := by rw [dropL_eq]; simp
  exact .fptr _ _ _ _ _ (fun j => vs (off + j)) (fun j hj => by rw [Nat.add_assoc]; exact ha _ (by omega)) (fun j hj => by rw [dl_drop]; exact hr _ (by omega)))
/-- A part of a value that is a row of cells. -/
def PartIs (P : Program) (t : TypeId) (n : Nat) (ag : Bool) : Prop := (ag = false → n = 1) ∧ ∀ (vs : List Value) (off : Nat) (w : World), off + n ≤ vs.length → (part t vs.toArray off).run P w = .ok (if ag then .agg ((List.range n).map fun j => vs.getD (off + j) undef).toArray else vs.getD off undef) w
theorem loc_fieldV {s : TypeId} {x : Operand} {f n : Nat} {ag : Bool} {l : List D} {info : TypeInfo} {fs : Array Field} {fl : Field} (ho : o.op = .field s x f) (hd : dstLt o N = true) [hT : TI P s info (.struct fs)] (hf : fs[f]? = some fl) (hP : PartIs P fl.type n ag) (hx : Opd E x (.agg l)) (hc : Nat.ble (fl.offset + n) l.length = true) : Loc P N o E H ⟨[], o.dst, ldD ag (takeL n (dropL fl.offset l)), [], []⟩ :=
 loc_run (by simp [ho]) hd (fun E1 H1 S Z i a w hF hA hN => by
  have h1 := hF.opd (hA x (by simp [ho, Op.operands]) _ hx)
  replace hc := Nat.le_of_ble_eq_true hc
  generalize hv : a.eval x = v at h1
  cases h1 with | agg _ vs _ hl h1 hr =>
  have hp := hP.2 vs fl.offset w (by omega)
  have := ldD_rep (Z := Z) (w := w) (i := i) (cs := fun j => vs.getD (fl.offset + j) undef) hP.1 (len_seg hc) (fun j hj => ⟨h1 _ (by omega), by rw [dl_seg hj]; exact hr _ (by omega)⟩)
  refine ⟨_, ?_, this⟩
  simp only [execOp, ho, hv, Instr.field]
  simp [run_underlying hT.under, Result.andThen, hf, asAgg, hp])
/-- An element's place. -/
def IndexIs (P : Program) (t : TypeId) (m : Nat) : Prop := ∀ (b o len cap : Nat) (k : IntKind) (e : Nat) (w : World), e < len → (Instr.indexAt t (.slice (some ⟨b, o, none⟩) len cap) (.int k (e : Int))).run P w = .ok (.pointer (some ⟨b, o + e * m, none⟩)) w
end
open Go.RowKit

section
variable {P : Program} {N : Nat} {o : Oper} {E E1 : Nat → D} {H H1 : Nat → Option Box} {S : Cx} {Z : Zn} {i : Nm} {a : Act} {w : World}
theorem IndexIs.mk {t el : TypeId} {info info' : TypeInfo} {d' : TypeDesc} [hT : TI P t info (.slice el)] [hT' : TI P el info' d'] : IndexIs P t info'.size := by
 intro b o' len cap k e w he
 have hu := hT.under
 have h2 : (sizeOf el).run P w = .ok info'.size w := by simp [sizeOf, typeInfo, hT'.info, Result.andThen]
 have h3 : (0 : Int) ≤ (e : Int) ∧ (e : Int) < (len : Int) := ⟨Int.natCast_nonneg _, by omega⟩
 have hel : P.elem t = el := by simp [Program.elem, hu]
 rw [run_indexAt_slice w t _ _ _ _ _ (by rw [hel]; exact hu), if_pos h3, hel, h2]
 simp [Result.andThen, addr_add]
theorem run_indexOp {t : TypeId} {x y : Operand} {m b o' len cap : Nat} {k : IntKind} {e : Nat} (ho : o.op = .indexAddr t x y) (hL : IndexIs P t m) (hx : a.eval x = .slice (some ⟨b, o', none⟩) len cap) (hy : a.eval y = .int k (e : Int)) (he : e < len) : (execOp a.eval o).run P w = .ok (.value (.pointer (some ⟨b, o' + e * m, none⟩))) w := by
 simp only [execOp, ho, hx, hy]
 rw [Sem.run_bind, hL b o' len cap k e w he]
 rfl
/-- A number that is an index below n. -/
def IdxIs (z : Int) (n e : Nat) : Prop := z = (e : Int) ∧ e < n
theorem IdxIs.nat {e n : Nat} (h : e < n) : IdxIs (e : Int) n e := ⟨rfl, h⟩
theorem IdxIs.num {e n : Nat} (h : e < n) : IdxIs (OfNat.ofNat e) n e := ⟨rfl, h⟩
theorem IdxIs.int {z : Int} {n : Nat} (h0 : 0 ≤ z) (h : z < (n : Int)) : IdxIs z n z.toNat := ⟨by omega, by omega⟩
theorem loc_index {t : TypeId} {x y : Operand} {k m len e : Nat} {kd : IntKind} {z : Int} (ho : o.op = .indexAddr t x y) (hd : dstLt o N = true) (hL : IndexIs P t m) (hx : Opd E x (.sl k m len)) (hy : Opd E y (.val (.int kd z))) (hz : IdxIs z len e) : Loc P N o E H ⟨[], o.dst, .eptr k m e 0, [], []⟩ :=
 loc_run (by simp [ho]) hd (fun E1 H1 S Z i a w hF hA hN => by
  have h1 := hF.opd (hA x (by simp [ho, Op.operands]) _ hx)
  have h2 := (hF.opd (hA y (by simp [ho, Op.operands]) _ hy)).valEq
  obtain ⟨rfl, he⟩ := hz
  generalize hv : a.eval x = v at h1
  cases h1 with
  | @sl _ b _ _ _ cap hib _ _ =>
   refine ⟨_, run_indexOp ho hL hv h2 he, ?_⟩
   rw [Nat.zero_add]
   exact .eptr _ _ _ _ 0 hib
  | sl0 _ _ _ hib => omega)
theorem loc_index_fz {t : TypeId} {x y : Operand} {n m e : Nat} {q : Bool} {f : Nat → List D} {kd : IntKind} {z : Int} (ho : o.op = .indexAddr t x y) (hd : dstLt o N = true) (hL : IndexIs P t m) (hx : Opd E x (.fz q n m f)) (hy : Opd E y (.val (.int kd z))) (hm : Nat.blt 0 m = true) (hz : IdxIs z n e) : Loc P N o E H ⟨[], o.dst, .fptr q (f e), [], []⟩ :=
 loc_run (by simp [ho]) hd (fun E1 H1 S Z i a w hF hA hN => by
  have h1 := hF.opd (hA x (by simp [ho, Op.operands]) _ hx)
  have h2 := (hF.opd (hA y (by simp [ho, Op.operands]) _ hy)).valEq
  replace hm : 0 < m := by simpa using hm
  obtain ⟨rfl, he⟩ := hz
  generalize hv : a.eval x = v at h1
  cases h1 with
  | fz _ _ ao _ cap _ _ vs q1 q2 hl ha hr =>
   obtain ⟨b, o', rfl, _⟩ := ha e 0 he hm
   refine ⟨_, run_indexOp ho hL hv h2 he, ?_⟩
   have hfe := hl e he
   refine .fptr _ _ _ _ _ (vs e) (fun c hc => ?_) (fun c hc => hr e c he (by omega))
   obtain ⟨b2, o2, e2, r1, r2, r3⟩ := ha e c he (by omega)
   cases e2
   rw [Nat.add_assoc]
   exact ⟨r1, r2, r3⟩)
/-- An array variable's element. -/
def IndexArr (P : Program) (t : TypeId) (n m : Nat) : Prop := ∀ (b o : Nat) (k : IntKind) (e : Nat) (w : World), e < n → (Instr.indexAt t (.pointer (some ⟨b, o, none⟩)) (.int k (e : Int))).run P w = .ok (.pointer (some ⟨b, o + e * m, none⟩)) w
theorem IndexArr.mk {t el : TypeId} {n : Nat} {info info' : TypeInfo} {d' : TypeDesc} [hT : TI P t info (.array n el)] [hT' : TI P el info' d'] : IndexArr P t n info'.size := by
 intro b o' k e w he
 have h2 : (sizeOf el).run P w = .ok info'.size w := by simp [sizeOf, typeInfo, hT'.info, Result.andThen]
 have h3 : (0 : Int) ≤ (e : Int) ∧ (e : Int) < (n : Int) := ⟨Int.natCast_nonneg _, by omega⟩
 have h4 : ¬ n ≤ e := by omega
 simp [Instr.indexAt, asIntOf, run_underlying hT.under, Instr.sureAddr, Result.andThen, h3, h2, addr_add, h4]
theorem run_indexArrOp {t : TypeId} {x y : Operand} {n m b o' : Nat} {k : IntKind} {e : Nat} (ho : o.op = .indexAddr t x y) (hL : IndexArr P t n m) (hx : a.eval x = .pointer (some ⟨b, o', none⟩)) (hy : a.eval y = .int k (e : Int)) (he : e < n) : (execOp a.eval o).run P w = .ok (.value (.pointer (some ⟨b, o' + e * m, none⟩))) w := by
 simp only [execOp, ho, hx, hy]
 rw [Sem.run_bind, hL b o' k e w he]
 rfl
theorem loc_index_arr {t : TypeId} {x y : Operand} {k m n e : Nat} {kd : IntKind} {z : Int} (ho : o.op = .indexAddr t x y) (hd : dstLt o N = true) (hL : IndexArr P t n m) (hx : Opd E x (.eptr k m 0 0)) (hy : Opd E y (.val (.int kd z))) (hz : IdxIs z n e) : Loc P N o E H ⟨[], o.dst, .eptr k m e 0, [], []⟩ :=
 loc_run (by simp [ho]) hd (fun E1 H1 S Z i a w hF hA hN => by
  have h1 := hF.opd (hA x (by simp [ho, Op.operands]) _ hx)
  have h2 := (hF.opd (hA y (by simp [ho, Op.operands]) _ hy)).valEq
  obtain ⟨rfl, he⟩ := hz
  generalize hv : a.eval x = v at h1
  cases h1 with
  | @eptr _ b cap _ _ _ _ hib =>
   refine ⟨_, run_indexArrOp ho hL hv h2 he, ?_⟩
   simp only [Nat.zero_mul, Nat.zero_add]
   exact .eptr _ _ _ _ 0 hib)
theorem loc_index_arrf {t : TypeId} {x y : Operand} {m n e : Nat} {q : Bool} {l : List D} {kd : IntKind} {z : Int} (ho : o.op = .indexAddr t x y) (hd : dstLt o N = true) (hL : IndexArr P t n m) (hx : Opd E x (.fptr q l)) (hy : Opd E y (.val (.int kd z))) (hz : IdxIs z n e) : Loc P N o E H ⟨[], o.dst, .fptr q (dropL (e * m) l), [], []⟩ :=
 loc_run (by simp [ho]) hd (fun E1 H1 S Z i a w hF hA hN => by
  have h1 := hF.opd (hA x (by simp [ho, Op.operands]) _ hx)
  have h2 := (hF.opd (hA y (by simp [ho, Op.operands]) _ hy)).valEq
  obtain ⟨rfl, he⟩ := hz
  generalize hv : a.eval x = v at h1
  cases h1 with
  | fptr _ _ b p _ vs ha hr =>
   refine ⟨_, run_indexArrOp ho hL hv h2 he, ?_⟩
   have hl : (dropL (e * m) l).length = l.length - e * m := by rw [dropL_eq]; simp
   exact .fptr _ _ _ _ _ (fun j => vs (e * m + j)) (fun j hj => by rw [Nat.add_assoc]; exact ha _ (by omega)) (fun j hj => by rw [dl_drop]; exact hr _ (by omega)))
theorem loc_index_arrL {t : TypeId} {x y : Operand} {k c m n e : Nat} {kd : IntKind} {z : Int} (ho : o.op = .indexAddr t x y) (hd : dstLt o N = true) (hL : IndexArr P t n m) (hx : Opd E x (.eptr k 0 0 c)) (hy : Opd E y (.val (.int kd z))) (hz : IdxIs z n e) : Loc P N o E H ⟨[], o.dst, .eptr k 0 0 (c + e * m), [], []⟩ :=
 loc_run (by simp [ho]) hd (fun E1 H1 S Z i a w hF hA hN => by
  have h1 := hF.opd (hA x (by simp [ho, Op.operands]) _ hx)
  have h2 := (hF.opd (hA y (by simp [ho, Op.operands]) _ hy)).valEq
  obtain ⟨rfl, he⟩ := hz
  generalize hv : a.eval x = v at h1
  cases h1 with
  | @eptr _ b cap _ _ _ _ hib =>
   refine ⟨_, run_indexArrOp ho hL hv h2 he, ?_⟩
   have := Rep.eptr (Z := Z) (w := w) i k 0 0 (c + e * m) hib
   rw [← Nat.add_assoc] at this
   exact this)
theorem PartIs.mk {t : TypeId} {info : TypeInfo} {d : TypeDesc} [hT : TI P t info d] : PartIs P t (match isAggD d with | true => info.size | false => 1) (isAggD d) := by
 have hu := hT.under
 refine ⟨fun h => by rw [h], fun vs off w hl => ?_⟩
 have h2 : (sizeOf t).run P w = .ok info.size w := by simp [sizeOf, typeInfo, hT.info, Result.andThen]
 cases hd : isAggD d with
 | true =>
  rw [hd] at hl
  have e : List.take info.size (List.drop off vs) = List.map (fun j => vs[off + j]?.getD undef) (List.range info.size) := by
   simp only at hl
   apply List.ext_getElem
   ·simp; omega
   ·intro j h1 h2
    simp at h1
    simp [List.getElem?_eq_getElem (show off + j < vs.length by omega)]
  unfold part isAgg
  cases d <;> simp [isAggD] at hd <;> simp [run_underlying hu, Result.andThen, h2, e]
 | false =>
  rw [hd] at hl
  simp only at hl
  unfold part isAgg
  cases d <;> simp_all [run_underlying hu, Result.andThen, isAggD, List.getD_eq_getElem?_getD, List.getElem?_eq_getElem (show off < vs.length by omega)]
/-- len. -/
theorem run_lenOp {t : TypeId} {x : Operand} {el : TypeId} {ao : Option Addr} {n c : Nat} (ho : o.op = .call { callee := .builtin .len, args := #[x], argTypes := #[t] }) (hu : P.underlying t = some (.slice el)) (hx : a.eval x = .slice ao n c) : (execOp a.eval o).run P w = .ok (.value (.int .i64 n)) w := by
 have hel : P.elem t = el := by simp [Program.elem, hu]
 have := run_len_slice (P := P) w t o.type ao n c (by rw [hel]; exact hu)
 simp only [execOp, ho, resolve, Array.map, hx]
 simp [invoke, builtin, hx, this, Result.andThen]
 rfl
theorem loc_len {t : TypeId} {x : Operand} {el : TypeId} {k m n : Nat} {info : TypeInfo} (ho : o.op = .call { callee := .builtin .len, args := #[x], argTypes := #[t] }) (hd : dstLt o N = true) [hT : TI P t info (.slice el)] (hx : Opd E x (.sl k m n)) : Loc P N o E H ⟨[], o.dst, .val (.int .i64 n), [], []⟩ :=
 loc_run (by simp [ho]) hd (fun E1 H1 S Z i a w hF hA hN => by
  have h1 := hF.opd (hA x (by simp [ho, Op.operands, Call.operands]) _ hx)
  generalize hv : a.eval x = v at h1
  cases h1 with
  | sl _ _ _ _ cap _ _ _ => exact ⟨_, run_lenOp ho hT.under hv, .val _ _⟩
  | sl0 _ _ _ _ => exact ⟨_, run_lenOp ho hT.under hv, .val _ _⟩)
theorem loc_len_fz {t : TypeId} {x : Operand} {el : TypeId} {m n : Nat} {q : Bool} {f : Nat → List D} {info : TypeInfo} (ho : o.op = .call { callee := .builtin .len, args := #[x], argTypes := #[t] }) (hd : dstLt o N = true) [hT : TI P t info (.slice el)] (hx : Opd E x (.fz q n m f)) : Loc P N o E H ⟨[], o.dst, .val (.int .i64 n), [], []⟩ :=
 loc_run (by simp [ho]) hd (fun E1 H1 S Z i a w hF hA hN => by
  have h1 := hF.opd (hA x (by simp [ho, Op.operands, Call.operands]) _ hx)
  generalize hv : a.eval x = v at h1
  cases h1 with
  | fz _ _ ao _ cap _ _ vs q1 q2 hl ha hr => exact ⟨_, run_lenOp ho hT.under hv, .val _ _⟩)
theorem loc_len_nil {t : TypeId} {x : Operand} {el : TypeId} {ao : Option Addr} {n c : Nat} {info : TypeInfo} (ho : o.op = .call { callee := .builtin .len, args := #[x], argTypes := #[t] }) (hd : dstLt o N = true) [hT : TI P t info (.slice el)] (hx : Opd E x (.val (.slice ao n c))) : Loc P N o E H ⟨[], o.dst, .val (.int .i64 n), [], []⟩ :=
 loc_run (by simp [ho]) hd (fun E1 H1 S Z i a w hF hA hN => ⟨_, run_lenOp ho hT.under (hF.opd (hA x (by simp [ho, Op.operands, Call.operands]) _ hx)).valEq, .val _ _⟩)
theorem loc_len_str {t : TypeId} {x : Operand} {s : ByteArray} {info : TypeInfo} (ho : o.op = .call { callee := .builtin .len, args := #[x], argTypes := #[t] }) (hd : dstLt o N = true) [hT : TI P t info .string] (hx : Opd E x (.val (.string s))) : Loc P N o E H ⟨[], o.dst, .val (.int .i64 s.size), [], []⟩ :=
 loc_run (by simp [ho]) hd (fun E1 H1 S Z i a w hF hA hN => by
  have h1 := (hF.opd (hA x (by simp [ho, Op.operands, Call.operands]) _ hx)).valEq
  refine ⟨_, ?_, .val _ _⟩
  simp only [execOp, ho, resolve, Array.map, h1]
  simp [invoke, builtin, h1, Builtin.len_, run_underlying hT.under, Result.andThen, goInt])
/-- A nil check. -/
def D.notNil : D → Bool
 | .eptr .. | .eptrr .. | .fptr .. | .clo .. | .val (.pointer (some _)) | .val (.func (.func _) _ _) => true
 | _ => false
theorem loc_nilCheck {x : Operand} {d : D} (ho : o.op = .nilCheck x) (hd : dstLt o N = true) (hx : Opd E x d) (hn : d.notNil = true) : Loc P N o E H ⟨[], o.dst, d, [], []⟩ :=
 loc_run (by simp [ho]) hd (fun E1 H1 S Z i a w hF hA hN => by
  have h1 := hF.opd (hA x (by simp [ho, Op.operands]) _ hx)
  refine ⟨_, ?_, h1⟩
  generalize hv : a.eval x = v at h1
  simp only [execOp, ho, hv]
  cases h1 with
  | eptr => rfl
  | eptrr => rfl
  | fptr => rfl
  | clo => rfl
  | val _ v =>
   cases v with
   | pointer p => cases p with
    | none => simp [D.notNil] at hn
    | some => rfl
   | func f x y => cases f <;> first | rfl | (simp [D.notNil] at hn)
   | _ => simp [D.notNil] at hn
  | _ => simp [D.notNil] at hn)
/-- A function value. -/
def OpdL (E : Nat → D) : List Operand → List D → Prop
 | [], [] => True
 | x :: xs, d :: ds => Opd E x d ∧ OpdL E xs ds
 | _, _ => False
theorem OpdL.len {E : Nat → D} : ∀ {xs : List Operand} {ds : List D}, OpdL E xs ds → xs.length = ds.length
 | [], [], _ => rfl
 | _ :: _, _ :: _, h => by simp [OpdL.len h.2]
 | [], _ :: _, h => h.elim
 | _ :: _, [], h => h.elim
theorem OpdL.at {E : Nat → D} : ∀ {xs : List Operand} {ds : List D}, OpdL E xs ds → ∀ j x, xs[j]? = some x → Opd E x (dl ds j)
  | [], [], _, j, x, hx => by simp at hx
  | y :: xs, d :: ds, h, j, x, hx => by
    cases j with
    | zero => obtain rfl : y = x := by simpa using hx
              exact h.1
    | succ j => exact OpdL.at h.2 j x (by simpa using hx)
  | [], _ :: _, h, _, _, _ => h.elim
  | _ :: _, [], h, _, _, _ => h.elim
theorem loc_makeFunc {fn : FuncId} {xs : List Operand} {ds : List D} (ho : o.op = .makeFunc (.func fn) #[] xs.toArray) (hd : dstLt o N = true) (hx : OpdL E xs ds) : Loc P N o E H ⟨[], o.dst, .clo fn ds, [], []⟩ :=
 loc_run (by simp [ho]) hd (fun E1 H1 S Z i a w hF hA hN => by
  refine ⟨.func (.func fn) #[] (xs.map a.eval).toArray, ?_, ?_⟩
  ·simp [execOp, ho, Instr.makeFunc, Result.andThen]
  ·refine .clo i fn _ ds (by simpa using hx.len) (fun j hj => ?_)
   have hj' : j < xs.length := by rw [hx.len]; exact hj
   have := hF.opd (hA xs[j] (by simp [ho, Op.operands]) _ (hx.at j _ (List.getElem?_eq_getElem hj')))
   rw [List.getD_eq_getElem?_getD, List.getElem?_map, List.getElem?_eq_getElem hj']
   exact this)
/-- A slice of a slice. -/
def OptIs (E : Nat → D) (x : Option Operand) (l dflt : Nat) : Prop := match x with | none => l = dflt | some y => ∃ k, Opd E y (.val (.int k (l : Int)))
theorem OptIs.run {x : Option Operand} {l dflt n : Nat} {code : BoundsCode} (hF : Fits S E H Z i a w) (h : OptIs E x l dflt) (hl : l ≤ n) : (match x.map a.eval with | some v => Instr.sliceBound v n code | none => pure dflt : Sem Nat).run P w = .ok l w := by
 cases x with
 | none => obtain rfl : l = dflt := h; rfl
 | some y =>
  obtain ⟨k, hk⟩ := h
  have := (hF.opd hk).valEq
  have h2 : (0 : Int) ≤ (l : Int) ∧ (l : Int) ≤ (n : Int) := ⟨Int.natCast_nonneg _, by omega⟩
  simp [this, Instr.sliceBound, asIntOf, Result.andThen, h2]
theorem run_sliceOp {t el : TypeId} {x : Operand} {lo hi : Option Operand} {l h n cap : Nat} {ao : Option Addr} {info info' : TypeInfo} {d' : TypeDesc} (hF : Fits S E H Z i a w) (ho : o.op = .slice t x lo hi none) [hT : TI P t info (.slice el)] [hT' : TI P el info' d'] (hx : a.eval x = .slice ao n cap) (hlo : OptIs E lo l 0) (hhi : OptIs E hi h n) (h1 : l ≤ h) (h2 : h ≤ n) (hn : n ≤ cap) :
  (execOp a.eval o).run P w = .ok (.value (.slice (if cap = l then ao else ao.map (·.add (l * info'.size))) (h - l) (cap - l))) w := by
 have s1 : (sizeOf el).run P w = .ok info'.size w := by simp [sizeOf, typeInfo, hT'.info, Result.andThen]
 have hb : (Instr.sliceBounds true n cap (lo.map a.eval) (hi.map a.eval) none).run P w = .ok (l, h, cap) w := by
  have e1 := hlo.run (P := P) (code := .sliceB) hF h1
  have e2 := hhi.run (P := P) (code := .sliceAcap) hF (Nat.le_trans h2 hn)
  cases hi <;> cases lo <;> simp at e1 e2 <;> simp [Instr.sliceBounds, e1, e2, Result.andThen]
 simp only [execOp, ho, Option.map_none, hx, Instr.sliceAt]
 simp [run_underlying hT.under, Result.andThen, Instr.slice, hb, s1]
theorem loc_slice_fz {t el : TypeId} {x : Operand} {lo hi : Option Operand} {l h n m : Nat} {q : Bool} {f : Nat → List D} {info info' : TypeInfo} {d' : TypeDesc} (ho : o.op = .slice t x lo hi none) (hd : dstLt o N = true) [hT : TI P t info (.slice el)] [hT' : TI P el info' d'] (hx : Opd E x (.fz q n m f)) (hlo : OptIs E lo l 0) (hhi : OptIs E hi h n) (hm : m = info'.size) (h1 : l ≤ h) (h2 : h ≤ n) : Loc P N o E H ⟨[], o.dst, .fz q (h - l) m (fun e => f (l + e)), [], []⟩ :=
 loc_run (by simp [ho]) hd (fun E1 H1 S Z i a w hF hA hN => by
  have h3 := hF.opd (hA x (by simp [ho, Op.operands]) _ hx)
  have ag : ∀ (y : Option Operand) (l dflt : Nat), (∀ z, y = some z → z ∈ o.op.operands) → OptIs E y l dflt → OptIs E1 y l dflt := fun y l dflt hy hh => by
   cases y with
   | none => exact hh
   | some z => obtain ⟨k, hk⟩ := hh; exact ⟨k, hA z (hy z rfl) _ hk⟩
  have hlo' := ag lo l 0 (fun z hz => by subst hz; simp [ho, Op.operands]) hlo
  have hhi' := ag hi h n (fun z hz => by subst hz; simp [ho, Op.operands]) hhi
  generalize hv : a.eval x = v at h3
  cases h3 with
  | fz _ _ ao _ cap _ _ vs q1 q2 hl ha hr =>
   refine ⟨_, run_sliceOp hF ho hv hlo' hhi' h1 h2 q1, ?_⟩
   refine .fz _ _ _ _ _ _ _ (fun e c => vs (l + e) c) (by omega) (by omega) (fun e he => hl _ (by omega)) (fun e c he hc => ?_) (fun e c he hc => hr _ _ (by omega) hc)
   obtain ⟨b, p, rfl, r1, r2, r3⟩ := ha (l + e) c (by omega) hc
   rw [if_neg (by omega)]
   refine ⟨b, p + l * info'.size, by simp [addr_add], r1, ?_, r3⟩
   rw [show p + l * info'.size + (e * m + c) = p + ((l + e) * m + c) by rw [Nat.add_mul, ← hm]; omega]
   exact r2)
/-- The first elements of an own slice. -/
theorem loc_slice_sl {t el : TypeId} {x : Operand} {lo hi : Option Operand} {k h n m : Nat} {info info' : TypeInfo} {d' : TypeDesc} (ho : o.op = .slice t x lo hi none) (hd : dstLt o N = true) [hT : TI P t info (.slice el)] [hT' : TI P el info' d'] (hx : Opd E x (.sl k m n)) (hlo : OptIs E lo 0 0) (hhi : OptIs E hi h n) (h2 : h ≤ n) : Loc P N o E H ⟨[], o.dst, .sl k m h, [], []⟩ :=
 loc_run (by simp [ho]) hd (fun E1 H1 S Z i a w hF hA hN => by
  have h3 := hF.opd (hA x (by simp [ho, Op.operands]) _ hx)
  have ag : ∀ (y : Option Operand) (l dflt : Nat), (∀ z, y = some z → z ∈ o.op.operands) → OptIs E y l dflt → OptIs E1 y l dflt := fun y l dflt hy hh => by
   cases y with
   | none => exact hh
   | some z => obtain ⟨k, hk⟩ := hh; exact ⟨k, hA z (hy z rfl) _ hk⟩
  have hlo' := ag lo 0 0 (fun z hz => by subst hz; simp [ho, Op.operands]) hlo
  have hhi' := ag hi h n (fun z hz => by subst hz; simp [ho, Op.operands]) hhi
  generalize hv : a.eval x = v at h3
  cases h3 with
  | @sl _ b _ _ _ cap hib q1 q2 =>
   refine ⟨_, run_sliceOp hF ho hv hlo' hhi' (Nat.zero_le _) h2 q1, ?_⟩
   have e : (if cap.c = 0 then some (⟨b, 0, none⟩ : Addr) else (some (⟨b, 0, none⟩ : Addr)).map (·.add (0 * info'.size))) = some ⟨b, 0, none⟩ := by
    split
    ·rfl
    ·simp [Addr.add]
   rw [e, Nat.sub_zero, Nat.sub_zero]
   exact .sl _ _ _ _ _ hib (by omega) q2
  | sl0 _ _ _ hib =>
   obtain rfl : h = 0 := by omega
   refine ⟨_, run_sliceOp hF ho hv hlo' hhi' (Nat.zero_le _) h2 (Nat.le_refl _), ?_⟩
   simp
   exact .sl0 _ _ _ hib)
/-- max and min of two integers. -/
theorem loc_maxmin {x y : Operand} {t : Array TypeId} {k k' : IntKind} {p q : Int} {b : Builtin} (hb : b = .max ∨ b = .min) (ho : o.op = .call { callee := .builtin b, args := #[x, y], argTypes := t }) (hd : dstLt o N = true) (hx : Opd E x (.val (.int k p))) (hy : Opd E y (.val (.int k' q))) : Loc P N o E H ⟨[], o.dst, .val (.int k (if b matches .max then max p q else min p q)), [], []⟩ :=
 loc_run (by simp [ho]) hd (fun E1 H1 S Z i a w hF hA hN => by
  have h1 := (hF.opd (hA x (by simp [ho, Op.operands, Call.operands]) _ hx)).valEq
  have h2 := (hF.opd (hA y (by simp [ho, Op.operands, Call.operands]) _ hy)).valEq
  refine ⟨_, ?_, .val _ _⟩
  rcases hb with rfl | rfl
  ·have e : (if q > p then q else p) = max p q := by rw [Int.max_def]; split <;> split <;> omega
   simp [execOp, ho, resolve, invoke, builtin, h1, h2, Builtin.max_, Builtin.max2, Result.andThen, e]
  ·have e : (if q < p then q else p) = min p q := by rw [Int.min_def]; split <;> split <;> omega
   simp [execOp, ho, resolve, invoke, builtin, h1, h2, Builtin.min_, Builtin.min2, Result.andThen, e])
end
end Go.Proofs.YtmjildbdkecolaaGreat
