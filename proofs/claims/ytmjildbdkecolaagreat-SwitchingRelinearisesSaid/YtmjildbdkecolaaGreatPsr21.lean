/- Rows of rows, each in a block of its own: what is read, what is turned. No walk.
Rows of rows: rows come in by append; all is frozen, or lent. No walk. -/
import Derived.Test.YtmjildbdkecolaaGreatPsr20
set_option linter.unusedSimpArgs false
set_option linter.unusedVariables false
set_option linter.unnecessarySimpa false
namespace Go.Proofs.YtmjildbdkecolaaGreat
open Go.RowKit

section
variable {lend : Bool} {L ns : List Nat} {P : Program} {N : Nat} {o : Oper} {E E1 : Nat → D} {H H1 : Nat → Option Box} {S : Cx} {Z : Zn} {i : Nm} {a : Act} {w w' : World}
/-- A row of a box. -/
theorem Fits.row (h : Fits S E H Z i a w) {k nb n m2 n2 e r b cap : Nat} {cp : Cp} {t t2 : TypeId} {g : Nat → Nat → List D} (hk : H k = some (.mat t t2 nb n m2 n2 g)) (hi : i k = some (some (r, cp))) (he : e < n) (hr : cp.r e = some (b, cap)) : b ≠ r ∧ cap ≤ 9223372036854775807 ∧ ArrAt Z w b cap t2 n2 m2 (g e) := by
 rcases h.box k _ hk with ⟨b', _, e1, _, _, _, cs, hB, hs, hnb, hn, hrw, _⟩ | ⟨q, _⟩
 ·rw [hi] at e1; cases e1
  obtain ⟨b2, c2, q1, q2, q3, q4, q5⟩ := hrw e he
  rw [hr] at q1; cases q1
  exact ⟨q2, q4, q5⟩
 ·rw [hi] at q; cases q
theorem loc_load_mat {t t1 t2 : TypeId} {x : Operand} {k nb n m2 n2 e : Nat} {g : Nat → Nat → List D} (ho : o.op = .load t x) (hd : dstLt o N = true) (hL : LoadIs P t 1 false) (hx : Opd E x (.eptr k 1 e 0)) (hk : H k = some (.mat t1 t2 nb n m2 n2 g)) (he : e < n) : Loc P N o E H ⟨[k], o.dst, .slr k e m2 n2, [], []⟩ :=
 loc_run (by simp [ho]) hd (fun E1 H1 S Z i a w hF hA hN => by
  have h1 := hF.opd (hA x (by simp [ho, Op.operands]) _ hx)
  generalize hv : a.eval x = v at h1
  cases h1 with | @eptr _ b cp _ _ _ _ hib =>
  have hk1 := hN k (by simp)
  rw [hk] at hk1
  rcases hF.box k _ hk1 with ⟨b', _, e1, _, _, _, cs, hB, hs, hnb, hn, hr, _⟩ | ⟨q, _⟩
  ·rw [hib] at e1; cases e1
   obtain ⟨br, cr, r1, r2, r3, r4, r5⟩ := hr e he
   refine ⟨_, run_loadOp ho hL hv (cs := fun j => cs.getD (e + j) undef) (fun j hj => ?_), ?_⟩
   ·rw [addr_add, Nat.mul_one, Nat.add_zero]
    exact hB.cell _ (by omega)
   ·have hle : n2 ≤ cr := by obtain ⟨_, _, _, h, _⟩ := r5; exact h
    simp only [Nat.add_zero, r3]
    exact .slr _ _ _ _ _ _ _ hib r1 hle r4
  ·rw [hib] at q; cases q)
theorem loc_index_row {t : TypeId} {x y : Operand} {k e m len z : Nat} {kd : IntKind} {u : Int} (ho : o.op = .indexAddr t x y) (hd : dstLt o N = true) (hL : IndexIs P t m) (hx : Opd E x (.slr k e m len)) (hy : Opd E y (.val (.int kd u))) (hz : IdxIs u len z) : Loc P N o E H ⟨[], o.dst, .eptrr k e m z 0, [], []⟩ :=
 loc_run (by simp [ho]) hd (fun E1 H1 S Z i a w hF hA hN => by
  have h1 := hF.opd (hA x (by simp [ho, Op.operands]) _ hx)
  have h2 := (hF.opd (hA y (by simp [ho, Op.operands]) _ hy)).valEq
  obtain ⟨rfl, he⟩ := hz
  generalize hv : a.eval x = v at h1
  cases h1 with
  | slr _ _ _ _ _ b cap hib hr _ _ =>
   refine ⟨_, run_indexOp ho hL hv h2 he, ?_⟩
   rw [Nat.zero_add]
   exact .eptrr _ _ _ _ _ 0 hib hr)
theorem loc_len_row {t : TypeId} {x : Operand} {el : TypeId} {k e m n : Nat} {info : TypeInfo} (ho : o.op = .call { callee := .builtin .len, args := #[x], argTypes := #[t] }) (hd : dstLt o N = true) [hT : TI P t info (.slice el)] (hx : Opd E x (.slr k e m n)) : Loc P N o E H ⟨[], o.dst, .val (.int .i64 n), [], []⟩ :=
 loc_run (by simp [ho]) hd (fun E1 H1 S Z i a w hF hA hN => by
  have h1 := hF.opd (hA x (by simp [ho, Op.operands, Call.operands]) _ hx)
  generalize hv : a.eval x = v at h1
  cases h1 with
  | slr _ _ _ _ _ _ _ _ _ _ _ => exact ⟨_, run_lenOp ho hT.under hv, .val _ _⟩)
theorem loc_load_row {t t1 t2 : TypeId} {x : Operand} {k nb n n' m n2 e z c : Nat} {ag : Bool} {g : Nat → Nat → List D} (ho : o.op = .load t x) (hd : dstLt o N = true) (hL : LoadIs P t n' ag) (hx : Opd E x (.eptrr k e m z c)) (hk : H k = some (.mat t1 t2 nb n m n2 g)) (he : e < n) (hz : z < n2) (hc : Nat.ble (c + n') m = true) : Loc P N o E H ⟨[k], o.dst, ldD ag (takeL n' (dropL c (g e z))), [], []⟩ :=
 loc_run (by simp [ho]) hd (fun E1 H1 S Z i a w hF hA hN => by
  have h1 := hF.opd (hA x (by simp [ho, Op.operands]) _ hx)
  replace hc := Nat.le_of_ble_eq_true hc
  generalize hv : a.eval x = v at h1
  cases h1 with | @eptrr _ r cp _ _ _ _ _ b cap hib hr =>
  have hk1 := hN k (by simp)
  obtain ⟨_, _, hAr⟩ := hF.row (hk1.trans hk) hib he hr
  have hfl : (g e z).length = m := by obtain ⟨_, _, _, _, h, _⟩ := hAr; exact h z hz
  have hcell : ∀ j, j < n' → ∃ v, w.cell? ⟨b, z * m + (c + j), none⟩ = some v ∧ v.oneCell' = true ∧ Rep Z w noN v (dl (g e z) (c + j)) := fun j hj => hAr.cellAt hz (by omega)
  refine ⟨_, run_loadOp ho hL hv (cs := fun j => (w.cell? ⟨b, z * m + (c + j), none⟩).getD undef) (fun j hj => ?_), ldD_rep hL.1 (len_seg (by omega)) (fun j hj => ?_)⟩
  ·obtain ⟨v, h1, _⟩ := hcell j hj
   rw [addr_add, Nat.add_assoc, h1]; rfl
  ·obtain ⟨v, h1, h2, h3⟩ := hcell j hj
   rw [dl_seg hj, h1]
   exact ⟨h2, h3.of_noN⟩)
/-- One row is turned. -/
def setG (g : Nat → Nat → List D) (e : Nat) (f : Nat → List D) (e' : Nat) : Nat → List D := if e' = e then f else g e'
theorem Fits.turnM (h : Fits S E H Z i a w) {k nb n m2 n2 e r b cap : Nat} {cp : Cp} {t t2 : TypeId} {g : Nat → Nat → List D} {f : Nat → List D} (hk : H k = some (.mat t t2 nb n m2 n2 g)) (hi : i k = some (some (r, cp))) (he : e < n) (hr : cp.r e = some (b, cap)) (hos : w'.os = w.os ∧ w'.tape = w.tape ∧ w'.output = w.output ∧ w.heap.size ≤ w'.heap.size) (hw : ∀ x, x < w.heap.size → x ≠ b → w'.heap[x]? = w.heap[x]?)
  (hA : (∀ o x, Z o x → w'.heap[x]? = w.heap[x]?) → ArrAt Z w' b cap t2 n2 m2 f) : Fits S E (updH H [(k, some (.mat t t2 nb n m2 n2 (setG g e f)))]) Z i a w' := by
 have hft : Foot (.mat t t2 nb n m2 n2 g) (i k) b := ⟨r, cp, hi, .inr ⟨e, cap, he, hr⟩⟩
 have hfb := h.foot k _ b hk rfl hft
 obtain ⟨hbr, _, hA0⟩ := h.row hk hi he hr
 have hZo : ∀ o x, Z o x → w'.heap[x]? = w.heap[x]? := fun o x hx => by
  have hxt : Z true x := by cases o; exact h.zsub x hx; exact hx
  exact hw x (h.zOld x hxt).1 (fun e => hfb.2.2.1 (e ▸ hxt))
 refine h.step (fun x => x = k) hos (fun x hx hn => hw x hx (fun e => hn k _ rfl hk rfl (e ▸ hft))) (fun _ _ => rfl) (fun x hx => ?_) (fun x hx e => ?_) (fun x hx e => h.nil x e) (fun x _ e => h.nil x e) (fun o b hb => hb) (fun b hb => .inl hb) (fun b hb => ⟨h.zsub b hb, h.zNew b hb⟩) (fun x B' hx hB' => ?_) (fun x B' b1 hx hB' _ hf => ?_) (fun x x' B1 B2 b hx hx' _ _ _ _ _ _ => hx.trans hx'.symm)
 ·simp only [updH]; exact if_neg (Ne.symm hx)
 ·subst hx; simp [updH] at e
 ·subst hx
  simp only [updH, if_true] at hB'
  cases hB'
  rcases h.box x _ hk with ⟨b', _, e1, e2, e3, e4, cs, hB, hs, hnb, hn, hrw, hinj, htl⟩ | ⟨q, _⟩
  ·rw [hi] at e1; cases e1
   refine .inl ⟨r, cp, hi, e2, e3, fun h => (by cases h), cs, (hw r hB.lt (Ne.symm hbr)).trans hB, hs, hnb, hn, fun e' he' => ?_, hinj, htl⟩
   obtain ⟨b2, c2, q1, q2, q3, q4, q5⟩ := hrw e' he'
   refine ⟨b2, c2, q1, q2, q3, q4, ?_⟩
   unfold setG
   by_cases q : e' = e
   ·subst q
    rw [hr] at q1; cases q1
    rw [if_pos rfl]; exact hA hZo
   ·rw [if_neg q]
    have hne : b2 ≠ b := fun e2 => q (hinj e' e b c2 cap he' he (e2 ▸ q1) hr)
    obtain ⟨cs', q6, _⟩ := q5
    exact ArrAt.mem ⟨cs', q6, by assumption⟩ (hw b2 q6.lt hne) (fun o x hx => ⟨hx, hZo o x hx⟩)
  ·rw [hi] at q; cases q
 ·subst hx
  simp only [updH, if_true] at hB'
  cases hB'
  exact .inr ⟨x, _, rfl, fun h hc => ⟨h, hc⟩, hk, rfl, hf⟩
/-- A cell of a row is stored. -/
theorem loc_store_row {t t1 t2 : TypeId} {x y : Operand} {k e m z c n' nb n n2 : Nat} {g : Nat → Nat → List D} {d : D} (ho : o.op = .store t x y) (hd : o.dst = none) (hx : Opd E x (.eptrr k e m z c)) (hy : Opd E y d) (hf : d.fit = true) (hp : D.free (fun _ => false) d = true) (hS : SizeIs P t n') (hn : d.cellL.length = n') (hk : H k = some (.mat t1 t2 nb n m n2 g)) (hc : Nat.ble (c + d.cellL.length) m = true) (he : e < n) (hz : z < n2) :
  Loc P N o E H ⟨[k], o.dst, .any, [(k, some (.mat t1 t2 nb n m n2 (setG g e (setE (g e) z c d.cellL))))], []⟩ := by
 refine ⟨rfl, by simp [ho], fun E1 H1 h1 h2 h3 S a w hN hR K Q hK => ?_⟩
 obtain ⟨Z, i, hF⟩ := hR
 replace hc := Nat.le_of_ble_eq_true hc
 have e1 := hF.opd (Opd.agree (x := x) (by simp [ho, Op.operands]) h1 hx)
 have e2 := hF.opd (Opd.agree (x := y) (by simp [ho, Op.operands]) h1 hy)
 obtain ⟨c1, c2⟩ := (e2.nm (i' := noN) hp (fun k x hk => by cases hk)).cells hf
 generalize hv : a.eval x = v at e1
 cases e1 with | @eptrr _ r cp _ _ _ _ _ b cap hib hr =>
 have hk1 := (h2 k (by simp)).trans hk
 obtain ⟨_, _, cs, hB, hs, hnc, hfl, hall⟩ := hF.row hk1 hib he hr
 have hfe := hfl z hz
 have hle : (z + 1) * m ≤ cap * m := Nat.mul_le_mul_right _ (by omega)
 rw [Nat.add_mul] at hle
 unfold Oper.wp
 rw [run_storeOp ho hv rfl (by rw [c1, hn]; exact hS) hB (by rw [c1, hs]; omega) (fun j hj => (c2 j (by rw [← c1]; exact hj)).1)]
 have hl : cs.toList.length = cap * m := by simpa using hs
 have hl2 : (a.eval y).cells.toList.length = d.cellL.length := by simpa using c1
 obtain ⟨L, hL⟩ : ∃ L, cs.toList.take (z * m + c) ++ (a.eval y).cells.toList ++ cs.toList.drop (z * m + c + (a.eval y).cells.toList.length) = L := ⟨_, rfl⟩
 have key : ∀ j, L.toArray.getD j undef = if z * m + c ≤ j ∧ j < z * m + c + d.cellL.length then (a.eval y).cells.getD (j - (z * m + c)) undef else cs.getD j undef := fun j => by
  rw [toArray_getD, ← hL, List.append_assoc, getD_seg undef cs.toList (a.eval y).cells.toList (z * m + c) j (by rw [hl, hl2]; omega), hl2, ← toArray_getD, ← toArray_getD, Array.toArray_toList, Array.toArray_toList]
 have hLl : L.length = cap * m := by rw [← hL]; simp; omega
 rw [hL]
 refine hK _ _ ⟨Z, i, ?_⟩
 rw [hd]
 refine hF.turnM (f := setE (g e) z c d.cellL) (w' := w.setRow b L.toArray) hk1 hib he hr ⟨rfl, rfl, rfl, by simp⟩ (fun y _ hy => setRow_other _ _ _ _ hy) (fun mm => ⟨_, setRow_heap _ _ _ _ _ _ hB, by simpa using hLl, hnc, fun e' he' => ?_, fun e' c' he' hc' => ?_⟩)
 ·unfold setE; split
  ·subst_vars; rw [setL_len (by omega)]
  ·exact hfl e' he'
 ·rw [key]
  have mr : ∀ {v : Value} {d : D}, Rep Z w noN v d → Rep Z (w.setRow b L.toArray) noN v d := fun hv => hv.mem (fun o x hx => ⟨hx, mm o x hx⟩)
  by_cases q : e' = z
  ·subst q
   have e3 : setE (g e) e' c d.cellL e' = setL (g e e') c d.cellL := if_pos rfl
   rw [e3, setL_at (by omega)]
   by_cases q2 : c ≤ c' ∧ c' < c + d.cellL.length
   ·rw [if_pos (by omega), if_pos q2, show e' * m + c' - (e' * m + c) = c' - c by omega]
    have := c2 (c' - c) (by omega)
    exact ⟨this.1, mr this.2⟩
   ·rw [if_neg (by omega), if_neg q2]
    have := hall e' c' he' hc'
    exact ⟨this.1, mr this.2⟩
  ·have e3 : setE (g e) z c d.cellL e' = g e e' := if_neg q
   have hne : ¬ (z * m + c ≤ e' * m + c' ∧ e' * m + c' < z * m + c + d.cellL.length) := by
    rcases Nat.lt_or_gt_of_ne q with q | q
    ·have : (e' + 1) * m ≤ z * m := Nat.mul_le_mul_right _ (by omega)
     rw [Nat.add_mul] at this; omega
    ·have : (z + 1) * m ≤ e' * m := Nat.mul_le_mul_right _ (by omega)
     rw [Nat.add_mul] at this; omega
   rw [e3, if_neg hne]
   have := hall e' c' he' hc'
   exact ⟨this.1, mr this.2⟩
/-! ### Rows come in -/
/-- The rows there are, then one. -/
def putG (n : Nat) (g : Nat → Nat → List D) (f : Nat → List D) (e : Nat) : Nat → List D := match Nat.blt e n with | true => g e | false => f
theorem ArrAt.less {b cap : Nat} {t : TypeId} {n n' m : Nat} {f : Nat → List D} (h : ArrAt Z w b cap t n m f) (hn : n' ≤ n) : ArrAt Z w b cap t n' m f := by
 obtain ⟨cs, h1, h2, h3, h4, h5⟩ := h
 exact ⟨cs, h1, h2, by omega, fun e he => h4 e (by omega), fun e c he hc => h5 e c (by omega) hc⟩
/-- A row becomes one of a box. -/
theorem loc_store_mat {t t1 t2 : TypeId} {x y : Operand} {k kr nb n n' m2 n2 : Nat} {g : Nat → Nat → List D} {f : Nat → List D} (ho : o.op = .store t x y) (hd : o.dst = none) (hx : Opd E x (.eptr k 1 n 0)) (hy : Opd E y (.sl kr m2 n2)) (hS : SizeIs P t 1) (hk : H k = some (.mat t1 t2 nb n m2 n2 g)) (hkr : H kr = some (.arr t2 n' m2 f)) (hn : n < nb) (hn' : n2 ≤ n') (h0 : 0 < n2) (h1k : Nat.ble 1000 k = true) (h1r : Nat.ble 1000 kr = true) :
  Loc P N o E H ⟨[k, kr], o.dst, .any, [(k, some (.mat t1 t2 nb (n + 1) m2 n2 (putG n g f))), (kr, some .gone)], []⟩ := by
 refine ⟨rfl, by simp [ho], fun E1 H1 h1 h2 h3 S a w hN hR K Q hK => ?_⟩
 obtain ⟨Z, i, hF⟩ := hR
 replace h1k := Nat.le_of_ble_eq_true h1k
 replace h1r := Nat.le_of_ble_eq_true h1r
 have e1 := hF.opd (Opd.agree (x := x) (by simp [ho, Op.operands]) h1 hx)
 have e2 := hF.opd (Opd.agree (x := y) (by simp [ho, Op.operands]) h1 hy)
 have hk1 := (h2 k (by simp)).trans hk
 have hk2 := (h2 kr (by simp)).trans hkr
 have hne : k ≠ kr := fun e => by rw [e, hk2] at hk1; cases hk1
 generalize hv : a.eval x = v at e1
 generalize hu : a.eval y = u at e2
 cases e1 with | @eptr _ r cp _ _ _ _ hib =>
 cases e2 with
 | sl0 => omega
 | @sl _ b _ _ _ cb hir q1 q2 =>
 rcases hF.box k _ hk1 with ⟨_, _, e1, e2, e3, e4, cs, hB, hs, hnb, hnn, hrw, hinj, htl⟩ | ⟨q, _⟩
 ·rw [hib] at e1; cases e1
  rcases hF.box kr _ hk2 with ⟨_, _, f1, f2, f3, f4, hA⟩ | ⟨q, _⟩
  ·rw [hir] at f1; cases f1
   have hfr : Foot (.mat t1 t2 nb n m2 n2 g) (i k) r := .root hib
   have hfb : Foot (.arr t2 n' m2 f) (i kr) b := .root hir
   have hbr : b ≠ r := fun e => hne (hF.inj k kr _ _ r hk1 hk2 rfl rfl hfr (e ▸ hfb))
   have hcells : (Value.slice (some ⟨b, 0, none⟩) n2 cb.c).cells = #[Value.slice (some ⟨b, 0, none⟩) n2 cb.c] := rfl
   unfold Oper.wp
   rw [run_storeOp (v := Value.slice (some ⟨b, 0, none⟩) n2 cb.c) ho (hv.trans (by rw [Nat.mul_one, Nat.add_zero])) hu (by rw [hcells]; exact hS) hB (by rw [hcells, hs]; simp; omega) (fun j hj => by
    rw [hcells] at hj ⊢
    obtain rfl : j = 0 := by simpa using hj
    rfl)]
   rw [hcells]
   obtain ⟨Lx, hL⟩ : ∃ Lx, cs.toList.take n ++ #[Value.slice (some ⟨b, 0, none⟩) n2 cb.c].toList ++ cs.toList.drop (n + #[Value.slice (some ⟨b, 0, none⟩) n2 cb.c].toList.length) = Lx := ⟨_, rfl⟩
   rw [hL]
   have key : ∀ j, Lx.toArray.getD j undef = if j = n then Value.slice (some ⟨b, 0, none⟩) n2 cb.c else cs.getD j undef := fun j => by
    rw [toArray_getD, ← hL, List.append_assoc, getD_seg undef cs.toList #[Value.slice (some ⟨b, 0, none⟩) n2 cb.c].toList n j (by simp; omega), ← toArray_getD cs.toList, Array.toArray_toList]
    by_cases q : j = n
    ·subst q; simp
    ·rw [if_neg (by simp; omega), if_neg q]
   have hLl : Lx.length = cp.c := by rw [← hL]; simp; omega
   have hoth : ∀ z, z ≠ r → (w.setRow r Lx.toArray).heap[z]? = w.heap[z]? := fun z hz => setRow_other _ _ _ _ hz
   have hZo : ∀ o x, Z o x → (w.setRow r Lx.toArray).heap[x]? = w.heap[x]? := fun o x hx => hoth x (fun e => by
    have hxt : Z true x := by cases o; exact hF.zsub x hx; exact hx
    exact (e3 rfl).1 (e ▸ hxt))
   obtain ⟨cp', hcp⟩ : ∃ cp' : Cp, (⟨cp.c, fun e => if e = n then some (b, cb.c) else cp.r e⟩ : Cp) = cp' := ⟨_, rfl⟩
   have hcc : cp'.c = cp.c := by rw [← hcp]
   have hcr : ∀ e, cp'.r e = if e = n then some (b, cb.c) else cp.r e := fun e => by rw [← hcp]
   obtain ⟨i2, hi2⟩ : ∃ i2 : Nm, (fun x => if x = k then some (some (r, cp')) else i x) = i2 := ⟨_, rfl⟩
   have hi2k : i2 k = some (some (r, cp')) := by rw [← hi2]; exact if_pos rfl
   have hi2o : ∀ x, x ≠ k → i2 x = i x := fun x hx => by rw [← hi2]; exact if_neg hx
   have hu1 : ∀ x B, updH H1 [(k, some (.mat t1 t2 nb (n + 1) m2 n2 (putG n g f))), (kr, some .gone)] x = some B → x = k ∧ B = .mat t1 t2 nb (n + 1) m2 n2 (putG n g f) ∨ x = kr ∧ B = .gone ∨ (x ≠ k ∧ x ≠ kr) := fun x B hB => by
    simp only [updH] at hB
    by_cases q : k = x
    ·rw [if_pos q] at hB; cases hB; exact .inl ⟨q.symm, rfl⟩
    ·rw [if_neg q] at hB
     by_cases q' : kr = x
     ·rw [if_pos q'] at hB; cases hB; exact .inr (.inl ⟨q'.symm, rfl⟩)
     ·exact .inr (.inr ⟨Ne.symm q, Ne.symm q'⟩)
   refine hK _ _ ⟨Z, i2, ?_⟩
   rw [hd]
   show Fits S (updE E1 none D.any) _ Z i2 a (w.setRow r Lx.toArray)
   refine hF.stepG (fun x => x = k ∨ x = kr) ⟨rfl, rfl, rfl, by simp⟩ (fun z hz hn => hoth z (fun e => hn k _ (.inl rfl) hk1 rfl (e ▸ hfr))) (fun x hx hL => hi2o x (fun e => by rcases hL with q | q; exact q (.inl e); omega)) (fun x y hxy => ?_) (fun x hx => ?_) (fun x hx e => ?_) (fun x hx e => ?_) (fun x hx e => ?_) (fun o b hb => hb) (fun b hb => .inl hb) (fun b hb => ⟨hF.zsub b hb, hF.zNew b hb⟩) (fun x B hx hB' => ?_) (fun x B z hx hB' hm hf => ?_) (fun x x' B B' z hx hx' hB1 hB2 m1 m2 _ _ => ?_)
   ·by_cases q : x = k
    ·rw [q] at hxy ⊢
     rw [hib] at hxy; cases hxy
     refine ⟨_, hi2k, .inr ⟨r, cp, cp', rfl, rfl, hcc.symm, fun e v hev => ?_⟩⟩
     rw [hcr]
     have : e ≠ n := fun q => by rw [htl e (by omega)] at hev; cases hev
     rw [if_neg this]; exact hev
    ·exact ⟨y, (hi2o x q).trans hxy, .inl rfl⟩
   ·simp only [updH]; rw [if_neg (fun e => hx (.inl e.symm)), if_neg (fun e => hx (.inr e.symm))]
   ·rcases hx with rfl | rfl
    ·simp [updH] at e
    ·simp only [updH, if_true] at e
     split at e <;> cases e
   ·rw [hi2o x (fun q => hx (.inl q))]; exact hF.nil x e
   ·rw [hi2o x (by omega)]; exact hF.nil x e
   ·rcases hu1 x B hB' with ⟨rfl, rfl⟩ | ⟨rfl, rfl⟩ | ⟨q1', q2'⟩
    ·refine .inl ⟨r, cp', hi2k, e2, fun _ => e3 rfl, fun h => (by cases h), Lx.toArray, setRow_heap _ _ _ _ _ _ hB, by simp [hLl, hcc], by rw [hcc]; exact hnb, by omega, fun e he => ?_, fun e e' x c c' he he' hx hx' => ?_, fun e he => ?_⟩
     ·rw [key]
      unfold putG
      by_cases q : e = n
      ·subst q
       rw [if_pos rfl, show Nat.blt e e = false by cases hb : Nat.blt e e; rfl; exact absurd (by rw [Nat.blt_eq] at hb; exact hb) (Nat.lt_irrefl e)]
       refine ⟨b, cb.c, by rw [hcr, if_pos rfl], hbr, rfl, q2, ?_⟩
       have hA' : ArrAt Z w b cb.c t2 n' m2 f := hA
       obtain ⟨cs', hB', hrest⟩ := hA'
       exact ArrAt.less (ArrAt.mem ⟨cs', hB', hrest⟩ (hoth b hbr) (fun o x hx => ⟨hx, hZo o x hx⟩)) hn'
      ·rw [if_neg q, show Nat.blt e n = true by simp; omega]
       obtain ⟨b2, c2, p1, p2, p3, p4, p5⟩ := hrw e (by omega)
       refine ⟨b2, c2, by rw [hcr, if_neg q]; exact p1, p2, p3, p4, ?_⟩
       exact ArrAt.mem p5 (hoth b2 p2) (fun o x hx => ⟨hx, hZo o x hx⟩)
     ·rw [hcr] at hx hx'
      have old : ∀ {e c}, e < n → cp.r e = some (b, c) → False := fun {e c} he hx => hne (hF.inj _ _ (.mat t1 t2 nb n m2 n2 g) _ b hk1 hk2 rfl rfl ⟨r, cp, hib, .inr ⟨e, c, he, hx⟩⟩ hfb)
      by_cases q : e = n <;> by_cases q' : e' = n
      ·omega
      ·rw [if_pos q] at hx; cases hx
       rw [if_neg q'] at hx'
       exact (old (by omega) hx').elim
      ·rw [if_pos q'] at hx'; cases hx'
       rw [if_neg q] at hx
       exact (old (by omega) hx).elim
      ·rw [if_neg q] at hx
       rw [if_neg q'] at hx'
       exact hinj e e' x c c' (by omega) (by omega) hx hx'
     ·rw [hcr, if_neg (by omega)]; exact htl e (by omega)
    ·exact .inl ⟨b, cb, (hi2o x (Ne.symm hne)).trans hir, f2, fun h => (by cases h), fun h => (by cases h), by show b < (w.setRow r Lx.toArray).heap.size; simp; exact (hF.foot x _ b hk2 rfl hfb).1⟩
    ·exact absurd hx (fun h => by rcases h with h | h; exact q1' h; exact q2' h)
   ·rcases hu1 x B hB' with ⟨rfl, rfl⟩ | ⟨rfl, rfl⟩ | ⟨q1', q2'⟩
    ·rw [hi2k] at hf
     obtain ⟨r', cp2, e5, e6⟩ := hf
     cases e5
     rcases e6 with rfl | ⟨e, c, e7, e8⟩
     ·exact .inr ⟨x, _, .inl rfl, fun h => absurd h (by omega), hk1, rfl, hfr⟩
     ·rw [hcr] at e8
      by_cases q : e = n
      ·rw [if_pos q] at e8; cases e8
       exact .inr ⟨kr, _, .inr rfl, fun h => absurd h (by omega), hk2, rfl, hfb⟩
      ·rw [if_neg q] at e8
       exact .inr ⟨x, _, .inl rfl, fun h => absurd h (by omega), hk1, rfl, ⟨r, cp, hib, .inr ⟨e, c, by have : e < n + 1 := e7; show e < n; omega, e8⟩⟩⟩
    ·cases hm
    ·exact absurd hx (fun h => by rcases h with h | h; exact q1' h; exact q2' h)
   ·rcases hx with rfl | rfl
    ·rcases hx' with rfl | rfl
     ·rfl
     ·rcases hu1 _ B' hB2 with ⟨q, _⟩ | ⟨_, rfl⟩ | ⟨_, q⟩
      ·exact absurd q.symm hne
      ·cases m2
      ·exact absurd rfl q
    ·rcases hu1 _ B hB1 with ⟨q, _⟩ | ⟨_, rfl⟩ | ⟨_, q⟩
     ·exact absurd q.symm hne
     ·cases m1
     ·exact absurd rfl q
  ·rw [hir] at q; cases q
 ·rw [hib] at q; cases q
end
open Go.RowKit

section
variable {lend : Bool} {L ns : List Nat} {P : Program} {N : Nat} {o : Oper} {E E1 : Nat → D} {H H1 : Nat → Option Box} {S : Cx} {Z : Zn} {i : Nm} {a : Act} {w w' : World}
theorem blt_self (e : Nat) : Nat.blt e e = false := by
 cases hb : Nat.blt e e
 ·rfl
 ·exact absurd (by rw [Nat.blt_eq] at hb; exact hb) (Nat.lt_irrefl e)
theorem Fits.appRow (hF : Fits S E H Z i a w) {k : Option Nat} {k' kr ky : Nat} {el t2 : TypeId} {n m2 n2 nr : Nat} {g : Nat → Nat → List D} {f : Nat → List D} {v v' : Value} {xs : List Value} {br : Nat} {cr : Cp} {By : Box}
  (hk' : H k' = none) (h100 : 1000 ≤ k') (hk : ∀ x, k = some x → 1000 ≤ x ∧ ∃ B, H x = some B)
  (hv : (n = 0 ∧ v.ownBlock = none) ∨ ∃ x t nb cp r, k = some x ∧ H x = some (.mat t t2 nb n m2 n2 g) ∧ i x = some (some (r, cp)) ∧ v.ownBlock = some r ∧ ∀ cs T, Bk w r T cs → ∀ e, e < n → xs[e]? = some (cs.getD e undef)) (hxl : xs.length = n)
  (hkr : H kr = some (.arr t2 nr m2 f)) (hir : i kr = some (some (br, cr))) (hn2 : n2 ≤ nr) (hr100 : 1000 ≤ kr) (hc63 : cr.c ≤ 9223372036854775807) (hky : H ky = some By) (hy100 : 1000 ≤ ky)
  (hos : w'.os = w.os ∧ w'.tape = w.tape ∧ w'.output = w.output ∧ w.heap.size ≤ w'.heap.size) (hb : ∀ b, b < w.heap.size → some b ≠ v.ownBlock → w'.heap[b]? = w.heap[b]?) (hvb : v'.ownBlock = v.ownBlock ∨ v'.ownBlock = some w.heap.size)
  (hown : w'.ownsRow 0 el 1 v' (n + 1) (xs ++ [.slice (some ⟨br, 0, none⟩) n2 cr.c])) :
  ∃ i', Fits S E (updH H ((k', some (.mat el t2 (n + 1) (n + 1) m2 n2 (putG n g f))) :: (kr, some .gone) :: (ky, some .gone) :: goneL k)) Z i' a w' ∧ Rep Z w' i' v' (.sl k' 1 (n + 1)) := by
 rcases hown.2 with ⟨_, h0⟩ | ⟨b, cap, cur, rfl, _, hB, hnc, hml, hcs, htk⟩
 ·omega
 have hvo : (Value.slice (some ⟨b, 0, none⟩) (n + 1) cap).ownBlock = some b := rfl
 rw [hvo] at hvb
 have hfr : Foot (.arr t2 nr m2 f) (i kr) br := .root hir
 have hrf := hF.foot kr _ br hkr rfl hfr
 -- the old rows
 obtain ⟨ro, hro⟩ : ∃ ro : Nat → Option (Nat × Nat), (∀ e, e < n → ∃ b2 c2, ro e = some (b2, c2) ∧ some b2 ≠ v.ownBlock ∧ xs[e]? = some (.slice (some ⟨b2, 0, none⟩) n2 c2) ∧ c2 ≤ 9223372036854775807 ∧ ArrAt Z w b2 c2 t2 n2 m2 (g e) ∧ b2 < w.heap.size ∧ ∃ x B, k = some x ∧ H x = some B ∧ B.mut = true ∧ Foot B (i x) b2) ∧ ∀ e e' x c c', e < n → e' < n → ro e = some (x, c) → ro e' = some (x, c') → e = e' := by
  rcases hv with ⟨rfl, _⟩ | ⟨x, t, nb, cp, r, q1, q2, q3, q4, q5⟩
  ·exact ⟨noR, fun e he => by omega, fun e e' x c c' he => by omega⟩
  ·rcases hF.box x _ q2 with ⟨_, _, e1, e2, e3, e4, cs, hBr, hs, hnb, hn, hrw, hinj, htl⟩ | ⟨q, _⟩
   ·rw [q3] at e1; cases e1
    refine ⟨cp.r, fun e he => ?_, hinj⟩
    obtain ⟨b2, c2, p1, p2, p3, p4, p5⟩ := hrw e he
    have hft : Foot (.mat t t2 nb n m2 n2 g) (i x) b2 := ⟨r, cp, q3, .inr ⟨e, c2, he, p1⟩⟩
    exact ⟨b2, c2, p1, fun h => p2 (by rw [q4] at h; cases h; rfl), by rw [q5 cs _ hBr e he, p3], p4, p5, (hF.foot x _ b2 q2 rfl hft).1, x, _, q1, q2, rfl, hft⟩
   ·rw [q3] at q; cases q
 -- the new root
 have horg : (∃ x B, k = some x ∧ H x = some B ∧ B.mut = true ∧ Foot B (i x) b ∧ v.ownBlock = some b) ∨ (w.heap.size ≤ b ∧ b < w'.heap.size) := by
  rcases hvb with q | q
  ·rcases hv with ⟨_, h⟩ | ⟨x, t, nb, cp, r, q1, q2, q3, q4, _⟩
   ·rw [h] at q; cases q
   ·rw [q4] at q; cases q
    exact .inl ⟨x, _, q1, q2, rfl, .root q3, q4⟩
  ·cases q; exact .inr ⟨Nat.le_refl _, (show Bk w' w.heap.size el cur from hB).lt⟩
 have hkx : ∀ x, k = some x → x ≠ k' := fun x hx e => by obtain ⟨_, B, h⟩ := hk x hx; rw [e, hk'] at h; cases h
 have hkrx : ∀ x, k = some x → (∃ B, H x = some B ∧ B.mut = true ∧ Foot B (i x) br) → x = kr := fun x hx ⟨B, h1, h2, h3⟩ => hF.inj x kr B _ br h1 hkr h2 rfl h3 hfr
 have hbr : br ≠ b := fun e => by
  rcases horg with ⟨x, B, q1, q2, q3, q4, q5⟩ | ⟨q, _⟩
  ·have hx : x = kr := hkrx x q1 ⟨B, q2, q3, e ▸ q4⟩
   rcases hv with ⟨_, h⟩ | ⟨x', t, nb, cp, r, p1, p2, _⟩
   ·rw [h] at q5; cases q5
   ·rw [q1] at p1; cases p1
    rw [hx, hkr] at p2; cases p2
  ·have := hrf.1; omega
 have hbrv : some br ≠ v.ownBlock := fun e => by
  rcases hv with ⟨_, h⟩ | ⟨x', t, nb, cp, r, p1, p2, p3, p4, _⟩
  ·rw [h] at e; cases e
  ·rw [p4] at e; cases e
   have := hF.inj x' kr _ _ br p2 hkr rfl rfl (.root p3) hfr
   rw [this, hkr] at p2; cases p2
 obtain ⟨cp', hcp⟩ : ∃ cp' : Cp, (⟨cap, fun e => match Nat.blt e n with | true => ro e | false => match Nat.beq e n with | true => some (br, cr.c) | false => none⟩ : Cp) = cp' := ⟨_, rfl⟩
 have hcc : cp'.c = cap := by rw [← hcp]
 have hcr1 : ∀ e, e < n → cp'.r e = ro e := fun e he => by rw [← hcp]; show (match Nat.blt e n with | true => _ | false => _) = _; rw [show Nat.blt e n = true by simpa using he]
 have hcr2 : cp'.r n = some (br, cr.c) := by rw [← hcp]; show (match Nat.blt n n with | true => _ | false => _) = _; rw [blt_self]; simp
 have hcr3 : ∀ e, n < e → cp'.r e = none := fun e he => by
  rw [← hcp]
  show (match Nat.blt e n with | true => _ | false => match Nat.beq e n with | true => some (br, cr.c) | false => none) = _
  rw [show Nat.blt e n = false by cases hb : Nat.blt e n; rfl; rw [Nat.blt_eq] at hb; omega]
  simp only []
  rw [beq_ne (by omega)]
 obtain ⟨i', hi'⟩ : ∃ i' : Nm, (fun x => if x = k' then some (some (b, cp')) else i x) = i' := ⟨_, rfl⟩
 have hik : i' k' = some (some (b, cp')) := by rw [← hi']; exact if_pos rfl
 have hio : ∀ x, x ≠ k' → i' x = i x := fun x hx => by rw [← hi']; exact if_neg hx
 have hcur : ∀ e, e < n + 1 → cur.getD e undef = ((xs ++ [Value.slice (some ⟨br, 0, none⟩) n2 cr.c])[e]?).getD undef := fun e he => by
  rw [← htk, List.getElem?_take, if_pos (by omega), Array.getElem?_toList, Array.getD_eq_getD_getElem?]
 have hZo : ∀ o x, Z o x → w'.heap[x]? = w.heap[x]? := fun o x hx => by
  have hxt : Z true x := by cases o; exact hF.zsub x hx; exact hx
  refine hb x (hF.zOld x hxt).1 (fun e => ?_)
  rcases hv with ⟨_, h⟩ | ⟨x', t, nb, cp, r, p1, p2, p3, p4, _⟩
  ·rw [h] at e; cases e
  ·rw [p4] at e; cases e
   exact (hF.foot x' _ x p2 rfl (.root p3)).2.2.1 hxt
 have hmat : MatAt Z w' b cp' el t2 (n + 1) (n + 1) m2 n2 (putG n g f) := by
  refine ⟨cur, hB, by rw [hcc]; omega, by rw [hcc]; exact hnc, Nat.le_refl _, fun e he => ?_, fun e e' x c c' he he' hx hx' => ?_, fun e he => hcr3 e (by omega)⟩
  ·rw [hcur e he]
   unfold putG
   by_cases q : e = n
   ·subst q
    rw [blt_self, List.getElem?_append_right (by omega), hxl, Nat.sub_self]
    refine ⟨br, cr.c, hcr2, hbr, rfl, hc63, ?_⟩
    rcases hF.box kr _ hkr with ⟨_, _, e1, _, _, _, hA⟩ | ⟨e1, _⟩
    ·rw [hir] at e1; cases e1
     have hA' : ArrAt Z w br cr.c t2 nr m2 f := hA
     exact ArrAt.less (ArrAt.mem hA' (hb br hrf.1 hbrv) (fun o x hx => ⟨hx, hZo o x hx⟩)) hn2
    ·rw [hir] at e1; cases e1
   ·have he' : e < n := by omega
    rw [show Nat.blt e n = true by simpa using he', List.getElem?_append_left (by omega)]
    obtain ⟨b2, c2, p1, p2, p3, p4, p5, p6, _⟩ := hro.1 e he'
    refine ⟨b2, c2, by rw [hcr1 e he']; exact p1, fun q2 => ?_, by rw [p3]; rfl, p4, ArrAt.mem p5 (hb b2 p6 p2) (fun o x hx => ⟨hx, hZo o x hx⟩)⟩
    rcases horg with ⟨x, B, _, _, _, _, q5⟩ | ⟨q5, _⟩
    ·exact p2 (by rw [q2, q5])
    ·omega
  ·have cross : ∀ e c, e < n → ro e = some (br, c) → False := fun e c he hx => by
    obtain ⟨b2, c2, p1, _, _, _, _, _, x, B, q1, q2, q3, q4⟩ := hro.1 e he
    rw [hx] at p1; cases p1
    have := hkrx x q1 ⟨B, q2, q3, q4⟩
    rcases hv with ⟨h, _⟩ | ⟨x', t, nb, cp, r, p1, p2, _⟩
    ·omega
    ·rw [q1] at p1; cases p1
     rw [this, hkr] at p2; cases p2
   by_cases q : e = n <;> by_cases q' : e' = n
   ·omega
   ·rw [q, hcr2] at hx; cases hx
    rw [hcr1 e' (by omega)] at hx'
    exact (cross e' _ (by omega) hx').elim
   ·rw [q', hcr2] at hx'; cases hx'
    rw [hcr1 e (by omega)] at hx
    exact (cross e _ (by omega) hx).elim
   ·rw [hcr1 e (by omega)] at hx
    rw [hcr1 e' (by omega)] at hx'
    exact hro.2 e e' x c c' (by omega) (by omega) hx hx'
 obtain ⟨H2, hH2⟩ : ∃ H2, updH H ((k', some (.mat el t2 (n + 1) (n + 1) m2 n2 (putG n g f))) :: (kr, some .gone) :: (ky, some .gone) :: goneL k) = H2 := ⟨_, rfl⟩
 have hHk : H2 k' = some (.mat el t2 (n + 1) (n + 1) m2 n2 (putG n g f)) := by rw [← hH2]; simp [updH]
 have hHg : ∀ x, x ≠ k' → (x = kr ∨ x = ky ∨ k = some x) → H2 x = some .gone := fun x h1 h2 => by
  rw [← hH2]; simp only [updH]; rw [if_neg (Ne.symm h1)]
  by_cases q1 : kr = x
  ·rw [if_pos q1]
  ·rw [if_neg q1]
   by_cases q2 : ky = x
   ·rw [if_pos q2]
   ·rw [if_neg q2]
    rcases h2 with h2 | h2 | h2
    ·exact absurd h2.symm q1
    ·exact absurd h2.symm q2
    ·rw [h2]; simp [goneL, updH]
 have hHo : ∀ x, x ≠ k' → ¬ (x = kr ∨ x = ky ∨ k = some x) → H2 x = H x := fun x h1 h2 => by
  rw [← hH2]; simp only [updH]; rw [if_neg (Ne.symm h1), if_neg (fun q => h2 (.inl q.symm)), if_neg (fun q => h2 (.inr (.inl q.symm)))]
  cases k with
  | none => rfl
  | some y => simp only [updH, goneL]; exact if_neg (fun e => h2 (.inr (.inr (by rw [e]))))
 have halive : ∀ x, (x = kr ∨ x = ky ∨ k = some x) → 1000 ≤ x ∧ x ≠ k' ∧ ∃ B, H x = some B := fun x hx => by
  rcases hx with rfl | rfl | hx
  ·exact ⟨hr100, fun e => (by rw [e, hk'] at hkr; cases hkr), _, hkr⟩
  ·exact ⟨hy100, fun e => (by rw [e, hk'] at hky; cases hky), _, hky⟩
  ·exact ⟨(hk x hx).1, hkx x hx, (hk x hx).2⟩
 rw [hH2]
 refine ⟨i', ?_, by rw [← hcc]; exact .sl _ _ _ _ _ hik (by rw [hcc]; exact hnc) (by rw [hcc]; unfold maxLen at hml; omega)⟩
 refine hF.step (fun x => x = k' ∨ (x = kr ∨ x = ky ∨ k = some x)) hos (fun z hz hn => hb z hz (fun e => ?_)) (fun x hx => hio x (fun e => hx (e ▸ hk'))) (fun x hx => hHo x (fun e => hx (.inl e)) (fun e => hx (.inr e))) (fun x hx e => ?_) (fun x hx e => ?_) (fun x hx e => ?_) (fun o b hb => hb) (fun b hb => .inl hb) (fun b hb => ⟨hF.zsub b hb, hF.zNew b hb⟩) (fun x B hx hB' => ?_) (fun x B z hx hB' hm hf => ?_) (fun x x' B B' z hx hx' hB1 hB2 m1 m2 _ _ => ?_)
 ·rcases hv with ⟨_, h⟩ | ⟨x', t, nb, cp, r, p1, p2, p3, p4, _⟩
  ·rw [h] at e; cases e
  ·rw [p4] at e; cases e
   exact hn x' _ (.inr (.inr (.inr p1))) p2 rfl (.root p3)
 ·by_cases q : x = k'
  ·rw [q, hHk] at e; cases e
  ·rw [hHg x q (hx.resolve_left q)] at e; cases e
 ·rw [hio x (fun e => hx (.inl e))]; exact hF.nil x e
 ·rw [hio x (by omega)]; exact hF.nil x e
 ·by_cases q : x = k'
  ·subst q
   rw [hHk] at hB'; cases hB'
   refine .inl ⟨b, cp', hik, ?_, fun _ => ?_, fun h => (by cases h), hmat⟩
   ·rcases horg with ⟨y, B, q1, q2, q3, q4, _⟩ | ⟨q1, _⟩
    ·rcases (hF.foot y B b q2 q3 q4).2.1 with q5 | ⟨q5, _⟩
     ·exact .inl q5
     ·have := (hk y q1).1; omega
    ·have := hF.kept.size; exact .inl (by omega)
   ·rcases horg with ⟨y, B, q1, q2, q3, q4, _⟩ | ⟨q1, _⟩
    ·exact (hF.foot y B b q2 q3 q4).2.2
    ·exact ⟨fun hz => by have := (hF.zOld b hz).1; omega, by have := hF.kept1.size; exact .inl (by omega)⟩
  ·have hx' := hx.resolve_left q
   rw [hHg x q hx'] at hB'; cases hB'
   obtain ⟨_, _, B0, g1⟩ := halive x hx'
   rcases hF.box x B0 g1 with ⟨z, c, e1, e2, _, _, e5⟩ | ⟨e1, _⟩
   ·exact .inl ⟨z, c, (hio x q).trans e1, e2, fun h => (by cases h), fun h => (by cases h), Nat.lt_of_lt_of_le e5.lt hos.2.2.2⟩
   ·exact .inr ⟨(hio x q).trans e1, .inl rfl⟩
 ·by_cases q : x = k'
  ·subst q
   rw [hHk] at hB'; cases hB'
   rw [hik] at hf
   obtain ⟨r', cp2, e5, e6⟩ := hf
   cases e5
   rcases e6 with rfl | ⟨e, c, e7, e8⟩
   ·rcases horg with ⟨y, B, q1, q2, q3, q4, _⟩ | q1
    ·exact .inr ⟨y, B, .inr (.inr (.inr q1)), fun h => absurd h (by have := (hk y q1).1; omega), q2, q3, q4⟩
    ·exact .inl q1
   ·have e7' : e < n + 1 := e7
    by_cases q : e = n
    ·rw [q, hcr2] at e8; cases e8
     exact .inr ⟨kr, _, .inr (.inl rfl), fun h => absurd h (by omega), hkr, rfl, hfr⟩
    ·rw [hcr1 e (by omega)] at e8
     obtain ⟨b2, c2, p1, _, _, _, _, _, y, B, q1, q2, q3, q4⟩ := hro.1 e (by omega)
     rw [e8] at p1; cases p1
     exact .inr ⟨y, B, .inr (.inr (.inr q1)), fun h => absurd h (by have := (hk y q1).1; omega), q2, q3, q4⟩
  ·rw [hHg x q (hx.resolve_left q)] at hB'; cases hB'; cases hm
 ·by_cases q : x = k' <;> by_cases q' : x' = k'
  ·rw [q, q']
  ·rw [hHg x' q' (hx'.resolve_left q')] at hB2; cases hB2; cases m2
  ·rw [hHg x q (hx.resolve_left q)] at hB1; cases hB1; cases m1
  ·rw [hHg x q (hx.resolve_left q)] at hB1; cases hB1; cases m1
/-- append of one row to a slice of rows. -/
theorem loc_append_row {t el t2 ty : TypeId} {x y : Operand} {k k' kr ky n nb m2 n2 nr : Nat} {g : Nat → Nat → List D} {f : Nat → List D} {info info' : TypeInfo} {d' : TypeDesc} {z : Value} (ho : o.op = .call { callee := .builtin .append, args := #[x, y], argTypes := #[t, t] }) (hd : dstLt o N = true) [hT : TI P t info (.slice el)] [hT' : TI P el info' d'] (hz : info'.zero = some z) (hm : info'.size = 1) (hzs : z.cells.size = 1)
  (hx : Opd E x (.sl k 1 n)) (hk : H k = some (.mat el t2 nb n m2 n2 g)) (h100 : Nat.ble 1000 k = true) (hy : Opd E y (.sl ky 1 1)) (hky : H ky = some (.lit ty [.sl kr m2 n2])) (hy100 : Nat.ble 1000 ky = true) (hkr : H kr = some (.arr t2 nr m2 f)) (hr100 : Nat.ble 1000 kr = true) (hn2 : n2 ≤ nr) (h0 : 0 < n2) (hb : (n + 1) * info'.bytes ≤ 140737488355328) (h63 : n + 1 ≤ 9223372036854775807) :
  Loc P N o E H ⟨[k, ky, kr], o.dst, .sl k' 1 (n + 1), [(k', some (.mat el t2 (n + 1) (n + 1) m2 n2 (putG n g f))), (kr, some .gone), (ky, some .gone), (k, some .gone)], [k']⟩ := by
 refine ⟨rfl, by simp [ho], fun E1 H1 h1 h2 h3 S a w hN hR K Q hK => ?_⟩
 obtain ⟨Z, i, hF⟩ := hR
 have e1 := hF.opd (Opd.agree (x := x) (by simp [ho, Op.operands, Call.operands]) h1 hx)
 have e2 := hF.opd (Opd.agree (x := y) (by simp [ho, Op.operands, Call.operands]) h1 hy)
 have hk1 := (h2 k (by simp)).trans hk
 have hk2 := (h2 ky (by simp)).trans hky
 have hk3 := (h2 kr (by simp)).trans hkr
 -- the row
 have hrow : ∃ by_ capy br cr, a.eval y = .slice (some ⟨by_, 0, none⟩) 1 capy ∧ i kr = some (some (br, cr)) ∧ n2 ≤ cr.c ∧ cr.c ≤ 9223372036854775807 ∧ w.cell? ⟨by_, 0, none⟩ = some (.slice (some ⟨br, 0, none⟩) n2 cr.c) := by
  generalize hu : a.eval y = u at e2
  cases e2 with
  | @sl _ b _ _ _ cap hib q1 q2 =>
   rcases hF.box ky _ hk2 with ⟨_, _, f1, _, _, _, cs, hB, hs, hall⟩ | ⟨f1, _⟩
   ·rw [hib] at f1; cases f1
    have hc0 := (hall 0 (by simp)).2
    generalize hq : cs.getD 0 undef = u0 at hc0
    have hc0' : Rep Z w i u0 (.sl kr m2 n2) := hc0
    cases hc0' with
    | @sl _ br _ _ _ cr hir p1 p2 => exact ⟨b, cap.c, br, cr, rfl, hir, p1, p2, by rw [hB.cell 0 (by rw [hs]; simp), hq]⟩
    | sl0 => omega
   ·rw [hib] at f1; cases f1
 obtain ⟨by_, capy, br, cr, y1, hir, y2, y3, y4⟩ := hrow
 -- the slice that is appended to
 have hown : ∃ v xs, a.eval x = v ∧ w.ownsRow 0 el 1 v n xs ∧ xs.length = n ∧ ((n = 0 ∧ v.ownBlock = none) ∨ ∃ x t nb cp r, some k = some x ∧ H1 x = some (.mat t t2 nb n m2 n2 g) ∧ i x = some (some (r, cp)) ∧ v.ownBlock = some r ∧ ∀ cs T, Bk w r T cs → ∀ e, e < n → xs[e]? = some (cs.getD e undef)) := by
  generalize hv : a.eval x = v at e1
  cases e1 with
  | @sl _ b _ _ _ cap hib q1 q2 =>
   rcases hF.box k _ hk1 with ⟨_, _, f1, _, _, _, cs, hB, hs, hnb, hnn, _⟩ | ⟨f1, _⟩
   ·rw [hib] at f1; cases f1
    refine ⟨_, cs.toList.take (n * 1), rfl, ⟨by simp; omega, .inr ⟨b, cap.c, cs, rfl, Nat.zero_le _, hB, q1, by unfold maxLen; omega, by rw [Nat.mul_one]; exact hs, rfl⟩⟩, by simp; omega, .inr ⟨k, _, _, cap, b, rfl, hk1, hib, rfl, fun cs' T hB' e he => ?_⟩⟩
    unfold Bk at hB hB'
    rw [hB] at hB'; cases hB'
    rw [List.getElem?_take, if_pos (by omega), Array.getElem?_toList, Array.getD_eq_getD_getElem?, Array.getElem?_eq_getElem (by omega)]; rfl
   ·rw [hib] at f1; cases f1
  | sl0 _ _ _ hib => exact ⟨_, [], rfl, World.ownsRow_nil w 0 el 1, rfl, .inl ⟨rfl, rfl⟩⟩
 obtain ⟨v, xs, hv, o1, o2, o3⟩ := hown
 obtain ⟨v', w', r1, r2, r3, r4, r5⟩ := append_core (P := P) (ty := o.type) (w := w) (t := t) (el := el) hz hm hzs (by omega) v n xs o1 (some ⟨by_, 0, none⟩) 1 capy (fun _ _ => .slice (some ⟨br, 0, none⟩) n2 cr.c) (.inr ⟨_, _, rfl⟩) (fun e c he hc => ⟨by_, 0, rfl, (by
  obtain rfl : e = 0 := by omega
  obtain rfl : c = 0 := by omega
  exact y4), rfl⟩) hb h63
 have hrun := run_appendOp (P := P) (a := a) (w := w) (w' := w') ho (by rw [hv, y1]; exact r1)
 have hrl : rowL 1 1 (fun _ _ => Value.slice (some ⟨br, 0, none⟩) n2 cr.c) = [Value.slice (some ⟨br, 0, none⟩) n2 cr.c] := rfl
 rw [hrl] at r4
 obtain ⟨i', hF2, hrep⟩ := hF.appRow (k := some k) (k' := k') (h3 k' (by simp)).1 (h3 k' (by simp)).2 (fun x hx => by cases hx; exact ⟨Nat.le_of_ble_eq_true h100, _, hk1⟩) o3 o2 hk3 hir hn2 (Nat.le_of_ble_eq_true hr100) y3 hk2 (Nat.le_of_ble_eq_true hy100) r2 r3 r5 r4
 unfold Oper.wp
 rw [hrun]
 exact hK _ _ ⟨Z, i', hF2.put (by rw [hN]; exact dstLt_spec hd) hrep⟩
/-- All of it is frozen. -/
theorem sub_freezeM {env : List (Nat × D)} {box : List (Nat × Option Box)} (k : Nat) {t t2 : TypeId} {nb n m2 n2 : Nat} {g : Nat → Nat → List D} (hb : hk box k = some (.mat t t2 nb n m2 n2 g)) (h100 : Nat.ble 1000 k = true) : Sub (lk env) (hk box) (lk env) (hk ((k, some (.ice t n 1 (fun e => [.fz false n2 m2 (g e)]))) :: box)) := fun S a w hR => by
 obtain ⟨Z, i, hF⟩ := hR
 replace h100 := Nat.le_of_ble_eq_true h100
 have hs : ∀ x, hk ((k, some (.ice t n 1 (fun e => [.fz false n2 m2 (g e)]))) :: box) x = if k = x then some (.ice t n 1 (fun e => [.fz false n2 m2 (g e)])) else hk box x := fun x => by
  simp only [hk]
  by_cases q : k = x
  ·subst q; simp
  ·rw [beq_ne q, if_neg q]
 have hft : ∀ b, Foot (.mat t t2 nb n m2 n2 g) (i k) b → b < w.heap.size ∧ S.w0.heap.size ≤ b := fun b hf => by
  have f := hF.foot k _ b hb rfl hf
  exact ⟨f.1, by rcases f.2.1 with q | ⟨q, _⟩; exact q; omega⟩
 refine ⟨fun o x => Z o x ∨ Foot (.mat t t2 nb n m2 n2 g) (i k) x, i, ?_⟩
 refine hF.step (fun x => x = k) ⟨rfl, rfl, rfl, Nat.le_refl _⟩ (fun _ _ _ => rfl) (fun _ _ => rfl) (fun x hx => by rw [hs]; exact if_neg (Ne.symm hx)) (fun x hx e => ?_) (fun x hx e => hF.nil x e) (fun x _ e => hF.nil x e) (fun o b hb => .inl hb) (fun x hx => ?_) (fun x hx => ?_) (fun x B hx hB => ?_) (fun x B b1 hx hB hm _ => by rw [hs, if_pos hx.symm] at hB; cases hB; cases hm) (fun x x' B B' b1 hx hx' _ _ _ _ _ _ => hx.trans hx'.symm)
 ·rw [hs, if_pos hx.symm] at e; cases e
 ·rcases hx with hx | hx
  ·exact .inl hx
  ·exact .inr ⟨(hft x hx).1, (hft x hx).2, .inr ⟨k, _, rfl, hb, rfl, hx⟩, fun y B hy hB hm _ => by rw [hs, if_pos hy.symm] at hB; cases hB; cases hm⟩
 ·rcases hx with hx | hx
  ·exact ⟨.inl (hF.zsub x hx), hF.zNew x hx⟩
  ·exact ⟨.inr hx, (hft x hx).2⟩
 ·rw [hs, if_pos hx.symm] at hB; cases hB
  subst hx
  rcases hF.box x _ hb with ⟨b, cap, e1, e2, e3, _, cs, hB, hcs, hnb, hn, hrw, _⟩ | ⟨e1, e2⟩
  ·refine .inl ⟨b, cap, e1, e2, fun h => (by cases h), fun _ => .inr (.root e1), cap.c, cs, hB, by rw [Nat.mul_one]; exact hcs, by omega, fun _ _ => rfl, fun e c he hc => ?_⟩
   obtain rfl : c = 0 := by omega
   rw [Nat.mul_one, Nat.add_zero]
   obtain ⟨b2, c2, p1, p2, p3, p4, cs2, hB2, hs2, hnc2, hfl2, hall2⟩ := hrw e he
   have hf2 : Foot (.mat t t2 nb n m2 n2 g) (i x) b2 := ⟨b, cap, e1, .inr ⟨e, c2, he, p1⟩⟩
   rw [p3]
   refine ⟨rfl, .fz _ _ _ n2 c2 m2 (g e) (fun y c => cs2.getD (y * m2 + c) undef) hnc2 p4 hfl2 (fun y c hy hc => ⟨b2, 0, rfl, .inr hf2, ?_, (hall2 y c hy hc).1⟩) (fun y c hy hc => (hall2 y c hy hc).2.mem (fun o b hz => ⟨.inl hz, rfl⟩))⟩
   have hlt : y * m2 + c < cs2.size := by
    have : (y + 1) * m2 ≤ c2 * m2 := Nat.mul_le_mul_right _ (by omega)
    rw [Nat.add_mul] at this; omega
   rw [Nat.zero_add]; exact hB2.cell _ hlt
  ·rcases e2 with e2 | ⟨t', m', f2, e2 | e2⟩ | ⟨_, _, _, _, _, e2⟩
   ·cases e2
   ·cases e2
   ·cases e2
   ·cases e2
    exact .inr ⟨e1, .inr (.inl ⟨_, _, _, .inr rfl⟩)⟩
/-- A row's block is lent. -/
theorem Fits.lentF (hF : Fits S E H Z i a w) (hL : ∀ k, k ∈ L → ∃ B, H k = some B ∧ B.mut = true) {k b : Nat} {B : Box} (hk : H k = some B) (hm : B.mut = true) (hf : Foot B (i k) b) (hkL : k ∉ L) : ZL true L Z i w true b :=
 .inr ⟨rfl, rfl, (hF.foot k B b hk hm hf).1, fun k' c hk' e => by
  obtain ⟨B', h1, h2⟩ := hL k' hk'
  exact hkL (hF.inj k k' B B' b hk h1 hm h2 hf (.root e) ▸ hk')⟩
theorem CvV.slr {k nb n m2 n2 e len : Nat} {t t2 : TypeId} {g : Nat → Nat → List D} (h : H k = some (.mat t t2 nb n m2 n2 g)) (he : e < n) (hn : len ≤ n2) (hkL : memB k L = false) (hns : memB k ns = true) : CvV true L ns H (.slr k e m2 len) (.fz true len m2 (g e)) := fun H1 hH S E a w Z i v hF hL hv => by
 rw [← hH k (memB_spec hns)] at h
 cases hv with | @slr _ r cp _ _ _ _ b cap hib hr h1 h2 =>
 obtain ⟨_, _, cs, hB, hs, hnc, hfl, hall⟩ := hF.row h hib he hr
 have hz := hF.lentF hL h rfl ⟨r, cp, hib, .inr ⟨e, cap, he, hr⟩⟩ (memB_no hkL)
 refine .fz _ _ _ len cap m2 (g e) (fun y c => cs.getD (y * m2 + c) undef) h1 h2 (fun y hy => hfl y (by omega)) (fun y c hy hc => ⟨b, 0, rfl, hz, ?_, (hall y c (by omega) hc).1⟩) (fun y c hy hc => (hall y c (by omega) hc).2.mem (fun o b hz => ⟨.inl hz, rfl⟩))
 have hlt : y * m2 + c < cs.size := by
  have : (y + 1) * m2 ≤ cap * m2 := Nat.mul_le_mul_right _ (by omega)
  rw [Nat.add_mul] at this; omega
 rw [Nat.zero_add]; exact hB.cell _ hlt
theorem CvV.slm {k nb n m2 n2 len : Nat} {t t2 : TypeId} {g : Nat → Nat → List D} (h : H k = some (.mat t t2 nb n m2 n2 g)) (hn : len ≤ n) (hkL : memB k L = false) (hns : memB k ns = true) : CvV true L ns H (.sl k 1 len) (.fz true len 1 (fun e => [.fz true n2 m2 (g e)])) := fun H1 hH S E a w Z i v hF hL hv => by
 rw [← hH k (memB_spec hns)] at h
 cases hv with
 | @sl _ b _ _ _ cap hib h1 h2 =>
  rcases hF.box k _ h with ⟨_, _, e1, _, _, _, cs, hB, hcs, hnb, hnn, hrw, _⟩ | ⟨e1, _⟩
  ·rw [hib] at e1; cases e1
   have hz := hF.lentF hL h rfl (.root hib) (memB_no hkL)
   refine .fz _ _ _ len cap.c 1 _ (fun e _ => cs.getD e undef) h1 h2 (fun _ _ => rfl) (fun e c he hc => ⟨b, 0, rfl, hz, ?_, ?_⟩) (fun e c he hc => ?_)
   ·obtain rfl : c = 0 := by omega
    rw [Nat.mul_one, Nat.add_zero, Nat.zero_add]
    exact hB.cell _ (by omega)
   ·obtain ⟨b2, c2, p1, p2, p3, p4, p5⟩ := hrw e (by omega)
    rw [p3]; rfl
   ·obtain rfl : c = 0 := by omega
    obtain ⟨b2, c2, p1, p2, p3, p4, p5⟩ := hrw e (by omega)
    have hle : n2 ≤ c2 := by obtain ⟨_, _, _, h, _⟩ := p5; exact h
    rw [p3]
    have he' : e < n := by omega
    exact (CvV.slr (L := L) (ns := ns) (H := H1) (n := n) (e := e) h he' (Nat.le_refl _) hkL hns) H1 (fun _ _ => rfl) S _ a w Z i _ hF hL (.slr _ _ _ _ _ _ _ hib p1 hle p4)
  ·rw [hib] at e1; cases e1
 | sl0 => exact .fz _ _ none 0 0 1 _ (fun _ _ => undef) (Nat.le_refl _) (by omega) (fun e he => by omega) (fun e c he => by omega) (fun e c he => by omega)
end
end Go.Proofs.YtmjildbdkecolaaGreat
