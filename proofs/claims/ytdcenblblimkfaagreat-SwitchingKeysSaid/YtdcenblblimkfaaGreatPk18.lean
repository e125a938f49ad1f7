/- Rows of rows: rows come in by append; all is frozen, or lent. No walk.
What operators make of numbers. No walk.
The driver: one step for each kind of operation, its premises found by looking. No walk. -/
import Derived.Test.YtdcenblblimkfaaGreatPk17
import Derived.Laws.BitsAllLaws
import Derived.Laws.Bits64
import Derived.Laws.Small
set_option linter.unusedSimpArgs false
set_option linter.unusedVariables false
set_option linter.unnecessarySimpa false
set_option linter.unusedSectionVars false
namespace Go.Proofs.YtdcenblblimkfaaGreat
open Go.RowKit

section
variable {lend:Bool} {L ns:List Nat} {P:Program} {N:Nat} {o:Oper} {E E1:Nat→D} {H H1:Nat→Option Box} {S:Cx} {Z:Zn} {i:Nm} {a:Act} {w w':World}
theorem blt_self (e:Nat):Nat.blt e e=false:=by
 cases hb:Nat.blt e e
 ·rfl
 ·exact absurd (by rw [Nat.blt_eq] at hb;exact hb) (Nat.lt_irrefl e)
theorem Fits.appRow (hF : Fits S E H Z i a w) {k : Option Nat} {k' kr ky : Nat} {el t2 : TypeId} {n m2 n2 nr : Nat} {g : Nat → Nat → List D} {f : Nat → List D} {v v' : Value} {xs : List Value} {br : Nat} {cr : Cp} {By : Box}
  (hk' : H k' = none) (h100 : 1000 ≤ k') (hk : ∀ x, k = some x → 1000 ≤ x ∧ ∃ B, H x = some B)
  (hv : (n = 0 ∧ v.ownBlock = none) ∨ ∃ x t nb cp r, k = some x ∧ H x = some (.mat t t2 nb n m2 n2 g) ∧ i x = some (some (r, cp)) ∧ v.ownBlock = some r ∧ ∀ cs T, Bk w r T cs → ∀ e, e < n → xs[e]? = some (cs.getD e undef)) (hxl : xs.length = n)
  (hkr : H kr = some (.arr t2 nr m2 f)) (hir : i kr = some (some (br, cr))) (hn2 : n2 ≤ nr) (hr100 : 1000 ≤ kr) (hc63 : cr.c ≤ 9223372036854775807) (hky : H ky = some By) (hy100 : 1000 ≤ ky)
  (hos : w'.os = w.os ∧ w'.tape = w.tape ∧ w'.output = w.output ∧ w.heap.size ≤ w'.heap.size) (hb : ∀ b, b < w.heap.size → some b ≠ v.ownBlock → w'.heap[b]? = w.heap[b]?) (hvb : v'.ownBlock = v.ownBlock ∨ v'.ownBlock = some w.heap.size)
  (hown : w'.ownsRow 0 el 1 v' (n + 1) (xs ++ [.slice (some ⟨br, 0, none⟩) n2 cr.c])) :
  ∃ i', Fits S E (updH H ((k', some (.mat el t2 (n + 1) (n + 1) m2 n2 (putG n g f))) :: (kr, some .gone) :: (ky, some .gone) :: goneL k)) Z i' a w' ∧ Rep Z w' i' v' (.sl k' 1 (n + 1)) := by
 rcases hown.2 with ⟨_, h0⟩ | ⟨b, cap, cur, rfl, _, hB, hnc, hml, hcs, htk⟩
 ·omega
 have hvo : (Value.slice (some ⟨b, 0, none⟩) (n + 1) cap).ownBlock = some b := rfl
 rw [hvo] at hvb
 have hfr : Foot (.arr t2 nr m2 f) (i kr) br := .root hir
 have hrf := hF.foot kr _ br hkr rfl hfr
 -- the old rows
 obtain ⟨ro, hro⟩ : ∃ ro : Nat → Option (Nat × Nat), (∀ e, e < n → ∃ b2 c2, ro e = some (b2, c2) ∧ some b2 ≠ v.ownBlock ∧ xs[e]? = some (.slice (some ⟨b2, 0, none⟩) n2 c2) ∧ c2 ≤ 9223372036854775807 ∧ ArrAt Z w b2 c2 t2 n2 m2 (g e) ∧ b2 < w.heap.size ∧ ∃ x B, k = some x ∧ H x = some B ∧ B.mut = true ∧ Foot B (i x) b2) ∧ ∀ e e' x c c', e < n → e' < n → ro e = some (x, c) → ro e' = some (x, c') → e = e' := by
  rcases hv with ⟨rfl, _⟩ | ⟨x, t, nb, cp, r, q1, q2, q3, q4, q5⟩
  ·exact ⟨noR, fun e he => by omega, fun e e' x c c' he => by omega⟩
  ·rcases hF.box x _ q2 with ⟨_, _, e1, e2, e3, e4, cs, hBr, hs, hnb, hn, hrw, hinj, htl⟩ | ⟨q, _⟩
   ·rw [q3] at e1; cases e1
    refine ⟨cp.r, fun e he => ?_, hinj⟩
    obtain ⟨b2, c2, p1, p2, p3, p4, p5⟩ := hrw e he
    have hft : Foot (.mat t t2 nb n m2 n2 g) (i x) b2 := ⟨r, cp, q3, .inr ⟨e, c2, he, p1⟩⟩
    exact ⟨b2, c2, p1, fun h => p2 (by rw [q4] at h; cases h; rfl), by rw [q5 cs _ hBr e he, p3], p4, p5, (hF.foot x _ b2 q2 rfl hft).1, x, _, q1, q2, rfl, hft⟩
   ·rw [q3] at q; cases q
 -- the new root
 have horg : (∃ x B, k = some x ∧ H x = some B ∧ B.mut = true ∧ Foot B (i x) b ∧ v.ownBlock = some b) ∨ (w.heap.size ≤ b ∧ b < w'.heap.size) := by
  rcases hvb with q | q
  ·rcases hv with ⟨_, h⟩ | ⟨x, t, nb, cp, r, q1, q2, q3, q4, _⟩
   ·rw [h] at q; cases q
   ·rw [q4] at q; cases q
    exact .inl ⟨x, _, q1, q2, rfl, .root q3, q4⟩
  ·cases q; exact .inr ⟨Nat.le_refl _, (show Bk w' w.heap.size el cur from hB).lt⟩
 have hkx : ∀ x, k = some x → x ≠ k' := fun x hx e => by obtain ⟨_, B, h⟩ := hk x hx; rw [e, hk'] at h; cases h
 have hkrx : ∀ x, k = some x → (∃ B, H x = some B ∧ B.mut = true ∧ Foot B (i x) br) → x = kr := fun x hx ⟨B, h1, h2, h3⟩ => hF.inj x kr B _ br h1 hkr h2 rfl h3 hfr
 have hbr : br ≠ b := fun e => by
  rcases horg with ⟨x, B, q1, q2, q3, q4, q5⟩ | ⟨q, _⟩
  ·have hx : x = kr := hkrx x q1 ⟨B, q2, q3, e ▸ q4⟩
   rcases hv with ⟨_, h⟩ | ⟨x', t, nb, cp, r, p1, p2, _⟩
   ·rw [h] at q5; cases q5
   ·rw [q1] at p1; cases p1
    rw [hx, hkr] at p2; cases p2
  ·have := hrf.1; omega
 have hbrv : some br ≠ v.ownBlock := fun e => by
  rcases hv with ⟨_, h⟩ | ⟨x', t, nb, cp, r, p1, p2, p3, p4, _⟩
  ·rw [h] at e; cases e
  ·rw [p4] at e; cases e
   have := hF.inj x' kr _ _ br p2 hkr rfl rfl (.root p3) hfr
   rw [this, hkr] at p2; cases p2
 obtain ⟨cp', hcp⟩ : ∃ cp' : Cp, (⟨cap, fun e => match Nat.blt e n with | true => ro e | false => match Nat.beq e n with | true => some (br, cr.c) | false => none⟩ : Cp) = cp' := ⟨_, rfl⟩
 have hcc : cp'.c = cap := by rw [← hcp]
 have hcr1 : ∀ e, e < n → cp'.r e = ro e := fun e he => by rw [← hcp]; show (match Nat.blt e n with | true => _ | false => _) = _; rw [show Nat.blt e n = true by simpa using he]
 have hcr2 : cp'.r n = some (br, cr.c) := by rw [← hcp]; show (match Nat.blt n n with | true => _ | false => _) = _; rw [blt_self]; simp
 have hcr3 : ∀ e, n < e → cp'.r e = none := fun e he => by
  rw [← hcp]
  show (match Nat.blt e n with | true => _ | false => match Nat.beq e n with | true => some (br, cr.c) | false => none) = _
  rw [show Nat.blt e n = false by cases hb : Nat.blt e n; rfl; rw [Nat.blt_eq] at hb; omega]
  simp only []
  rw [beq_ne (by omega)]
 obtain ⟨i', hi'⟩ : ∃ i' : Nm, (fun x => if x = k' then some (some (b, cp')) else i x) = i' := ⟨_, rfl⟩
 have hik : i' k' = some (some (b, cp')) := by rw [← hi']; exact if_pos rfl
 have hio : ∀ x, x ≠ k' → i' x = i x := fun x hx => by rw [← hi']; exact if_neg hx
 have hcur : ∀ e, e < n + 1 → cur.getD e undef = ((xs ++ [Value.slice (some ⟨br, 0, none⟩) n2 cr.c])[e]?).getD undef := fun e he => by
  rw [← htk, List.getElem?_take, if_pos (by omega), Array.getElem?_toList, Array.getD_eq_getD_getElem?]
 have hZo : ∀ o x, Z o x → w'.heap[x]? = w.heap[x]? := fun o x hx => by
  have hxt : Z true x := by cases o; exact hF.zsub x hx; exact hx
  refine hb x (hF.zOld x hxt).1 (fun e => ?_)
  rcases hv with ⟨_, h⟩ | ⟨x', t, nb, cp, r, p1, p2, p3, p4, _⟩
  ·rw [h] at e; cases e
  ·rw [p4] at e; cases e
   exact (hF.foot x' _ x p2 rfl (.root p3)).2.2.1 hxt
 have hmat : MatAt Z w' b cp' el t2 (n + 1) (n + 1) m2 n2 (putG n g f) := by
  refine ⟨cur, hB, by rw [hcc]; omega, by rw [hcc]; exact hnc, Nat.le_refl _, fun e he => ?_, fun e e' x c c' he he' hx hx' => ?_, fun e he => hcr3 e (by omega)⟩
  ·rw [hcur e he]
   unfold putG
   by_cases q : e = n
   ·subst q
    rw [blt_self, List.getElem?_append_right (by omega), hxl, Nat.sub_self]
    refine ⟨br, cr.c, hcr2, hbr, rfl, hc63, ?_⟩
    rcases hF.box kr _ hkr with ⟨_, _, e1, _, _, _, hA⟩ | ⟨e1, _⟩
    ·rw [hir] at e1; cases e1
     have hA' : ArrAt Z w br cr.c t2 nr m2 f := hA
     exact ArrAt.less (ArrAt.mem hA' (hb br hrf.1 hbrv) (fun o x hx => ⟨hx, hZo o x hx⟩)) hn2
    ·rw [hir] at e1; cases e1
   ·have he' : e < n := by omega
    rw [show Nat.blt e n = true by simpa using he', List.getElem?_append_left (by omega)]
    obtain ⟨b2, c2, p1, p2, p3, p4, p5, p6, _⟩ := hro.1 e he'
    refine ⟨b2, c2, by rw [hcr1 e he']; exact p1, fun q2 => ?_, by rw [p3]; rfl, p4, ArrAt.mem p5 (hb b2 p6 p2) (fun o x hx => ⟨hx, hZo o x hx⟩)⟩
    rcases horg with ⟨x, B, _, _, _, _, q5⟩ | ⟨q5, _⟩
    ·exact p2 (by rw [q2, q5])
    ·omega
  ·have cross : ∀ e c, e < n → ro e = some (br, c) → False := fun e c he hx => by
    obtain ⟨b2, c2, p1, _, _, _, _, _, x, B, q1, q2, q3, q4⟩ := hro.1 e he
    rw [hx] at p1; cases p1
    have := hkrx x q1 ⟨B, q2, q3, q4⟩
    rcases hv with ⟨h, _⟩ | ⟨x', t, nb, cp, r, p1, p2, _⟩
    ·omega
    ·rw [q1] at p1; cases p1
     rw [this, hkr] at p2; cases p2
   by_cases q : e = n <;> by_cases q' : e' = n
   ·omega
   ·rw [q, hcr2] at hx; cases hx
    rw [hcr1 e' (by omega)] at hx'
    exact (cross e' _ (by omega) hx').elim
   ·rw [q', hcr2] at hx'; cases hx'
    rw [hcr1 e (by omega)] at hx
    exact (cross e _ (by omega) hx).elim
   ·rw [hcr1 e (by omega)] at hx
    rw [hcr1 e' (by omega)] at hx'
    exact hro.2 e e' x c c' (by omega) (by omega) hx hx'
 obtain ⟨H2, hH2⟩ : ∃ H2, updH H ((k', some (.mat el t2 (n + 1) (n + 1) m2 n2 (putG n g f))) :: (kr, some .gone) :: (ky, some .gone) :: goneL k) = H2 := ⟨_, rfl⟩
 have hHk : H2 k' = some (.mat el t2 (n + 1) (n + 1) m2 n2 (putG n g f)) := by rw [← hH2]; simp [updH]
 have hHg : ∀ x, x ≠ k' → (x = kr ∨ x = ky ∨ k = some x) → H2 x = some .gone := fun x h1 h2 => by
  rw [← hH2]; simp only [updH]; rw [if_neg (Ne.symm h1)]
  by_cases q1 : kr = x
  ·rw [if_pos q1]
  ·rw [if_neg q1]
   by_cases q2 : ky = x
   ·rw [if_pos q2]
   ·rw [if_neg q2]
    rcases h2 with h2 | h2 | h2
    ·exact absurd h2.symm q1
    ·exact absurd h2.symm q2
    ·rw [h2]; simp [goneL, updH]
 have hHo : ∀ x, x ≠ k' → ¬ (x = kr ∨ x = ky ∨ k = some x) → H2 x = H x := fun x h1 h2 => by
  rw [← hH2]; simp only [updH]; rw [if_neg (Ne.symm h1), if_neg (fun q => h2 (.inl q.symm)), if_neg (fun q => h2 (.inr (.inl q.symm)))]
  cases k with
  | none => rfl
  | some y => simp only [updH, goneL]; exact if_neg (fun e => h2 (.inr (.inr (by rw [e]))))
 have halive : ∀ x, (x = kr ∨ x = ky ∨ k = some x) → 1000 ≤ x ∧ x ≠ k' ∧ ∃ B, H x = some B := fun x hx => by
  rcases hx with rfl | rfl | hx
  ·exact ⟨hr100, fun e => (by rw [e, hk'] at hkr; cases hkr), _, hkr⟩
  ·exact ⟨hy100, fun e => (by rw [e, hk'] at hky; cases hky), _, hky⟩
  ·exact ⟨(hk x hx).1, hkx x hx, (hk x hx).2⟩
 rw [hH2]
 refine ⟨i', ?_, by rw [← hcc]; exact .sl _ _ _ _ _ hik (by rw [hcc]; exact hnc) (by rw [hcc]; unfold maxLen at hml; omega)⟩
 refine hF.step (fun x => x = k' ∨ (x = kr ∨ x = ky ∨ k = some x)) hos (fun z hz hn => hb z hz (fun e => ?_)) (fun x hx => hio x (fun e => hx (e ▸ hk'))) (fun x hx => hHo x (fun e => hx (.inl e)) (fun e => hx (.inr e))) (fun x hx e => ?_) (fun x hx e => ?_) (fun x hx e => ?_) (fun o b hb => hb) (fun b hb => .inl hb) (fun b hb => ⟨hF.zsub b hb, hF.zNew b hb⟩) (fun x B hx hB' => ?_) (fun x B z hx hB' hm hf => ?_) (fun x x' B B' z hx hx' hB1 hB2 m1 m2 _ _ => ?_)
 ·rcases hv with ⟨_, h⟩ | ⟨x', t, nb, cp, r, p1, p2, p3, p4, _⟩
  ·rw [h] at e; cases e
  ·rw [p4] at e; cases e
   exact hn x' _ (.inr (.inr (.inr p1))) p2 rfl (.root p3)
 ·by_cases q : x = k'
  ·rw [q, hHk] at e; cases e
  ·rw [hHg x q (hx.resolve_left q)] at e; cases e
 ·rw [hio x (fun e => hx (.inl e))]; exact hF.nil x e
 ·rw [hio x (by omega)]; exact hF.nil x e
 ·by_cases q : x = k'
  ·subst q
   rw [hHk] at hB'; cases hB'
   refine .inl ⟨b, cp', hik, ?_, fun _ => ?_, fun h => (by cases h), hmat⟩
   ·rcases horg with ⟨y, B, q1, q2, q3, q4, _⟩ | ⟨q1, _⟩
    ·rcases (hF.foot y B b q2 q3 q4).2.1 with q5 | ⟨q5, _⟩
     ·exact .inl q5
     ·have := (hk y q1).1; omega
    ·have := hF.kept.size; exact .inl (by omega)
   ·rcases horg with ⟨y, B, q1, q2, q3, q4, _⟩ | ⟨q1, _⟩
    ·exact (hF.foot y B b q2 q3 q4).2.2
    ·exact ⟨fun hz => by have := (hF.zOld b hz).1; omega, by have := hF.kept1.size; exact .inl (by omega)⟩
  ·have hx' := hx.resolve_left q
   rw [hHg x q hx'] at hB'; cases hB'
   obtain ⟨_, _, B0, g1⟩ := halive x hx'
   rcases hF.box x B0 g1 with ⟨z, c, e1, e2, _, _, e5⟩ | ⟨e1, _⟩
   ·exact .inl ⟨z, c, (hio x q).trans e1, e2, fun h => (by cases h), fun h => (by cases h), Nat.lt_of_lt_of_le e5.lt hos.2.2.2⟩
   ·exact .inr ⟨(hio x q).trans e1, .inl rfl⟩
 ·by_cases q : x = k'
  ·subst q
   rw [hHk] at hB'; cases hB'
   rw [hik] at hf
   obtain ⟨r', cp2, e5, e6⟩ := hf
   cases e5
   rcases e6 with rfl | ⟨e, c, e7, e8⟩
   ·rcases horg with ⟨y, B, q1, q2, q3, q4, _⟩ | q1
    ·exact .inr ⟨y, B, .inr (.inr (.inr q1)), fun h => absurd h (by have := (hk y q1).1; omega), q2, q3, q4⟩
    ·exact .inl q1
   ·have e7' : e < n + 1 := e7
    by_cases q : e = n
    ·rw [q, hcr2] at e8; cases e8
     exact .inr ⟨kr, _, .inr (.inl rfl), fun h => absurd h (by omega), hkr, rfl, hfr⟩
    ·rw [hcr1 e (by omega)] at e8
     obtain ⟨b2, c2, p1, _, _, _, _, _, y, B, q1, q2, q3, q4⟩ := hro.1 e (by omega)
     rw [e8] at p1; cases p1
     exact .inr ⟨y, B, .inr (.inr (.inr q1)), fun h => absurd h (by have := (hk y q1).1; omega), q2, q3, q4⟩
  ·rw [hHg x q (hx.resolve_left q)] at hB'; cases hB'; cases hm
 ·by_cases q : x = k' <;> by_cases q' : x' = k'
  ·rw [q, q']
  ·rw [hHg x' q' (hx'.resolve_left q')] at hB2; cases hB2; cases m2
  ·rw [hHg x q (hx.resolve_left q)] at hB1; cases hB1; cases m1
  ·rw [hHg x q (hx.resolve_left q)] at hB1; cases hB1; cases m1
theorem loc_append_row {t el t2 ty : TypeId} {x y : Operand} {k k' kr ky n nb m2 n2 nr : Nat} {g : Nat → Nat → List D} {f : Nat → List D} {info info' : TypeInfo} {d' : TypeDesc} {z : Value} (ho : o.op = .call { callee := .builtin .append, args := #[x, y], argTypes := #[t, t] }) (hd : dstLt o N = true) [hT : TI P t info (.slice el)] [hT' : TI P el info' d'] (hz : info'.zero = some z) (hm : info'.size = 1) (hzs : z.cells.size = 1)
  (hx : Opd E x (.sl k 1 n)) (hk : H k = some (.mat el t2 nb n m2 n2 g)) (h100 : Nat.ble 1000 k = true) (hy : Opd E y (.sl ky 1 1)) (hky : H ky = some (.lit ty [.sl kr m2 n2])) (hy100 : Nat.ble 1000 ky = true) (hkr : H kr = some (.arr t2 nr m2 f)) (hr100 : Nat.ble 1000 kr = true) (hn2 : n2 ≤ nr) (h0 : 0 < n2) (hb : (n + 1) * info'.bytes ≤ 140737488355328) (h63 : n + 1 ≤ 9223372036854775807) :
  Loc P N o E H ⟨[k, ky, kr], o.dst, .sl k' 1 (n + 1), [(k', some (.mat el t2 (n + 1) (n + 1) m2 n2 (putG n g f))), (kr, some .gone), (ky, some .gone), (k, some .gone)], [k']⟩ := by
 refine ⟨rfl, by simp [ho], fun E1 H1 h1 h2 h3 S a w hN hR K Q _ hK => ?_⟩
 obtain ⟨Z, i, hF⟩ := hR
 have e1 := hF.opd (Opd.agree (x := x) (by simp [ho, Op.operands, Call.operands]) h1 hx)
 have e2 := hF.opd (Opd.agree (x := y) (by simp [ho, Op.operands, Call.operands]) h1 hy)
 have hk1 := (h2 k (by simp)).trans hk
 have hk2 := (h2 ky (by simp)).trans hky
 have hk3 := (h2 kr (by simp)).trans hkr
 -- the row
 have hrow : ∃ by_ capy br cr, a.eval y = .slice (some ⟨by_, 0, none⟩) 1 capy ∧ i kr = some (some (br, cr)) ∧ n2 ≤ cr.c ∧ cr.c ≤ 9223372036854775807 ∧ w.cell? ⟨by_, 0, none⟩ = some (.slice (some ⟨br, 0, none⟩) n2 cr.c) := by
  generalize hu : a.eval y = u at e2
  cases e2 with
  | @sl _ b _ _ _ cap hib q1 q2 =>
   rcases hF.box ky _ hk2 with ⟨_, _, f1, _, _, _, cs, hB, hs, hall⟩ | ⟨f1, _⟩
   ·rw [hib] at f1; cases f1
    have hc0 := (hall 0 (by simp)).2
    generalize hq : cs.getD 0 undef = u0 at hc0
    have hc0' : Rep Z w i u0 (.sl kr m2 n2) := hc0
    cases hc0' with
    | @sl _ br _ _ _ cr hir p1 p2 => exact ⟨b, cap.c, br, cr, rfl, hir, p1, p2, by rw [hB.cell 0 (by rw [hs]; simp), hq]⟩
    | sl0 => omega
   ·rw [hib] at f1; cases f1
 obtain ⟨by_, capy, br, cr, y1, hir, y2, y3, y4⟩ := hrow
 -- the slice that is appended to
 have hown : ∃ v xs, a.eval x = v ∧ w.ownsRow 0 el 1 v n xs ∧ xs.length = n ∧ ((n = 0 ∧ v.ownBlock = none) ∨ ∃ x t nb cp r, some k = some x ∧ H1 x = some (.mat t t2 nb n m2 n2 g) ∧ i x = some (some (r, cp)) ∧ v.ownBlock = some r ∧ ∀ cs T, Bk w r T cs → ∀ e, e < n → xs[e]? = some (cs.getD e undef)) := by
  generalize hv : a.eval x = v at e1
  cases e1 with
  | @sl _ b _ _ _ cap hib q1 q2 =>
   rcases hF.box k _ hk1 with ⟨_, _, f1, _, _, _, cs, hB, hs, hnb, hnn, _⟩ | ⟨f1, _⟩
   ·rw [hib] at f1; cases f1
    refine ⟨_, cs.toList.take (n * 1), rfl, ⟨by simp; omega, .inr ⟨b, cap.c, cs, rfl, Nat.zero_le _, hB, q1, by unfold maxLen; omega, by rw [Nat.mul_one]; exact hs, rfl⟩⟩, by simp; omega, .inr ⟨k, _, _, cap, b, rfl, hk1, hib, rfl, fun cs' T hB' e he => ?_⟩⟩
    unfold Bk at hB hB'
    rw [hB] at hB'; cases hB'
    rw [List.getElem?_take, if_pos (by omega), Array.getElem?_toList, Array.getD_eq_getD_getElem?, Array.getElem?_eq_getElem (by omega)]; rfl
   ·rw [hib] at f1; cases f1
  | sl0 _ _ _ hib => exact ⟨_, [], rfl, World.ownsRow_nil w 0 el 1, rfl, .inl ⟨rfl, rfl⟩⟩
 obtain ⟨v, xs, hv, o1, o2, o3⟩ := hown
 obtain ⟨v', w', r1, r2, r3, r4, r5⟩ := append_core (P := P) (ty := o.type) (w := w) (t := t) (el := el) hz hm hzs (by omega) v n xs o1 (some ⟨by_, 0, none⟩) 1 capy (fun _ _ => .slice (some ⟨br, 0, none⟩) n2 cr.c) (.inr ⟨_, _, rfl⟩) (fun e c he hc => ⟨by_, 0, rfl, (by
  obtain rfl : e = 0 := by omega
  obtain rfl : c = 0 := by omega
  exact y4), rfl⟩) hb h63
 have hrun := run_appendOp (P := P) (a := a) (w := w) (w' := w') ho (by rw [hv, y1]; exact r1)
 have hrl : rowL 1 1 (fun _ _ => Value.slice (some ⟨br, 0, none⟩) n2 cr.c) = [Value.slice (some ⟨br, 0, none⟩) n2 cr.c] := rfl
 rw [hrl] at r4
 obtain ⟨i', hF2, hrep⟩ := hF.appRow (k := some k) (k' := k') (h3 k' (by simp)).1 (h3 k' (by simp)).2 (fun x hx => by cases hx; exact ⟨Nat.le_of_ble_eq_true h100, _, hk1⟩) o3 o2 hk3 hir hn2 (Nat.le_of_ble_eq_true hr100) y3 hk2 (Nat.le_of_ble_eq_true hy100) r2 r3 r5 r4
 unfold Oper.wp
 rw [hrun]
 exact hK _ _ ⟨Z, i', hF2.put (by rw [hN]; exact dstLt_spec hd) hrep⟩
theorem sub_freezeM {env:List (Nat × D)} {box:List (Nat × Option Box)} (k:Nat) {t t2:TypeId} {nb n m2 n2:Nat} {g:Nat→Nat→List D} (hb:hk box k=some (.mat t t2 nb n m2 n2 g)) (h100:Nat.ble 1000 k=true):Sub (lk env) (hk box) (lk env) (hk ((k,some (.ice t n 1 (fun e=>[.fz false n2 m2 (g e)])))::box)):=fun S a w hR=>by
 obtain ⟨Z,i,hF⟩:=hR
 replace h100:=Nat.le_of_ble_eq_true h100
 have hs:∀ x,hk ((k,some (.ice t n 1 (fun e=>[.fz false n2 m2 (g e)])))::box) x=if k=x then some (.ice t n 1 (fun e=>[.fz false n2 m2 (g e)])) else hk box x:=fun x=>by
  simp only [hk]
  by_cases q:k=x
  ·subst q;simp
  ·rw [beq_ne q,if_neg q]
 have hft:∀ b,Foot (.mat t t2 nb n m2 n2 g) (i k) b→b<w.heap.size∧S.w0.heap.size≤b:=fun b hf=>by
  have f:=hF.foot k _ b hb rfl hf
  exact ⟨f.1,by rcases f.2.1 with q | ⟨q,_⟩;exact q;omega⟩
 refine ⟨fun o x=>Z o x∨Foot (.mat t t2 nb n m2 n2 g) (i k) x,i,?_⟩
 refine hF.step (fun x=>x=k) ⟨rfl,rfl,rfl,Nat.le_refl _⟩ (fun _ _ _=>rfl) (fun _ _=>rfl) (fun x hx=>by rw [hs];exact if_neg (Ne.symm hx)) (fun x hx e=>?_) (fun x hx e=>hF.nil x e) (fun x _ e=>hF.nil x e) (fun o b hb=>.inl hb) (fun x hx=>?_) (fun x hx=>?_) (fun x B hx hB=>?_) (fun x B b1 hx hB hm _=>by rw [hs,if_pos hx.symm] at hB;cases hB;cases hm) (fun x x' B B' b1 hx hx' _ _ _ _ _ _=>hx.trans hx'.symm)
 ·rw [hs,if_pos hx.symm] at e;cases e
 ·rcases hx with hx | hx
  ·exact .inl hx
  ·exact .inr ⟨(hft x hx).1,(hft x hx).2,.inr ⟨k,_,rfl,hb,rfl,hx⟩,fun y B hy hB hm _=>by rw [hs,if_pos hy.symm] at hB;cases hB;cases hm⟩
 ·rcases hx with hx | hx
  ·exact ⟨.inl (hF.zsub x hx),hF.zNew x hx⟩
  ·exact ⟨.inr hx,(hft x hx).2⟩
 ·rw [hs,if_pos hx.symm] at hB;cases hB
  subst hx
  rcases hF.box x _ hb with ⟨b,cap,e1,e2,e3,_,cs,hB,hcs,hnb,hn,hrw,_⟩ | ⟨e1,e2⟩
  ·refine .inl ⟨b,cap,e1,e2,fun h=>(by cases h),fun _=>.inr (.root e1),cap.c,cs,hB,by rw [Nat.mul_one];exact hcs,by omega,fun _ _=>rfl,fun e c he hc=>?_⟩
   obtain rfl:c=0:=by omega
   rw [Nat.mul_one,Nat.add_zero]
   obtain ⟨b2,c2,p1,p2,p3,p4,cs2,hB2,hs2,hnc2,hfl2,hall2⟩:=hrw e he
   have hf2:Foot (.mat t t2 nb n m2 n2 g) (i x) b2:=⟨b,cap,e1,.inr ⟨e,c2,he,p1⟩⟩
   rw [p3]
   refine ⟨rfl,.fz _ _ _ n2 c2 m2 (g e) (fun y c=>cs2.getD (y*m2+c) undef) hnc2 p4 hfl2 (fun y c hy hc=>⟨b2,0,rfl,.inr hf2,?_,(hall2 y c hy hc).1⟩) (fun y c hy hc=>(hall2 y c hy hc).2.mem (fun o b hz=>⟨.inl hz,rfl⟩))⟩
   have hlt:y*m2+c<cs2.size:=by
    have:(y+1)*m2≤c2*m2:=Nat.mul_le_mul_right _ (by omega)
    rw [Nat.add_mul] at this;omega
   rw [Nat.zero_add];exact hB2.cell _ hlt
  ·rcases e2 with e2 | ⟨t',m',f2,e2 | e2⟩ | ⟨_,_,_,_,_,e2⟩
   ·cases e2
   ·cases e2
   ·cases e2
   ·cases e2
    exact .inr ⟨e1,.inr (.inl ⟨_,_,_,.inr rfl⟩)⟩
theorem Fits.lentF (hF:Fits S E H Z i a w) (hL:∀ k,k∈L→∃ B,H k=some B∧B.mut=true) {k b:Nat} {B:Box} (hk:H k=some B) (hm:B.mut=true) (hf:Foot B (i k) b) (hkL:k ∉ L):ZL true L Z i w true b:=
 .inr ⟨rfl,rfl,(hF.foot k B b hk hm hf).1,fun k' c hk' e=>by
  obtain ⟨B',h1,h2⟩:=hL k' hk'
  exact hkL (hF.inj k k' B B' b hk h1 hm h2 hf (.root e)▸hk')⟩
theorem CvV.slr {k nb n m2 n2 e len:Nat} {t t2:TypeId} {g:Nat→Nat→List D} (h:H k=some (.mat t t2 nb n m2 n2 g)) (he:e<n) (hn:len≤n2) (hkL:memB k L=false) (hns:memB k ns=true):CvV true L ns H (.slr k e m2 len) (.fz true len m2 (g e)):=fun H1 hH S E a w Z i v hF hL hv=>by
 rw [← hH k (memB_spec hns)] at h
 cases hv with | @slr _ r cp _ _ _ _ b cap hib hr h1 h2=>
 obtain ⟨_,_,cs,hB,hs,hnc,hfl,hall⟩:=hF.row h hib he hr
 have hz:=hF.lentF hL h rfl ⟨r,cp,hib,.inr ⟨e,cap,he,hr⟩⟩ (memB_no hkL)
 refine .fz _ _ _ len cap m2 (g e) (fun y c=>cs.getD (y*m2+c) undef) h1 h2 (fun y hy=>hfl y (by omega)) (fun y c hy hc=>⟨b,0,rfl,hz,?_,(hall y c (by omega) hc).1⟩) (fun y c hy hc=>(hall y c (by omega) hc).2.mem (fun o b hz=>⟨.inl hz,rfl⟩))
 have hlt:y*m2+c<cs.size:=by
  have:(y+1)*m2≤cap*m2:=Nat.mul_le_mul_right _ (by omega)
  rw [Nat.add_mul] at this;omega
 rw [Nat.zero_add];exact hB.cell _ hlt
theorem CvV.slm {k nb n m2 n2 len:Nat} {t t2:TypeId} {g:Nat→Nat→List D} (h:H k=some (.mat t t2 nb n m2 n2 g)) (hn:len≤n) (hkL:memB k L=false) (hns:memB k ns=true):CvV true L ns H (.sl k 1 len) (.fz true len 1 (fun e=>[.fz true n2 m2 (g e)])):=fun H1 hH S E a w Z i v hF hL hv=>by
 rw [← hH k (memB_spec hns)] at h
 cases hv with
 | @sl _ b _ _ _ cap hib h1 h2=>
  rcases hF.box k _ h with ⟨_,_,e1,_,_,_,cs,hB,hcs,hnb,hnn,hrw,_⟩ | ⟨e1,_⟩
  ·rw [hib] at e1;cases e1
   have hz:=hF.lentF hL h rfl (.root hib) (memB_no hkL)
   refine .fz _ _ _ len cap.c 1 _ (fun e _=>cs.getD e undef) h1 h2 (fun _ _=>rfl) (fun e c he hc=>⟨b,0,rfl,hz,?_,?_⟩) (fun e c he hc=>?_)
   ·obtain rfl:c=0:=by omega
    rw [Nat.mul_one,Nat.add_zero,Nat.zero_add]
    exact hB.cell _ (by omega)
   ·obtain ⟨b2,c2,p1,p2,p3,p4,p5⟩:=hrw e (by omega)
    rw [p3];rfl
   ·obtain rfl:c=0:=by omega
    obtain ⟨b2,c2,p1,p2,p3,p4,p5⟩:=hrw e (by omega)
    have hle:n2≤c2:=by obtain ⟨_,_,_,h,_⟩:=p5;exact h
    rw [p3]
    have he':e<n:=by omega
    exact (CvV.slr (L:=L) (ns:=ns) (H:=H1) (n:=n) (e:=e) h he' (Nat.le_refl _) hkL hns) H1 (fun _ _=>rfl) S _ a w Z i _ hF hL (.slr _ _ _ _ _ _ _ hib p1 hle p4)
  ·rw [hib] at e1;cases e1
 | sl0=>exact .fz _ _ none 0 0 1 _ (fun _ _=>undef) (Nat.le_refl _) (by omega) (fun e he=>by omega) (fun e c he=>by omega) (fun e c he=>by omega)
end


abbrev InK (k:IntKind) (z:Int):Prop:=match k with
 | .i8=> -128≤z∧z≤127
 | .i16=> -32768≤z∧z≤32767
 | .i32=> -2147483648≤z∧z≤2147483647
 | .i64=> -9223372036854775808≤z∧z≤9223372036854775807
 | .u8=>0≤z∧z≤255
 | .u16=>0≤z∧z≤65535
 | .u32=>0≤z∧z≤4294967295
 | .u64=>0≤z∧z≤18446744073709551615
theorem wrap_in {k:IntKind} {z:Int} (h:InK k z):k.wrap z=z:=by
 cases k<;>simp only [InK] at h<;>simp [IntKind.wrap,IntKind.bits,IntKind.signed]<;>omega
abbrev topK:IntKind→Nat
 | .i8=>127
 | .i16=>32767
 | .i32=>2147483647
 | .i64=>9223372036854775807
 | .u8=>255
 | .u16=>65535
 | .u32=>4294967295
 | .u64=>18446744073709551615
theorem wrap_nat {k:IntKind} {n:Nat} (h:n≤topK k):k.wrap (n:Int)=n:=wrap_in (by cases k<;>simp only [topK] at h<;>simp only [InK]<;>omega)
def NatIs (z:Int) (n:Nat):Prop:=z=(n:Int)
theorem NatIs.cast (n:Nat):NatIs (n:Int) n:=rfl
theorem NatIs.lit (n:Nat):NatIs (@OfNat.ofNat Int n instOfNat) (@OfNat.ofNat Nat n (instOfNatNat n)):=rfl
section
variable {P:Program} {k:IntKind} {x y z:Int} {a b:Nat}
def BinR (P:Program) (op:BinOp) (t:TypeId) (x y:Operand) (vx vy r:Value):Prop:=∀ w,(do eqGuard op t x y vx vy;binOp op t vx vy:Sem Value).run P w = .ok r w
variable {t:TypeId} {ox oy:Operand}
theorem bn_add (hx:NatIs x a) (hy:NatIs y b) (h:a+b≤topK k):BinR P .add t ox oy (.int k x) (.int k y) (.int k ((a+b:Nat):Int)):=fun w=>by
 obtain rfl:=hx;obtain rfl:=hy
 have:=wrap_nat (k:=k) h
 rw [Int.natCast_add] at this
 simp [eqGuard,binOp,Op.intArith,this,Result.andThen]
theorem bi_add (h:InK k (x+y)):BinR P .add t ox oy (.int k x) (.int k y) (.int k (x+y)):=fun w=>by
 simp [eqGuard,binOp,Op.intArith,wrap_in h,Result.andThen]
theorem bw_add:BinR P .add t ox oy (.int k x) (.int k y) (.int k (k.wrap (x+y))):=fun w=>by
 simp [eqGuard,binOp,Op.intArith,Result.andThen]
theorem bn_sub (hx:NatIs x a) (hy:NatIs y b) (h:b≤a) (hk:a≤topK k):BinR P .sub t ox oy (.int k x) (.int k y) (.int k ((a - b:Nat):Int)):=fun w=>by
 obtain rfl:=hx;obtain rfl:=hy
 have:=wrap_nat (k:=k) (n:=a - b) (by omega)
 rw [Int.natCast_sub h] at this
 simp [eqGuard,binOp,Op.intArith,this,Result.andThen,Int.natCast_sub h]
theorem bi_sub (h:InK k (x - y)):BinR P .sub t ox oy (.int k x) (.int k y) (.int k (x - y)):=fun w=>by
 simp [eqGuard,binOp,Op.intArith,wrap_in h,Result.andThen]
theorem bw_sub:BinR P .sub t ox oy (.int k x) (.int k y) (.int k (k.wrap (x - y))):=fun w=>by
 simp [eqGuard,binOp,Op.intArith,Result.andThen]
theorem bn_mul (hx:NatIs x a) (hy:NatIs y b) (h:a*b≤topK k):BinR P .mul t ox oy (.int k x) (.int k y) (.int k ((a*b:Nat):Int)):=fun w=>by
 obtain rfl:=hx;obtain rfl:=hy
 have:=wrap_nat (k:=k) h
 rw [Int.natCast_mul] at this
 simp [eqGuard,binOp,Op.intArith,this,Result.andThen]
theorem bi_mul (h:InK k (x*y)):BinR P .mul t ox oy (.int k x) (.int k y) (.int k (x*y)):=fun w=>by
 simp [eqGuard,binOp,Op.intArith,wrap_in h,Result.andThen]
theorem bw_mul:BinR P .mul t ox oy (.int k x) (.int k y) (.int k (k.wrap (x*y))):=fun w=>by
 simp [eqGuard,binOp,Op.intArith,Result.andThen]
theorem bn_quo (hx:NatIs x a) (hy:NatIs y b) (h:0<b) (hk:a≤topK k):BinR P .quo t ox oy (.int k x) (.int k y) (.int k ((a / b:Nat):Int)):=fun w=>by
 obtain rfl:=hx;obtain rfl:=hy
 have:=wrap_nat (k:=k) (n:=a / b) (Nat.le_trans (Nat.div_le_self a b) hk)
 have h0:¬ b=0:=by omega
 rw [Int.natCast_ediv] at this
 simp [eqGuard,binOp,Op.intDiv,h0,Result.andThen,Int.tdiv_eq_ediv_of_nonneg,this]
theorem bi_quo (h0:y≠0) (h:InK k (x.tdiv y)):BinR P .quo t ox oy (.int k x) (.int k y) (.int k (x.tdiv y)):=fun w=>by
 simp [eqGuard,binOp,Op.intDiv,h0,Result.andThen,wrap_in h]
theorem bn_rem (hx:NatIs x a) (hy:NatIs y b) (h:0<b):BinR P .rem t ox oy (.int k x) (.int k y) (.int k ((a % b:Nat):Int)):=fun w=>by
 obtain rfl:=hx;obtain rfl:=hy
 have h0:¬ b=0:=by omega
 simp [eqGuard,binOp,Op.intDiv,h0,Result.andThen,Int.tmod_eq_emod_of_nonneg,Int.natCast_emod]
theorem bi_rem (h0:y≠0):BinR P .rem t ox oy (.int k x) (.int k y) (.int k (x.tmod y)):=fun w=>by
 simp [eqGuard,binOp,Op.intDiv,h0,Result.andThen]
theorem bn_eql (hx:NatIs x a) (hy:NatIs y b):BinR P .eql t ox oy (.int k x) (.int k y) (.bool (decide (a=b))):=fun w=>by
 obtain rfl:=hx;obtain rfl:=hy
 simp [eqGuard,binOp,Op.intCmp,Result.andThen]
 by_cases q:a=b<;>simp [q]<;>omega
theorem bi_eql:BinR P .eql t ox oy (.int k x) (.int k y) (.bool (decide (x=y))):=fun w=>by
 simp [eqGuard,binOp,Op.intCmp,Result.andThen]
 by_cases q:x=y<;>simp [q]
theorem bn_neq (hx:NatIs x a) (hy:NatIs y b):BinR P .neq t ox oy (.int k x) (.int k y) (.bool (decide (a≠b))):=fun w=>by
 obtain rfl:=hx;obtain rfl:=hy
 simp [eqGuard,binOp,Op.intCmp,Result.andThen]
 by_cases q:a=b<;>simp [q]<;>omega
theorem bi_neq:BinR P .neq t ox oy (.int k x) (.int k y) (.bool (decide (x≠y))):=fun w=>by
 simp [eqGuard,binOp,Op.intCmp,Result.andThen]
 by_cases q:x=y<;>simp [q]
theorem bn_lss (hx:NatIs x a) (hy:NatIs y b):BinR P .lss t ox oy (.int k x) (.int k y) (.bool (decide (a<b))):=fun w=>by
 obtain rfl:=hx;obtain rfl:=hy
 simp [eqGuard,binOp,Op.intCmp,Result.andThen]
theorem bi_lss:BinR P .lss t ox oy (.int k x) (.int k y) (.bool (decide (x<y))):=fun w=>by
 simp [eqGuard,binOp,Op.intCmp,Result.andThen]
theorem bn_leq (hx:NatIs x a) (hy:NatIs y b):BinR P .leq t ox oy (.int k x) (.int k y) (.bool (decide (a≤b))):=fun w=>by
 obtain rfl:=hx;obtain rfl:=hy
 simp [eqGuard,binOp,Op.intCmp,Result.andThen]
theorem bi_leq:BinR P .leq t ox oy (.int k x) (.int k y) (.bool (decide (x≤y))):=fun w=>by
 simp [eqGuard,binOp,Op.intCmp,Result.andThen]
theorem bn_gtr (hx:NatIs x a) (hy:NatIs y b):BinR P .gtr t ox oy (.int k x) (.int k y) (.bool (decide (b<a))):=fun w=>by
 obtain rfl:=hx;obtain rfl:=hy
 simp [eqGuard,binOp,Op.intCmp,Result.andThen]
theorem bi_gtr:BinR P .gtr t ox oy (.int k x) (.int k y) (.bool (decide (y<x))):=fun w=>by
 simp [eqGuard,binOp,Op.intCmp,Result.andThen]
theorem bn_geq (hx:NatIs x a) (hy:NatIs y b):BinR P .geq t ox oy (.int k x) (.int k y) (.bool (decide (b≤a))):=fun w=>by
 obtain rfl:=hx;obtain rfl:=hy
 simp [eqGuard,binOp,Op.intCmp,Result.andThen]
theorem bi_geq:BinR P .geq t ox oy (.int k x) (.int k y) (.bool (decide (y≤x))):=fun w=>by
 simp [eqGuard,binOp,Op.intCmp,Result.andThen]
theorem bb_eql {p q:Bool} {i:TypeInfo} [hT:TI P t i .bool]:BinR P .eql t ox oy (.bool p) (.bool q) (.bool (p == q)):=fun w=>by
 have:=run_equal_bool (P:=P) w t p q hT.under
 simp [eqGuard,binOp,this,Result.andThen]
theorem bb_neq {p q:Bool} {i:TypeInfo} [hT:TI P t i .bool]:BinR P .neq t ox oy (.bool p) (.bool q) (.bool (!(p == q))):=fun w=>by
 have:=run_equal_bool (P:=P) w t p q hT.under
 simp [eqGuard,binOp,this,Result.andThen]
theorem bs_eql {p q:ByteArray}:BinR P .eql t ox oy (.string p) (.string q) (.bool (p.toList == q.toList)):=fun w=>by
 simp [eqGuard,binOp,Op.stringOp,Result.andThen]
theorem bs_neq {p q:ByteArray}:BinR P .neq t ox oy (.string p) (.string q) (.bool (!(p.toList == q.toList))):=fun w=>by
 simp [eqGuard,binOp,Op.stringOp,Result.andThen]
def ConR (P:Program) (s t:TypeId) (vx r:Value):Prop:=∀ w,(convert s t vx).run P w = .ok r w
variable {s:TypeId} {k' ks:IntKind} {i i':TypeInfo}
theorem cn_int [hS:TI P s i (.int ks)] [hT:TI P t i' (.int k')] (hx:NatIs x a) (h:a≤topK k'):ConR P s t (.int k x) (.int k' (a:Int)):=fun w=>by
 obtain rfl:=hx
 simp [convert,run_underlying hS.under,run_underlying hT.under,Conv.intToInt,wrap_nat h,Result.andThen]
theorem ci_int [hS:TI P s i (.int ks)] [hT:TI P t i' (.int k')] (h:InK k' x):ConR P s t (.int k x) (.int k' x):=fun w=>by
 simp [convert,run_underlying hS.under,run_underlying hT.under,Conv.intToInt,wrap_in h,Result.andThen]
theorem cw_int [hS:TI P s i (.int ks)] [hT:TI P t i' (.int k')]:ConR P s t (.int k x) (.int k' (k'.wrap x)):=fun w=>by
 simp [convert,run_underlying hS.under,run_underlying hT.under,Conv.intToInt,Result.andThen]
def UnR (P:Program) (op:UnOp) (vx r:Value):Prop:=∀ w,(Op.unary op vx).run P w = .ok r w
theorem un_not {p:Bool}:UnR P .not (.bool p) (.bool (!p)):=fun w=>by simp [Op.unary]
theorem un_neg (h:InK k (-x)):UnR P .neg (.int k x) (.int k (-x)):=fun w=>by
 have:=wrap_in h
 simp [Op.unary,Op.intArith,this]
end


inductive Lk:List (Nat × D)→Nat→D→Prop where
 | here {t:Nat} {d:D} {l:List (Nat × D)}:Lk ((t,d)::l) t d
 | there {s t:Nat} {d d':D} {l:List (Nat × D)} (h:Nat.beq s t=false) (k:Lk l t d):Lk ((s,d')::l) t d
theorem Lk.eq {l:List (Nat × D)} {t:Nat} {d:D} (h:Lk l t d):lk l t=d:=by
 induction h with
 | here=>simp [lk]
 | there h _ ih=>simp only [lk,h];exact ih
inductive Op1 (env:List (Nat × D)):Operand→D→Prop where
 | tmp {t:Nat} {d:D} (h:Lk env t d):Op1 env (.tmp t) d
 | const (v:Value):Op1 env (.const v) (.val v)
 | gl (g:Nat):Op1 env (.global g) (.val (.pointer (some ⟨g,0,none⟩)))
 | fn (f:FuncId):Op1 env (.func f) (.val (.func (.func f) #[] #[]))
 | whn {x:Operand} {b:Bool} {d:D} (h:Op1 env x (when b d)) (hb:b=true):Op1 env x d
 | wha {x:Operand} {b c:Bool} {d:D} (h:Op1 env x (when (b && c) d)) (hb:b=true):Op1 env x (when c d)
theorem Op1.opd {env:List (Nat × D)} {x:Operand} {d:D} (h:Op1 env x d):Opd (lk env) x d:=by
 induction h with
 | tmp h=>exact h.eq
 | const=>rfl
 | gl=>rfl
 | fn=>rfl
 | whn _ hb ih=>subst hb;exact ih
 | wha _ hb ih=>subst hb;rw [Bool.true_and] at ih;exact ih
inductive Op1L (env:List (Nat × D)):List Operand→List D→Prop where
 | nil:Op1L env [] []
 | cons {x:Operand} {d:D} {xs:List Operand} {ds:List D} (h:Op1 env x d) (k:Op1L env xs ds):Op1L env (x::xs) (d::ds)
theorem Op1L.opd {env:List (Nat × D)} {xs:List Operand} {ds:List D} (h:Op1L env xs ds):OpdL (lk env) xs ds:=by
 induction h with
 | nil=>trivial
 | cons h _ ih=>exact ⟨h.opd,ih⟩
inductive Op1P (env:List (Nat × D)):List (Nat × Operand)→List (Nat × D)→Prop where
 | nil:Op1P env [] []
 | cons {j:Nat} {x:Operand} {d:D} {xs:List (Nat × Operand)} {ds:List (Nat × D)} (h:Op1 env x d) (k:Op1P env xs ds):Op1P env ((j,x)::xs) ((j,d)::ds)
theorem Op1P.opd {env:List (Nat × D)} {xs:List (Nat × Operand)} {ds:List (Nat × D)} (h:Op1P env xs ds):OpdP (lk env) xs ds:=by
 induction h with
 | nil=>trivial
 | cons h _ ih=>exact ⟨rfl,h.opd,ih⟩
inductive Op1O (env:List (Nat × D)):Option Operand→Nat→Nat→Prop where
 | none (n:Nat):Op1O env none n n
 | some {x:Operand} {k:IntKind} {z:Int} {l n:Nat} (h:Op1 env x (.val (.int k z))) (hz:NatIs z l):Op1O env (some x) l n
theorem Op1O.opt {env:List (Nat × D)} {x:Option Operand} {l n:Nat} (h:Op1O env x l n):OptIs (lk env) x l n:=by
 cases h with
 | none=>rfl
 | @some x k z l n h hz=>obtain rfl:=hz;exact ⟨k,h.opd⟩
inductive Bl:List (Nat × Option Box)→Nat→Box→Prop where
 | here {k:Nat} {B:Box} {l:List (Nat × Option Box)}:Bl ((k,some B)::l) k B
 | there {s k:Nat} {B:Box} {B':Option Box} {l:List (Nat × Option Box)} (h:Nat.beq s k=false) (r:Bl l k B):Bl ((s,B')::l) k B
theorem Bl.eq {l:List (Nat × Option Box)} {k:Nat} {B:Box} (h:Bl l k B):hk l k=some B:=by
 induction h with
 | here=>simp [hk]
 | there h _ ih=>simp only [hk,h];exact ih
inductive Ba:List (Nat × Option Box)→Nat→Nat→Nat→(Nat→List D)→Prop where
 | arr {l:List (Nat × Option Box)} {k n m:Nat} {t:TypeId} {f:Nat→List D} (h:Bl l k (.arr t n m f)):Ba l k n m f
 | ice {l:List (Nat × Option Box)} {k n m:Nat} {t:TypeId} {f:Nat→List D} (h:Bl l k (.ice t n m f)):Ba l k n m f
theorem Ba.is {l:List (Nat × Option Box)} {k n m:Nat} {f:Nat→List D} (h:Ba l k n m f):isArr (hk l k) n m f:=by
 cases h with
 | arr h=>exact ⟨_,.inl h.eq⟩
 | ice h=>exact ⟨_,.inr h.eq⟩
inductive At:List D→Nat→D→Prop where
 | here {d:D} {l:List D}:At (d::l) 0 d
 | there {d d':D} {l:List D} {c:Nat} (h:At l c d):At (d'::l) (c+1) d
theorem At.spec {l:List D} {c:Nat} {d:D} (h:At l c d):c<l.length∧dl l c=d:=by
 induction h with
 | here=>exact ⟨by simp,rfl⟩
 | there _ ih=>exact ⟨by simpa using ih.1,ih.2⟩
theorem At.seg {l:List D} {c:Nat} {d:D} (h:At l c d):takeL 1 (dropL c l)=[d]:=by
 induction h with
 | here=>rfl
 | there _ ih=>exact ih
inductive Sg:List D→Nat→Nat→List D→Prop where
 | nil {l:List D}:Sg l 0 0 []
 | take {d:D} {l l':List D} {n:Nat} (h:Sg l 0 n l'):Sg (d::l) 0 (n+1) (d::l')
 | drop {d:D} {l l':List D} {c n:Nat} (h:Sg l c n l'):Sg (d::l) (c+1) n l'
theorem Sg.seg {l:List D} {c n:Nat} {l':List D} (h:Sg l c n l'):takeL n (dropL c l)=l'∧c+n≤l.length:=by
 induction h with
 | nil=>exact ⟨rfl,by simp⟩
 | take _ ih=>exact ⟨by simp only [dropL,takeL] at ih ⊢;rw [ih.1],by have:=ih.2;simp only [List.length_cons];omega⟩
 | drop _ ih=>exact ⟨ih.1,by have:=ih.2;simp only [List.length_cons];omega⟩
inductive PutL:List D→Nat→List D→List D→Prop where
 | nil {l:List D}:PutL l 0 [] l
 | cons {d x:D} {l l' xs:List D} (h:PutL l 0 xs l'):PutL (d::l) 0 (x::xs) (x::l')
 | skip {d:D} {l l' xs:List D} {c:Nat} (h:PutL l c xs l'):PutL (d::l) (c+1) xs (d::l')
theorem PutL.set {l:List D} {c:Nat} {xs l':List D} (h:PutL l c xs l'):setL l c xs=l'∧c+xs.length≤l.length:=by
 induction h with
 | nil=>exact ⟨by simp [setL,takeL,dropL],by simp⟩
 | cons _ ih=>
  refine ⟨?_,by have:=ih.2;simp only [List.length_cons];omega⟩
  have:=ih.1
  simp only [setL,takeL,List.nil_append,Nat.zero_add] at this ⊢
  simp only [List.length_cons,dropL,List.cons_append]
  rw [this]
 | @skip d l l' xs c _ ih=>
  refine ⟨?_,by have:=ih.2;simp only [List.length_cons];omega⟩
  have:=ih.1
  simp only [setL,takeL,List.cons_append] at this ⊢
  rw [show c+1+xs.length=(c+xs.length)+1 by omega]
  simp only [dropL]
  rw [this]
inductive SrcB (box:List (Nat × Option Box)):D→Nat→Nat→(Nat→List D)→List Nat→Prop where
 | fz (q:Bool) (j m:Nat) (g:Nat→List D):SrcB box (.fz q j m g) j m g []
 | sl {k n j m:Nat} {g:Nat→List D} (h:Ba box k n m g) (hj:j≤n):SrcB box (.sl k m j) j m g [k]
 | nil (m:Nat) (g:Nat→List D):SrcB box (.val (.slice none 0 0)) 0 m g []
theorem SrcB.is {box:List (Nat × Option Box)} {d:D} {j m:Nat} {g:Nat→List D} {ks:List Nat} (h:SrcB box d j m g ks):SrcIs (hk box) d j m g ks:=by
 cases h with
 | fz=>exact .fz _ _ _ _
 | sl h hj=>exact .sl h.is hj
 | nil=>exact .nil _ _
theorem ble_of {a b:Nat} (h:a≤b):Nat.ble a b=true:=Nat.ble_eq_true_of_le h
theorem blt_of {a b:Nat} (h:a<b):Nat.blt a b=true:=Nat.ble_eq_true_of_le h
theorem bytes_le {n b:Nat} (h:Nat.ble b 256=true) (hn:n≤549755813888):n*b≤140737488355328:=by
 have:=Nat.le_of_ble_eq_true h
 calc n*b≤n*256:=Nat.mul_le_mul_left _ this
  _≤_:=by omega
structure Back (G' G:Prop):Prop where
 go:G'→G
theorem Back.refl {G:Prop}:Back G G:=⟨id⟩
theorem Back.step {G' X G:Prop} (f:X→G) (h:Back G' X):Back G' G:=⟨fun g=>f (h.go g)⟩
section
variable {ro:Option Nat} {P:Program} {N:Nat} {Q:Post} {ops:Array Oper} {rest:List Oper} {env:List (Nat × D)} {box:List (Nat × Option Box)} {done:List Rec} {K:List Rec→List (Nat × D)→List (Nat × Option Box)→Prop} {d:Nat} {ty:TypeId} {pos:String} {aft:Array Edge}
theorem r_move {x:Operand} {r:D}  (hx:Op1 env x r) (hd:Nat.blt d (fsz N)=true) (h:RunK P N ops rest ((d,r)::env) box (done++[⟨[],some d,r,[],[]⟩]) K):RunK P N ops (⟨some d,.move x,ty,pos,aft,none⟩::rest) env box done K:=
 run_put (ws:=[]) (fresh:=[]) (loc_move (.inl rfl) hd hx.opd) rfl h
theorem r_assign {x:Operand} {r:D}  (hx:Op1 env x r) (hd:Nat.blt d (fsz N)=true) (h:RunK P N ops rest ((d,r)::env) box (done++[⟨[],some d,r,[],[]⟩]) K):RunK P N ops (⟨some d,.assign x,ty,pos,aft,none⟩::rest) env box done K:=
 run_put (ws:=[]) (fresh:=[]) (loc_move (.inr rfl) hd hx.opd) rfl h
theorem ld_one {t:TypeId} {i:TypeInfo} {e:TypeDesc} [hT:TI P t i e] (ha:isAggD e=false):LoadIs P t 1 false:=by have:=LoadIs.mk (P:=P) (t:=t);rw [ha] at this;exact this
theorem ld_agg {t:TypeId} {i:TypeInfo} {e:TypeDesc} [hT:TI P t i e] (ha:isAggD e=true):LoadIs P t i.size true:=by have:=LoadIs.mk (P:=P) (t:=t);rw [ha] at this;exact this
theorem pt_agg {t:TypeId} {i:TypeInfo} {e:TypeDesc} [hT:TI P t i e] (ha:isAggD e=true):PartIs P t i.size true:=by have:=PartIs.mk (P:=P) (t:=t);rw [ha] at this;exact this
theorem ldD_at {ds:List D} {c:Nat} {r:D} (h:At ds c r):ldD false (takeL 1 (dropL c ds))=r:=by rw [h.seg];rfl
theorem ldD_at0 {ds:List D} {r:D} (h:At ds 0 r):ldD false (takeL 1 ds)=r:=ldD_at h
theorem ldD_sg {ds:List D} {c n:Nat} {l:List D} (h:Sg ds c n l):ldD true (takeL n (dropL c ds)) = .agg l:=by rw [h.seg.1];rfl
theorem ldD_sg0 {ds:List D} {n:Nat} {l:List D} (h:Sg ds 0 n l):ldD true (takeL n ds) = .agg l:=ldD_sg h
theorem r_ld1 {x:Operand} {t t':TypeId} {k m e c:Nat} {ds:List D} {r:D} {i:TypeInfo} {dsc:TypeDesc} [hT:TI P t i dsc] (hx:Op1 env x (.eptr k m e c)) (he:e*m=0) (hb:Bl box k (.lit t' ds)) (ha:At ds c r) (hg:isAggD dsc=false) (hd:Nat.blt d (fsz N)=true) (h:RunK P N ops rest ((d,r)::env) box (done++[⟨[k],some d,r,[],[]⟩]) K):RunK P N ops (⟨some d,.load t x,ty,pos,aft,none⟩::rest) env box done K:=
 run_put (ws:=[]) (fresh:=[]) (ldD_at ha▸loc_load_lit rfl hd (ld_one hg) hx.opd he hb.eq (ble_of (by have:=ha.spec.1;omega))) rfl h
theorem r_ldA {x:Operand} {t t':TypeId} {k m e c:Nat} {ds l:List D} {i:TypeInfo} {dsc:TypeDesc} [hT:TI P t i dsc] (hx:Op1 env x (.eptr k m e c)) (he:e*m=0) (hb:Bl box k (.lit t' ds)) (ha:Sg ds c i.size l) (hg:isAggD dsc=true) (hd:Nat.blt d (fsz N)=true) (h:RunK P N ops rest ((d,.agg l)::env) box (done++[⟨[k],some d,.agg l,[],[]⟩]) K):RunK P N ops (⟨some d,.load t x,ty,pos,aft,none⟩::rest) env box done K:=
 run_put (ws:=[]) (fresh:=[]) (ldD_sg ha▸loc_load_lit rfl hd (ld_agg hg) hx.opd he hb.eq (ble_of ha.seg.2)) rfl h
theorem r_la1 {x:Operand} {t:TypeId} {k m e c n:Nat} {f:Nat→List D} {r:D} {i:TypeInfo} {dsc:TypeDesc} [hT:TI P t i dsc] (hx:Op1 env x (.eptr k m e c)) (hb:Ba box k n m f) (ha:At (f e) c r) (hg:isAggD dsc=false) (hc:Nat.ble (c+1) m=true) (he:e<n) (hd:Nat.blt d (fsz N)=true) (h:RunK P N ops rest ((d,r)::env) box (done++[⟨[k],some d,r,[],[]⟩]) K):RunK P N ops (⟨some d,.load t x,ty,pos,aft,none⟩::rest) env box done K:=
 run_put (ws:=[]) (fresh:=[]) (ldD_at ha▸loc_load_arr rfl hd (ld_one hg) hx.opd hb.is hc he) rfl h
theorem r_lf1 {x:Operand} {t:TypeId} {q:Bool} {l:List D} {r:D} {i:TypeInfo} {dsc:TypeDesc} [hT:TI P t i dsc] (hx:Op1 env x (.fptr q l)) (ha:At l 0 r) (hg:isAggD dsc=false) (hd:Nat.blt d (fsz N)=true) (h:RunK P N ops rest ((d,r)::env) box (done++[⟨[],some d,r,[],[]⟩]) K):RunK P N ops (⟨some d,.load t x,ty,pos,aft,none⟩::rest) env box done K:=
 run_put (ws:=[]) (fresh:=[]) (ldD_at0 ha▸loc_load_fz rfl hd (ld_one hg) hx.opd ha.spec.1) rfl h
theorem r_lfA {x:Operand} {t:TypeId} {q:Bool} {l l':List D} {i:TypeInfo} {dsc:TypeDesc} [hT:TI P t i dsc] (hx:Op1 env x (.fptr q l)) (ha:Sg l 0 i.size l') (hg:isAggD dsc=true) (hd:Nat.blt d (fsz N)=true) (h:RunK P N ops rest ((d,.agg l')::env) box (done++[⟨[],some d,.agg l',[],[]⟩]) K):RunK P N ops (⟨some d,.load t x,ty,pos,aft,none⟩::rest) env box done K:=
 run_put (ws:=[]) (fresh:=[]) (ldD_sg0 ha▸loc_load_fz rfl hd (ld_agg hg) hx.opd (by have:=ha.seg.2;omega)) rfl h
class FT (P:Program) (s:TypeId) (fi:Nat) (off:outParam Nat):Prop where
 ft:FieldIs P s fi off
class FV (P:Program) (s:TypeId) (fi:Nat) (off n:outParam Nat) (ag:outParam Bool):Prop where
 fv:∃ info fs fl,TI P s info (.struct fs)∧fs[fi]? = some fl∧fl.offset=off∧PartIs P fl.type n ag
class ET (P:Program) (t:TypeId) (m:outParam Nat):Prop where
 et:IndexIs P t m
class AR (P:Program) (t:TypeId) (n m:outParam Nat):Prop where
 ar:IndexArr P t n m
class SZ (P:Program) (t:TypeId) (n:outParam Nat):Prop where
 sz:SizeIs P t n
class BT (P:Program) (t:TypeId) (ps:outParam (List (Nat × Nat))) (zs:outParam (List Value)):Prop where
 bt:∃ info fs ns,TI P t info (.struct fs)∧ZeroIs P t zs∧SizesL P fs.toList ns∧plL fs.toList ns=fun j=>ps[j]?
theorem BT.of {P:Program} {t:TypeId} {ps:List (Nat × Nat)} {zs:List Value} {info:TypeInfo} {e:TypeDesc} {fs:Array Field} {ns:List Nat} (h:TI P t info e) (he:e = .struct fs) (hz:ZeroIs P t zs) (hs:SizesL P fs.toList ns) (hp:∀ j,plL fs.toList ns j=ps[j]?):BT P t ps zs:=⟨info,fs,ns,he▸h,hz,hs,funext hp⟩
class ZR (P:Program) (t:TypeId) (zs:outParam (List Value)):Prop where
 zr:ZeroIs P t zs
theorem r_fld {x:Operand} {s:TypeId} {fi off k m e c:Nat} [hF:FT P s fi off] (hx:Op1 env x (.eptr k m e c)) (hd:Nat.blt d (fsz N)=true) (h:RunK P N ops rest ((d,.eptr k m e (c+off))::env) box (done++[⟨[],some d,.eptr k m e (c+off),[],[]⟩]) K):RunK P N ops (⟨some d,.fieldAddr s x fi,ty,pos,aft,none⟩::rest) env box done K:=
 run_put (ws:=[]) (fresh:=[]) (loc_field rfl hd hF.ft hx.opd) rfl h
inductive Dp:List D→Nat→List D→Prop where
 | nil {l:List D}:Dp l 0 l
 | skip {x:D} {l l':List D} {c:Nat} (h:Dp l c l'):Dp (x::l) (c+1) l'
theorem Dp.eq {l:List D} {c:Nat} {l':List D} (h:Dp l c l'):dropL c l=l':=by
 induction h with
 | nil=>rfl
 | skip _ ih=>exact ih
theorem r_flf {x:Operand} {s:TypeId} {fi off:Nat} {q:Bool} {l l':List D} [hF:FT P s fi off] (hx:Op1 env x (.fptr q l)) (hl:Dp l off l') (hd:Nat.blt d (fsz N)=true) (h:RunK P N ops rest ((d,.fptr q l')::env) box (done++[⟨[],some d,.fptr q l',[],[]⟩]) K):RunK P N ops (⟨some d,.fieldAddr s x fi,ty,pos,aft,none⟩::rest) env box done K:=
 run_put (ws:=[]) (fresh:=[]) (hl.eq▸loc_field_fz rfl hd hF.ft hx.opd) rfl h
theorem r_ix {x y:Operand} {t:TypeId} {k m len e:Nat} {kd:IntKind} {z:Int} [hF:ET P t m] (hx:Op1 env x (.sl k m len)) (hy:Op1 env y (.val (.int kd z))) (hz:IdxIs z len e) (hd:Nat.blt d (fsz N)=true) (h:RunK P N ops rest ((d,.eptr k m e 0)::env) box (done++[⟨[],some d,.eptr k m e 0,[],[]⟩]) K):RunK P N ops (⟨some d,.indexAddr t x y,ty,pos,aft,none⟩::rest) env box done K:=
 run_put (ws:=[]) (fresh:=[]) (loc_index rfl hd hF.et hx.opd hy.opd hz) rfl h
theorem r_ixf {x y:Operand} {t:TypeId} {q:Bool} {n m e:Nat} {f:Nat→List D} {kd:IntKind} {z:Int} [hF:ET P t m] (hx:Op1 env x (.fz q n m f)) (hy:Op1 env y (.val (.int kd z))) (hz:IdxIs z n e) (hm:Nat.blt 0 m=true) (hd:Nat.blt d (fsz N)=true) (h:RunK P N ops rest ((d,.fptr q (f e))::env) box (done++[⟨[],some d,.fptr q (f e),[],[]⟩]) K):RunK P N ops (⟨some d,.indexAddr t x y,ty,pos,aft,none⟩::rest) env box done K:=
 run_put (ws:=[]) (fresh:=[]) (loc_index_fz rfl hd hF.et hx.opd hy.opd hm hz) rfl h
theorem r_ixa {x y:Operand} {t:TypeId} {k m n e:Nat} {kd:IntKind} {z:Int} [hF:AR P t n m] (hx:Op1 env x (.eptr k m 0 0)) (hy:Op1 env y (.val (.int kd z))) (hz:IdxIs z n e) (hd:Nat.blt d (fsz N)=true) (h:RunK P N ops rest ((d,.eptr k m e 0)::env) box (done++[⟨[],some d,.eptr k m e 0,[],[]⟩]) K):RunK P N ops (⟨some d,.indexAddr t x y,ty,pos,aft,none⟩::rest) env box done K:=
 run_put (ws:=[]) (fresh:=[]) (loc_index_arr rfl hd hF.ar hx.opd hy.opd hz) rfl h
theorem r_len {x:Operand} {t el:TypeId} {k m n:Nat} {i:TypeInfo} [hT:TI P t i (.slice el)] (hx:Op1 env x (.sl k m n)) (hd:Nat.blt d (fsz N)=true) (h:RunK P N ops rest ((d,.val (.int .i64 (n:Int)))::env) box (done++[⟨[],some d,.val (.int .i64 (n:Int)),[],[]⟩]) K):RunK P N ops (⟨some d,.call { callee:=.builtin .len,args:=#[x],argTypes:=#[t] },ty,pos,aft,none⟩::rest) env box done K:=
 run_put (ws:=[]) (fresh:=[]) (loc_len rfl hd hx.opd) rfl h
theorem r_lenf {x:Operand} {t el:TypeId} {q:Bool} {m n:Nat} {f:Nat→List D} {i:TypeInfo} [hT:TI P t i (.slice el)] (hx:Op1 env x (.fz q n m f)) (hd:Nat.blt d (fsz N)=true) (h:RunK P N ops rest ((d,.val (.int .i64 (n:Int)))::env) box (done++[⟨[],some d,.val (.int .i64 (n:Int)),[],[]⟩]) K):RunK P N ops (⟨some d,.call { callee:=.builtin .len,args:=#[x],argTypes:=#[t] },ty,pos,aft,none⟩::rest) env box done K:=
 run_put (ws:=[]) (fresh:=[]) (loc_len_fz rfl hd hx.opd) rfl h
theorem r_lens {x:Operand} {t:TypeId} {s:ByteArray} {i:TypeInfo} [hT:TI P t i .string] (hx:Op1 env x (.val (.string s))) (hd:Nat.blt d (fsz N)=true) (h:RunK P N ops rest ((d,.val (.int .i64 (s.size:Int)))::env) box (done++[⟨[],some d,.val (.int .i64 (s.size:Int)),[],[]⟩]) K):RunK P N ops (⟨some d,.call { callee:=.builtin .len,args:=#[x],argTypes:=#[t] },ty,pos,aft,none⟩::rest) env box done K:=
 run_put (ws:=[]) (fresh:=[]) (loc_len_str rfl hd hx.opd) rfl h
theorem r_nilF {x:Operand} {q:Bool} {l:List D}  (hx:Op1 env x (.fptr q l)) (hd:Nat.blt d (fsz N)=true) (h:RunK P N ops rest ((d,.fptr q l)::env) box (done++[⟨[],some d,.fptr q l,[],[]⟩]) K):RunK P N ops (⟨some d,.nilCheck x,ty,pos,aft,none⟩::rest) env box done K:=
 run_put (ws:=[]) (fresh:=[]) (loc_nilCheck rfl hd hx.opd rfl) rfl h
theorem r_bin {x y:Operand} {op:BinOp} {t t2:TypeId} {vx vy r:Value}  (hx:Op1 env x (.val vx)) (hy:Op1 env y (.val vy)) (hr:BinR P op t x y vx vy r) (hd:Nat.blt d (fsz N)=true) (h:RunK P N ops rest ((d,.val r)::env) box (done++[⟨[],some d,.val r,[],[]⟩]) K):RunK P N ops (⟨some d,.binOp op t x y t2,ty,pos,aft,none⟩::rest) env box done K:=
 run_put (ws:=[]) (fresh:=[]) (loc_bin rfl hd hx.opd hy.opd hr) rfl h
theorem r_conv {x:Operand} {s t:TypeId} {vx r:Value}  (hx:Op1 env x (.val vx)) (hr:ConR P s t vx r) (hd:Nat.blt d (fsz N)=true) (h:RunK P N ops rest ((d,.val r)::env) box (done++[⟨[],some d,.val r,[],[]⟩]) K):RunK P N ops (⟨some d,.convert s t x,ty,pos,aft,none⟩::rest) env box done K:=
 run_put (ws:=[]) (fresh:=[]) (loc_conv rfl hd hx.opd hr) rfl h
theorem r_un {x:Operand} {op:UnOp} {t:TypeId} {vx r:Value}  (hx:Op1 env x (.val vx)) (hr:UnR P op vx r) (hd:Nat.blt d (fsz N)=true) (h:RunK P N ops rest ((d,.val r)::env) box (done++[⟨[],some d,.val r,[],[]⟩]) K):RunK P N ops (⟨some d,.unOp op t x,ty,pos,aft,none⟩::rest) env box done K:=
 run_put (ws:=[]) (fresh:=[]) (loc_un rfl hd hx.opd hr) rfl h
theorem r_ext {x:Operand} {ix:Nat} {l:List D} {r:D}  (hx:Op1 env x (.tup l)) (ha:At l ix r) (hd:Nat.blt d (fsz N)=true) (h:RunK P N ops rest ((d,r)::env) box (done++[⟨[],some d,r,[],[]⟩]) K):RunK P N ops (⟨some d,.extract x ix,ty,pos,aft,none⟩::rest) env box done K:=
 run_put (ws:=[]) (fresh:=[]) (ha.spec.2▸loc_extract rfl hd hx.opd (blt_of ha.spec.1)) rfl h
theorem r_and {c x:Operand} {b b':Bool}  (hc:Op1 env c (.val (.bool b))) (hx:Op1 env x (when (b == true) (.val (.bool b')))) (hd:Nat.blt d (fsz N)=true) (h:RunK P N ops rest ((d,.val (.bool (b && b')))::env) box (done++[⟨[],some d,.val (.bool (b && b')),[],[]⟩]) K):RunK P N ops (⟨some d,.pick c x (.const (.bool false)),ty,pos,aft,none⟩::rest) env box done K:=
 run_put (ws:=[]) (fresh:=[]) (loc_and rfl hd hc.opd hx.opd) rfl h
theorem r_or {c x:Operand} {b b':Bool}  (hc:Op1 env c (.val (.bool b))) (hx:Op1 env x (when (b == false) (.val (.bool b')))) (hd:Nat.blt d (fsz N)=true) (h:RunK P N ops rest ((d,.val (.bool (b || b')))::env) box (done++[⟨[],some d,.val (.bool (b || b')),[],[]⟩]) K):RunK P N ops (⟨some d,.pick c (.const (.bool true)) x,ty,pos,aft,none⟩::rest) env box done K:=
 run_put (ws:=[]) (fresh:=[]) (loc_or rfl hd hc.opd hx.opd) rfl h
theorem r_fun {fn:FuncId} {xs:List Operand} {l:List D}  (hx:Op1L env xs l) (hd:Nat.blt d (fsz N)=true) (h:RunK P N ops rest ((d,.clo fn l)::env) box (done++[⟨[],some d,.clo fn l,[],[]⟩]) K):RunK P N ops (⟨some d,.makeFunc (.func fn) #[] xs.toArray,ty,pos,aft,none⟩::rest) env box done K:=
 run_put (ws:=[]) (fresh:=[]) (loc_makeFunc rfl hd hx.opd) rfl h
theorem r_slf {x:Operand} {t el:TypeId} {lo hi:Option Operand} {l u n m:Nat} {q:Bool} {f:Nat→List D} {info info':TypeInfo} {d':TypeDesc} [hT:TI P t info (.slice el)] [hT':TI P el info' d'] (hx:Op1 env x (.fz q n m f)) (hlo:Op1O env lo l 0) (hhi:Op1O env hi u n) (hm:m=info'.size) (h1:l≤u) (h2:u≤n) (hd:Nat.blt d (fsz N)=true) (h:RunK P N ops rest ((d,.fz q (u - l) m (fun e=>f (l+e)))::env) box (done++[⟨[],some d,.fz q (u - l) m (fun e=>f (l+e)),[],[]⟩]) K):RunK P N ops (⟨some d,.slice t x lo hi none,ty,pos,aft,none⟩::rest) env box done K:=
 run_put (ws:=[]) (fresh:=[]) (loc_slice_fz rfl hd hx.opd hlo.opt hhi.opt hm h1 h2) rfl h
theorem r_max {x y:Operand} {ts:Array TypeId} {k k':IntKind} {p q:Int}  (hx:Op1 env x (.val (.int k p))) (hy:Op1 env y (.val (.int k' q))) (hd:Nat.blt d (fsz N)=true) (h:RunK P N ops rest ((d,.val (.int k (max p q)))::env) box (done++[⟨[],some d,.val (.int k (max p q)),[],[]⟩]) K):RunK P N ops (⟨some d,.call { callee:=.builtin .max,args:=#[x,y],argTypes:=ts },ty,pos,aft,none⟩::rest) env box done K:=
 run_put (ws:=[]) (fresh:=[]) (loc_maxmin (.inl rfl) rfl hd hx.opd hy.opd) rfl h
theorem r_min {x y:Operand} {ts:Array TypeId} {k k':IntKind} {p q:Int}  (hx:Op1 env x (.val (.int k p))) (hy:Op1 env y (.val (.int k' q))) (hd:Nat.blt d (fsz N)=true) (h:RunK P N ops rest ((d,.val (.int k (min p q)))::env) box (done++[⟨[],some d,.val (.int k (min p q)),[],[]⟩]) K):RunK P N ops (⟨some d,.call { callee:=.builtin .min,args:=#[x,y],argTypes:=ts },ty,pos,aft,none⟩::rest) env box done K:=
 run_put (ws:=[]) (fresh:=[]) (loc_maxmin (.inr rfl) rfl hd hx.opd hy.opd) rfl h
theorem r_alloc {t:TypeId} {zs:List Value} [hz:ZR P t zs] (hd:Nat.blt d (fsz N)=true) (h:RunK P N ops rest ((d,.eptr (1000+d) 0 0 0)::env) ((1000+d,some (.lit t (valL zs)))::box) (done++[⟨[],some d,.eptr (1000+d) 0 0 0,[(1000+d,some (.lit t (valL zs)))],[1000+d]⟩]) K):RunK P N ops (⟨some d,.alloc t,ty,pos,aft,none⟩::rest) env box done K:=
 run_put (ws:=[(1000+d,some (.lit t (valL zs)))]) (fresh:=[1000+d]) (loc_alloc rfl hd hz.zr) rfl h
theorem r_box {x:Operand} {t:TypeId} {v:D} {l:List D}  (hx:Op1 env x v) (hf:v.fit=true) (hl:v.cellL=l) (hd:Nat.blt d (fsz N)=true) (h:RunK P N ops rest ((d,.eptr (1000+d) 0 0 0)::env) ((1000+d,some (.lit t l))::box) (done++[⟨[],some d,.eptr (1000+d) 0 0 0,[(1000+d,some (.lit t l))],[1000+d]⟩]) K):RunK P N ops (⟨some d,.box t x,ty,pos,aft,none⟩::rest) env box done K:=
 run_put (ws:=[(1000+d,some (.lit t l))]) (fresh:=[1000+d]) (hl▸loc_box rfl hd hx.opd hf) rfl h
theorem r_mks {x y:Operand} {t el:TypeId} {n:Nat} {kl kc:IntKind} {z1 z2:Int} {info info':TypeInfo} {d':TypeDesc} {zv:Value} {zs:List D} [hT:TI P t info (.slice el)] [hT':TI P el info' d'] (hx:Op1 env x (.val (.int kl z1))) (hy:Op1 env y (.val (.int kc z2))) (hn1:NatIs z1 n) (hn2:NatIs z2 n) (hz:info'.zero=some zv) (hm:zv.cells.size=info'.size) (h1:(zv.cells.toList.all fun z=>z.oneCell')=true) (hms:Nat.blt 0 info'.size=true) (hby:Nat.ble info'.bytes 256=true) (hb:n≤549755813888) (h63:n≤9223372036854775807) (hzs:valL zv.cells.toList=zs) (hd:Nat.blt d (fsz N)=true) (h:RunK P N ops rest ((d,.sl (1000+d) info'.size n)::env) ((1000+d,some (.arr el n info'.size fun _=>zs))::box) (done++[⟨[],some d,.sl (1000+d) info'.size n,[(1000+d,some (.arr el n info'.size fun _=>zs))],[1000+d]⟩]) K):RunK P N ops (⟨some d,.makeSlice t x y,ty,pos,aft,none⟩::rest) env box done K:=
 run_put (ws:=[(1000+d,some (.arr el n info'.size fun _=>zs))]) (fresh:=[1000+d]) (hzs▸loc_makeSlice rfl hd hz hm h1 hms hx.opd hy.opd hn1 hn2 (Nat.le_trans (bytes_le hby hb) (by decide)) h63) rfl h
theorem r_st {x y:Operand} {t t':TypeId} {k m e c n:Nat} {ds ds' l:List D} {v:D} [hS:SZ P t n] (hx:Op1 env x (.eptr k m e c)) (hy:Op1 env y v) (he:e*m=0) (hb:Bl box k (.lit t' ds)) (hf:v.fit=true) (hl:v.cellL=l) (hn:l.length=n) (hp:PutL ds c l ds') (h:RunK P N ops rest env ((k,some (.lit t' ds'))::box) (done++[⟨[k],none,.any,[(k,some (.lit t' ds'))],[]⟩]) K):RunK P N ops (⟨none,.store t x y,ty,pos,aft,none⟩::rest) env box done K:=
 run_eff (ws:=[(k,some (.lit t' ds'))]) (hp.set.1▸hl▸loc_store rfl rfl hx.opd he hy.opd hf hS.sz (hl▸hn) hb.eq (ble_of (hl▸hp.set.2))) rfl h
theorem r_sta {x y:Operand} {t t':TypeId} {k m e c n n':Nat} {f:Nat→List D} {l:List D} {v:D} [hS:SZ P t n] (hx:Op1 env x (.eptr k m e c)) (hy:Op1 env y v) (hb:Bl box k (.arr t' n' m f)) (hf:v.fit=true) (hl:v.cellL=l) (hn:l.length=n) (hc:Nat.ble (c+n) m=true) (hp:v.free (fun _=>false)=true) (he:e<n') (h:RunK P N ops rest env ((k,some (.arr t' n' m (setE f e c l)))::box) (done++[⟨[k],none,.any,[(k,some (.arr t' n' m (setE f e c l)))],[]⟩]) K):RunK P N ops (⟨none,.store t x y,ty,pos,aft,none⟩::rest) env box done K:=
 run_eff (ws:=[(k,some (.arr t' n' m (setE f e c l)))]) (hl▸loc_store_arr rfl rfl hx.opd hy.opd hf hp hS.sz (hl▸hn) hb.eq (by rw [hl,hn];exact hc) he) rfl h
theorem r_ldm {x:Operand} {t:TypeId} {i:TypeInfo} {dsc:TypeDesc} {k nb n m2 n2 e:Nat} {t1 t2:TypeId} {g:Nat→Nat→List D} [hT:TI P t i dsc] (hx:Op1 env x (.eptr k 1 e 0)) (hb:Bl box k (.mat t1 t2 nb n m2 n2 g)) (hg:isAggD dsc=false) (he:e<n) (hd:Nat.blt d (fsz N)=true) (h:RunK P N ops rest ((d,.slr k e m2 n2)::env) box (done++[⟨[k],some d,.slr k e m2 n2,[],[]⟩]) K):RunK P N ops (⟨some d,.load t x,ty,pos,aft,none⟩::rest) env box done K:=
 run_put (ws:=[]) (fresh:=[]) (loc_load_mat rfl hd (ld_one hg) hx.opd hb.eq he) rfl h
theorem r_ixr {x y:Operand} {t:TypeId} {k m len e u:Nat} {kd:IntKind} {z:Int} [hF:ET P t m] (hx:Op1 env x (.slr k e m len)) (hy:Op1 env y (.val (.int kd z))) (hz:IdxIs z len u) (hd:Nat.blt d (fsz N)=true) (h:RunK P N ops rest ((d,.eptrr k e m u 0)::env) box (done++[⟨[],some d,.eptrr k e m u 0,[],[]⟩]) K):RunK P N ops (⟨some d,.indexAddr t x y,ty,pos,aft,none⟩::rest) env box done K:=
 run_put (ws:=[]) (fresh:=[]) (loc_index_row rfl hd hF.et hx.opd hy.opd hz) rfl h
theorem r_ldr {x:Operand} {t:TypeId} {u c:Nat} {r:D} {i:TypeInfo} {dsc:TypeDesc} {k nb n m2 n2 e:Nat} {t1 t2:TypeId} {g:Nat→Nat→List D} [hT:TI P t i dsc] (hx:Op1 env x (.eptrr k e m2 u c)) (hb:Bl box k (.mat t1 t2 nb n m2 n2 g)) (ha:At (g e u) c r) (hg:isAggD dsc=false) (hc:Nat.ble (c+1) m2=true) (he:e<n) (hu:u<n2) (hd:Nat.blt d (fsz N)=true) (h:RunK P N ops rest ((d,r)::env) box (done++[⟨[k],some d,r,[],[]⟩]) K):RunK P N ops (⟨some d,.load t x,ty,pos,aft,none⟩::rest) env box done K:=
 run_put (ws:=[]) (fresh:=[]) (ldD_at ha▸loc_load_row rfl hd (ld_one hg) hx.opd hb.eq he hu hc) rfl h
theorem r_str {x y:Operand} {t:TypeId} {u c n':Nat} {l:List D} {v:D} {k nb n m2 n2 e:Nat} {t1 t2:TypeId} {g:Nat→Nat→List D} [hS:SZ P t n'] (hx:Op1 env x (.eptrr k e m2 u c)) (hy:Op1 env y v) (hb:Bl box k (.mat t1 t2 nb n m2 n2 g)) (hf:v.fit=true) (hl:v.cellL=l) (hn:l.length=n') (hc:Nat.ble (c+n') m2=true) (hp:v.free (fun _=>false)=true) (he:e<n) (hu:u<n2) (h:RunK P N ops rest env ((k,some (.mat t1 t2 nb n m2 n2 (setG g e (setE (g e) u c l))))::box) (done++[⟨[k],none,.any,[(k,some (.mat t1 t2 nb n m2 n2 (setG g e (setE (g e) u c l))))],[]⟩]) K):RunK P N ops (⟨none,.store t x y,ty,pos,aft,none⟩::rest) env box done K:=
 run_eff (ws:=[(k,some (.mat t1 t2 nb n m2 n2 (setG g e (setE (g e) u c l))))]) (hl▸loc_store_row rfl rfl hx.opd hy.opd hf hp hS.sz (hl▸hn) hb.eq (by rw [hl,hn];exact hc) he hu) rfl h
theorem r_stm {x y:Operand} {t t1 t2:TypeId} {k kr nb n n' m2 n2:Nat} {g:Nat→Nat→List D} {f:Nat→List D} [hS:SZ P t 1] (hx:Op1 env x (.eptr k 1 n 0)) (hy:Op1 env y (.sl kr m2 n2)) (hb:Bl box k (.mat t1 t2 nb n m2 n2 g)) (hr:Bl box kr (.arr t2 n' m2 f)) (hn:n<nb) (hn':n2≤n') (h0:0<n2) (h1k:Nat.ble 1000 k=true) (h1r:Nat.ble 1000 kr=true) (h:RunK P N ops rest env ((k,some (.mat t1 t2 nb (n+1) m2 n2 (putG n g f)))::(kr,some .gone)::box) (done++[⟨[k,kr],none,.any,[(k,some (.mat t1 t2 nb (n+1) m2 n2 (putG n g f))),(kr,some .gone)],[]⟩]) K):RunK P N ops (⟨none,.store t x y,ty,pos,aft,none⟩::rest) env box done K:=
 run_eff (ws:=[(k,some (.mat t1 t2 nb (n+1) m2 n2 (putG n g f))),(kr,some .gone)]) (loc_store_mat rfl rfl hx.opd hy.opd hS.sz hb.eq hr.eq hn hn' h0 h1k h1r) rfl h
end
end Go.Proofs.YtdcenblblimkfaaGreat
