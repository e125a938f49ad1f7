/- Rows of rows: rows come in by append; all is frozen, or lent. No walk. -/
import Derived.Test.YtmjildbdkecolaaPst20
set_option linter.unusedSimpArgs false
set_option linter.unusedVariables false
set_option linter.unnecessarySimpa false
namespace Go.Proofs.Ytmjildbdkecolaa
open Go.RowKit

section
variable {lend : Bool} {L ns : List Nat} {P : Program} {N : Nat} {o : Oper} {E E1 : Nat → D} {H H1 : Nat → Option Box} {S : Cx} {Z : Zn} {i : Nm} {a : Act} {w w' : World}
theorem blt_self (e : Nat) : Nat.blt e e = false := by
 cases hb : Nat.blt e e
 ·rfl
 ·exact absurd (by rw [Nat.blt_eq] at hb; exact hb) (Nat.lt_irrefl e)
theorem Fits.appRow (hF : Fits S E H Z i a w) {k : Option Nat} {k' kr ky : Nat} {el t2 : TypeId} {n m2 n2 nr : Nat} {g : Nat → Nat → List D} {f : Nat → List D} {v v' : Value} {xs : List Value} {br : Nat} {cr : Cp} {By : Box}
  (hk' : H k' = none) (h100 : 1000 ≤ k') (hk : ∀ x, k = some x → 1000 ≤ x ∧ ∃ B, H x = some B)
  (hv : (n = 0 ∧ v.ownBlock = none) ∨ ∃ x t nb cp r, k = some x ∧ H x = some (.mat t t2 nb n m2 n2 g) ∧ i x = some (some (r, cp)) ∧ v.ownBlock = some r ∧ ∀ cs T, Bk w r T cs → ∀ e, e < n → xs[e]? = some (cs.getD e undef)) (hxl : xs.length = n)
  (hkr : H kr = some (.arr t2 nr m2 f)) (hir : i kr = some (some (br, cr))) (hn2 : n2 ≤ nr) (hr100 : 1000 ≤ kr) (hc63 : cr.c ≤ 9223372036854775807) (hky : H ky = some By) (hy100 : 1000 ≤ ky)
  (hos : w'.os = w.os ∧ w'.tape = w.tape ∧ w'.output = w.output ∧ w.heap.size ≤ w'.heap.size) (hb : ∀ b, b < w.heap.size → some b ≠ v.ownBlock → w'.heap[b]? = w.heap[b]?) (hvb : v'.ownBlock = v.ownBlock ∨ v'.ownBlock = some w.heap.size)
  (hown : w'.ownsRow 0 el 1 v' (n + 1) (xs ++ [.slice (some ⟨br, 0, none⟩) n2 cr.c])) :
  ∃ i', Fits S E (updH H ((k', some (.mat el t2 (n + 1) (n + 1) m2 n2 (putG n g f))) :: (kr, some .gone) :: (ky, some .gone) :: goneL k)) Z i' a w' ∧ Rep Z w' i' v' (.sl k' 1 (n + 1)) := by
 rcases hown.2 with ⟨_, h0⟩ | ⟨b, cap, cur, rfl, _, hB, hnc, hml, hcs, htk⟩
 ·omega
 have hvo : (Value.slice (some ⟨b, 0, none⟩) (n + 1) cap).ownBlock = some b := rfl
 rw [hvo] at hvb
 have hfr : Foot (.arr t2 nr m2 f) (i kr) br := .root hir
 have hrf := hF.foot kr _ br hkr rfl hfr
 -- the old rows
 obtain ⟨ro, hro⟩ : ∃ ro : Nat → Option (Nat × Nat), (∀ e, e < n → ∃ b2 c2, ro e = some (b2, c2) ∧ some b2 ≠ v.ownBlock ∧ xs[e]? = some (.slice (some ⟨b2, 0, none⟩) n2 c2) ∧ c2 ≤ 9223372036854775807 ∧ ArrAt Z w b2 c2 t2 n2 m2 (g e) ∧ b2 < w.heap.size ∧ ∃ x B, k = some x ∧ H x = some B ∧ B.mut = true ∧ Foot B (i x) b2) ∧ ∀ e e' x c c', e < n → e' < n → ro e = some (x, c) → ro e' = some (x, c') → e = e' := by
  rcases hv with ⟨rfl, _⟩ | ⟨x, t, nb, cp, r, q1, q2, q3, q4, q5⟩
  ·exact ⟨noR, fun e he => by omega, fun e e' x c c' he => by omega⟩
  ·rcases hF.box x _ q2 with ⟨_, _, e1, e2, e3, e4, cs, hBr, hs, hnb, hn, hrw, hinj, htl⟩ | ⟨q, _⟩
   ·rw [q3] at e1; cases e1
    refine ⟨cp.r, fun e he => ?_, hinj⟩
    obtain ⟨b2, c2, p1, p2, p3, p4, p5⟩ := hrw e he
    have hft : Foot (.mat t t2 nb n m2 n2 g) (i x) b2 := ⟨r, cp, q3, .inr ⟨e, c2, he, p1⟩⟩
    exact ⟨b2, c2, p1, fun h => p2 (by rw [q4] at h; cases h; rfl), by rw [q5 cs _ hBr e he, p3], p4, p5, (hF.foot x _ b2 q2 rfl hft).1, x, _, q1, q2, rfl, hft⟩
   ·rw [q3] at q; cases q
 -- the new root
 have horg : (∃ x B, k = some x ∧ H x = some B ∧ B.mut = true ∧ Foot B (i x) b ∧ v.ownBlock = some b) ∨ (w.heap.size ≤ b ∧ b < w'.heap.size) := by
  rcases hvb with q | q
  ·rcases hv with ⟨_, h⟩ | ⟨x, t, nb, cp, r, q1, q2, q3, q4, _⟩
   ·rw [h] at q; cases q
   ·rw [q4] at q; cases q
    exact .inl ⟨x, _, q1, q2, rfl, .root q3, q4⟩
  ·cases q; exact .inr ⟨Nat.le_refl _, (show Bk w' w.heap.size el cur from hB).lt⟩
 have hkx : ∀ x, k = some x → x ≠ k' := fun x hx e => by obtain ⟨_, B, h⟩ := hk x hx; rw [e, hk'] at h; cases h
 have hkrx : ∀ x, k = some x → (∃ B, H x = some B ∧ B.mut = true ∧ Foot B (i x) br) → x = kr := fun x hx ⟨B, h1, h2, h3⟩ => hF.inj x kr B _ br h1 hkr h2 rfl h3 hfr
 have hbr : br ≠ b := fun e => by
  rcases horg with ⟨x, B, q1, q2, q3, q4, q5⟩ | ⟨q, _⟩
  ·have hx : x = kr := hkrx x q1 ⟨B, q2, q3, e ▸ q4⟩
   rcases hv with ⟨_, h⟩ | ⟨x', t, nb, cp, r, p1, p2, _⟩
   ·rw [h] at q5; cases q5
   ·rw [q1] at p1; cases p1
    rw [hx, hkr] at p2; cases p2
  ·have := hrf.1; omega
 have hbrv : some br ≠ v.ownBlock := fun e => by
  rcases hv with ⟨_, h⟩ | ⟨x', t, nb, cp, r, p1, p2, p3, p4, _⟩
  ·rw [h] at e; cases e
  ·rw [p4] at e; cases e
   have := hF.inj x' kr _ _ br p2 hkr rfl rfl (.root p3) hfr
   rw [this, hkr] at p2; cases p2
 obtain ⟨cp', hcp⟩ : ∃ cp' : Cp, (⟨cap, fun e => match Nat.blt e n with | true => ro e | false => match Nat.beq e n with | true => some (br, cr.c) | false => none⟩ : Cp) = cp' := ⟨_, rfl⟩
 have hcc : cp'.c = cap := by rw [← hcp]
 have hcr1 : ∀ e, e < n → cp'.r e = ro e := fun e he => by rw [← hcp]; show (match Nat.blt e n with | true => _ | false => _) = _; rw [show Nat.blt e n = true by simpa using he]
 have hcr2 : cp'.r n = some (br, cr.c) := by rw [← hcp]; show (match Nat.blt n n with | true => _ | false => _) = _; rw [blt_self]; simp
 have hcr3 : ∀ e, n < e → cp'.r e = none := fun e he => by
  rw [← hcp]
  show (match Nat.blt e n with | true => _ | false => match Nat.beq e n with | true => some (br, cr.c) | false => none) = _
  rw [show Nat.blt e n = false by cases hb : Nat.blt e n; rfl; rw [Nat.blt_eq] at hb; omega]
  simp only []
  rw [beq_ne (by omega)]
 obtain ⟨i', hi'⟩ : ∃ i' : Nm, (fun x => if x = k' then some (some (b, cp')) else i x) = i' := ⟨_, rfl⟩
 have hik : i' k' = some (some (b, cp')) := by rw [← hi']; exact if_pos rfl
 have hio : ∀ x, x ≠ k' → i' x = i x := fun x hx => by rw [← hi']; exact if_neg hx
 have hcur : ∀ e, e < n + 1 → cur.getD e undef = ((xs ++ [Value.slice (some ⟨br, 0, none⟩) n2 cr.c])[e]?).getD undef := fun e he => by
  rw [← htk, List.getElem?_take, if_pos (by omega), Array.getElem?_toList, Array.getD_eq_getD_getElem?]
 have hZo : ∀ o x, Z o x → w'.heap[x]? = w.heap[x]? := fun o x hx => by
  have hxt : Z true x := by cases o; exact hF.zsub x hx; exact hx
  refine hb x (hF.zOld x hxt).1 (fun e => ?_)
  rcases hv with ⟨_, h⟩ | ⟨x', t, nb, cp, r, p1, p2, p3, p4, _⟩
  ·rw [h] at e; cases e
  ·rw [p4] at e; cases e
   exact (hF.foot x' _ x p2 rfl (.root p3)).2.2.1 hxt
 have hmat : MatAt Z w' b cp' el t2 (n + 1) (n + 1) m2 n2 (putG n g f) := by
  refine ⟨cur, hB, by rw [hcc]; omega, by rw [hcc]; exact hnc, Nat.le_refl _, fun e he => ?_, fun e e' x c c' he he' hx hx' => ?_, fun e he => hcr3 e (by omega)⟩
  ·rw [hcur e he]
   unfold putG
   by_cases q : e = n
   ·subst q
    rw [blt_self, List.getElem?_append_right (by omega), hxl, Nat.sub_self]
    refine ⟨br, cr.c, hcr2, hbr, rfl, hc63, ?_⟩
    rcases hF.box kr _ hkr with ⟨_, _, e1, _, _, _, hA⟩ | ⟨e1, _⟩
    ·rw [hir] at e1; cases e1
     have hA' : ArrAt Z w br cr.c t2 nr m2 f := hA
     exact ArrAt.less (ArrAt.mem hA' (hb br hrf.1 hbrv) (fun o x hx => ⟨hx, hZo o x hx⟩)) hn2
    ·rw [hir] at e1; cases e1
   ·have he' : e < n := by omega
    rw [show Nat.blt e n = true by simpa using he', List.getElem?_append_left (by omega)]
    obtain ⟨b2, c2, p1, p2, p3, p4, p5, p6, _⟩ := hro.1 e he'
    refine ⟨b2, c2, by rw [hcr1 e he']; exact p1, fun q2 => ?_, by rw [p3]; rfl, p4, ArrAt.mem p5 (hb b2 p6 p2) (fun o x hx => ⟨hx, hZo o x hx⟩)⟩
    rcases horg with ⟨x, B, _, _, _, _, q5⟩ | ⟨q5, _⟩
    ·exact p2 (by rw [q2, q5])
    ·omega
  ·have cross : ∀ e c, e < n → ro e = some (br, c) → False := fun e c he hx => by
    obtain ⟨b2, c2, p1, _, _, _, _, _, x, B, q1, q2, q3, q4⟩ := hro.1 e he
    rw [hx] at p1; cases p1
    have := hkrx x q1 ⟨B, q2, q3, q4⟩
    rcases hv with ⟨h, _⟩ | ⟨x', t, nb, cp, r, p1, p2, _⟩
    ·omega
    ·rw [q1] at p1; cases p1
     rw [this, hkr] at p2; cases p2
   by_cases q : e = n <;> by_cases q' : e' = n
   ·omega
   ·rw [q, hcr2] at hx; cases hx
    rw [hcr1 e' (by omega)] at hx'
    exact (cross e' _ (by omega) hx').elim
   ·rw [q', hcr2] at hx'; cases hx'
    rw [hcr1 e (by omega)] at hx
    exact (cross e _ (by omega) hx).elim
   ·rw [hcr1 e (by omega)] at hx
    rw [hcr1 e' (by omega)] at hx'
    exact hro.2 e e' x c c' (by omega) (by omega) hx hx'
 obtain ⟨H2, hH2⟩ : ∃ H2, updH H ((k', some (.mat el t2 (n + 1) (n + 1) m2 n2 (putG n g f))) :: (kr, some .gone) :: (ky, some .gone) :: goneL k) = H2 := ⟨_, rfl⟩
 have hHk : H2 k' = some (.mat el t2 (n + 1) (n + 1) m2 n2 (putG n g f)) := by rw [← hH2]; simp [updH]
 have hHg : ∀ x, x ≠ k' → (x = kr ∨ x = ky ∨ k = some x) → H2 x = some .gone := fun x h1 h2 => by
  rw [← hH2]; simp only [updH]; rw [if_neg (Ne.symm h1)]
  by_cases q1 : kr = x
  ·rw [if_pos q1]
  ·rw [if_neg q1]
   by_cases q2 : ky = x
   ·rw [if_pos q2]
   ·rw [if_neg q2]
    rcases h2 with h2 | h2 | h2
    ·exact absurd h2.symm q1
    ·exact absurd h2.symm q2
    ·rw [h2]; simp [goneL, updH]
 have hHo : ∀ x, x ≠ k' → ¬ (x = kr ∨ x = ky ∨ k = some x) → H2 x = H x := fun x h1 h2 => by
  rw [← hH2]; simp only [updH]; rw [if_neg (Ne.symm h1), if_neg (fun q => h2 (.inl q.symm)), if_neg (fun q => h2 (.inr (.inl q.symm)))]
  cases k with
  | none => rfl
  | some y => simp only [updH, goneL]; exact if_neg (fun e => h2 (.inr (.inr (by rw [e]))))
 have halive : ∀ x, (x = kr ∨ x = ky ∨ k = some x) → 1000 ≤ x ∧ x ≠ k' ∧ ∃ B, H x = some B := fun x hx => by
  rcases hx with rfl | rfl | hx
  ·exact ⟨hr100, fun e => (by rw [e, hk'] at hkr; cases hkr), _, hkr⟩
  ·exact ⟨hy100, fun e => (by rw [e, hk'] at hky; cases hky), _, hky⟩
  ·exact ⟨(hk x hx).1, hkx x hx, (hk x hx).2⟩
 rw [hH2]
 refine ⟨i', ?_, by rw [← hcc]; exact .sl _ _ _ _ _ hik (by rw [hcc]; exact hnc) (by rw [hcc]; unfold maxLen at hml; omega)⟩
 refine hF.step (fun x => x = k' ∨ (x = kr ∨ x = ky ∨ k = some x)) hos (fun z hz hn => hb z hz (fun e => ?_)) (fun x hx => hio x (fun e => hx (e ▸ hk'))) (fun x hx => hHo x (fun e => hx (.inl e)) (fun e => hx (.inr e))) (fun x hx e => ?_) (fun x hx e => ?_) (fun x hx e => ?_) (fun o b hb => hb) (fun b hb => .inl hb) (fun b hb => ⟨hF.zsub b hb, hF.zNew b hb⟩) (fun x B hx hB' => ?_) (fun x B z hx hB' hm hf => ?_) (fun x x' B B' z hx hx' hB1 hB2 m1 m2 _ _ => ?_)
 ·rcases hv with ⟨_, h⟩ | ⟨x', t, nb, cp, r, p1, p2, p3, p4, _⟩
  ·rw [h] at e; cases e
  ·rw [p4] at e; cases e
   exact hn x' _ (.inr (.inr (.inr p1))) p2 rfl (.root p3)
 ·by_cases q : x = k'
  ·rw [q, hHk] at e; cases e
  ·rw [hHg x q (hx.resolve_left q)] at e; cases e
 ·rw [hio x (fun e => hx (.inl e))]; exact hF.nil x e
 ·rw [hio x (by omega)]; exact hF.nil x e
 ·by_cases q : x = k'
  ·subst q
   rw [hHk] at hB'; cases hB'
   refine .inl ⟨b, cp', hik, ?_, fun _ => ?_, fun h => (by cases h), hmat⟩
   ·rcases horg with ⟨y, B, q1, q2, q3, q4, _⟩ | ⟨q1, _⟩
    ·rcases (hF.foot y B b q2 q3 q4).2.1 with q5 | ⟨q5, _⟩
     ·exact .inl q5
     ·have := (hk y q1).1; omega
    ·have := hF.kept.size; exact .inl (by omega)
   ·rcases horg with ⟨y, B, q1, q2, q3, q4, _⟩ | ⟨q1, _⟩
    ·exact (hF.foot y B b q2 q3 q4).2.2
    ·exact ⟨fun hz => by have := (hF.zOld b hz).1; omega, by have := hF.kept1.size; exact .inl (by omega)⟩
  ·have hx' := hx.resolve_left q
   rw [hHg x q hx'] at hB'; cases hB'
   obtain ⟨_, _, B0, g1⟩ := halive x hx'
   rcases hF.box x B0 g1 with ⟨z, c, e1, e2, _, _, e5⟩ | ⟨e1, _⟩
   ·exact .inl ⟨z, c, (hio x q).trans e1, e2, fun h => (by cases h), fun h => (by cases h), Nat.lt_of_lt_of_le e5.lt hos.2.2.2⟩
   ·exact .inr ⟨(hio x q).trans e1, .inl rfl⟩
 ·by_cases q : x = k'
  ·subst q
   rw [hHk] at hB'; cases hB'
   rw [hik] at hf
   obtain ⟨r', cp2, e5, e6⟩ := hf
   cases e5
   rcases e6 with rfl | ⟨e, c, e7, e8⟩
   ·rcases horg with ⟨y, B, q1, q2, q3, q4, _⟩ | q1
    ·exact .inr ⟨y, B, .inr (.inr (.inr q1)), fun h => absurd h (by have := (hk y q1).1; omega), q2, q3, q4⟩
    ·exact .inl q1
   ·have e7' : e < n + 1 := e7
    by_cases q : e = n
    ·rw [q, hcr2] at e8; cases e8
     exact .inr ⟨kr, _, .inr (.inl rfl), fun h => absurd h (by omega), hkr, rfl, hfr⟩
    ·rw [hcr1 e (by omega)] at e8
     obtain ⟨b2, c2, p1, _, _, _, _, _, y, B, q1, q2, q3, q4⟩ := hro.1 e (by omega)
     rw [e8] at p1; cases p1
     exact .inr ⟨y, B, .inr (.inr (.inr q1)), fun h => absurd h (by have := (hk y q1).1; omega), q2, q3, q4⟩
  ·rw [hHg x q (hx.resolve_left q)] at hB'; cases hB'; cases hm
 ·by_cases q : x = k' <;> by_cases q' : x' = k'
  ·rw [q, q']
  ·rw [hHg x' q' (hx'.resolve_left q')] at hB2; cases hB2; cases m2
  ·rw [hHg x q (hx.resolve_left q)] at hB1; cases hB1; cases m1
  ·rw [hHg x q (hx.resolve_left q)] at hB1; cases hB1; cases m1
/-- append of one row to a slice of rows. -/
theorem loc_append_row {t el t2 ty : TypeId} {x y : Operand} {k k' kr ky n nb m2 n2 nr : Nat} {g : Nat → Nat → List D} {f : Nat → List D} {info info' : TypeInfo} {d' : TypeDesc} {z : Value} (ho : o.op = .call { callee := .builtin .append, args := #[x, y], argTypes := #[t, t] }) (hd : dstLt o N = true) [hT : TI P t info (.slice el)] [hT' : TI P el info' d'] (hz : info'.zero = some z) (hm : info'.size = 1) (hzs : z.cells.size = 1)
  (hx : Opd E x (.sl k 1 n)) (hk : H k = some (.mat el t2 nb n m2 n2 g)) (h100 : Nat.ble 1000 k = true) (hy : Opd E y (.sl ky 1 1)) (hky : H ky = some (.lit ty [.sl kr m2 n2])) (hy100 : Nat.ble 1000 ky = true) (hkr : H kr = some (.arr t2 nr m2 f)) (hr100 : Nat.ble 1000 kr = true) (hn2 : n2 ≤ nr) (h0 : 0 < n2) (hb : (n + 1) * info'.bytes ≤ 140737488355328) (h63 : n + 1 ≤ 9223372036854775807) :
  Loc P N o E H ⟨[k, ky, kr], o.dst, .sl k' 1 (n + 1), [(k', some (.mat el t2 (n + 1) (n + 1) m2 n2 (putG n g f))), (kr, some .gone), (ky, some .gone), (k, some .gone)], [k']⟩ := by
 refine ⟨rfl, by simp [ho], fun E1 H1 h1 h2 h3 S a w hN hR K Q hK => ?_⟩
 obtain ⟨Z, i, hF⟩ := hR
 have e1 := hF.opd (Opd.agree (x := x) (by simp [ho, Op.operands, Call.operands]) h1 hx)
 have e2 := hF.opd (Opd.agree (x := y) (by simp [ho, Op.operands, Call.operands]) h1 hy)
 have hk1 := (h2 k (by simp)).trans hk
 have hk2 := (h2 ky (by simp)).trans hky
 have hk3 := (h2 kr (by simp)).trans hkr
 -- the row
 have hrow : ∃ by_ capy br cr, a.eval y = .slice (some ⟨by_, 0, none⟩) 1 capy ∧ i kr = some (some (br, cr)) ∧ n2 ≤ cr.c ∧ cr.c ≤ 9223372036854775807 ∧ w.cell? ⟨by_, 0, none⟩ = some (.slice (some ⟨br, 0, none⟩) n2 cr.c) := by
  generalize hu : a.eval y = u at e2
  cases e2 with
  | @sl _ b _ _ _ cap hib q1 q2 =>
   rcases hF.box ky _ hk2 with ⟨_, _, f1, _, _, _, cs, hB, hs, hall⟩ | ⟨f1, _⟩
   ·rw [hib] at f1; cases f1
    have hc0 := (hall 0 (by simp)).2
    generalize hq : cs.getD 0 undef = u0 at hc0
    have hc0' : Rep Z w i u0 (.sl kr m2 n2) := hc0
    cases hc0' with
    | @sl _ br _ _ _ cr hir p1 p2 => exact ⟨b, cap.c, br, cr, rfl, hir, p1, p2, by rw [hB.cell 0 (by rw [hs]; simp), hq]⟩
    | sl0 => omega
   ·rw [hib] at f1; cases f1
 obtain ⟨by_, capy, br, cr, y1, hir, y2, y3, y4⟩ := hrow
 -- the slice that is appended to
 have hown : ∃ v xs, a.eval x = v ∧ w.ownsRow 0 el 1 v n xs ∧ xs.length = n ∧ ((n = 0 ∧ v.ownBlock = none) ∨ ∃ x t nb cp r, some k = some x ∧ H1 x = some (.mat t t2 nb n m2 n2 g) ∧ i x = some (some (r, cp)) ∧ v.ownBlock = some r ∧ ∀ cs T, Bk w r T cs → ∀ e, e < n → xs[e]? = some (cs.getD e undef)) := by
  generalize hv : a.eval x = v at e1
  cases e1 with
  | @sl _ b _ _ _ cap hib q1 q2 =>
   rcases hF.box k _ hk1 with ⟨_, _, f1, _, _, _, cs, hB, hs, hnb, hnn, _⟩ | ⟨f1, _⟩
   ·rw [hib] at f1; cases f1
    refine ⟨_, cs.toList.take (n * 1), rfl, ⟨by simp; omega, .inr ⟨b, cap.c, cs, rfl, Nat.zero_le _, hB, q1, by unfold maxLen; omega, by rw [Nat.mul_one]; exact hs, rfl⟩⟩, by simp; omega, .inr ⟨k, _, _, cap, b, rfl, hk1, hib, rfl, fun cs' T hB' e he => ?_⟩⟩
    unfold Bk at hB hB'
    rw [hB] at hB'; cases hB'
    rw [List.getElem?_take, if_pos (by omega), Array.getElem?_toList, Array.getD_eq_getD_getElem?, Array.getElem?_eq_getElem (by omega)]; rfl
   ·rw [hib] at f1; cases f1
  | sl0 _ _ _ hib => exact ⟨_, [], rfl, World.ownsRow_nil w 0 el 1, rfl, .inl ⟨rfl, rfl⟩⟩
 obtain ⟨v, xs, hv, o1, o2, o3⟩ := hown
 obtain ⟨v', w', r1, r2, r3, r4, r5⟩ := append_core (P := P) (ty := o.type) (w := w) (t := t) (el := el) hz hm hzs (by omega) v n xs o1 (some ⟨by_, 0, none⟩) 1 capy (fun _ _ => .slice (some ⟨br, 0, none⟩) n2 cr.c) (.inr ⟨_, _, rfl⟩) (fun e c he hc => ⟨by_, 0, rfl, (by
  obtain rfl : e = 0 := by omega
  obtain rfl : c = 0 := by omega
  exact y4), rfl⟩) hb h63
 have hrun := run_appendOp (P := P) (a := a) (w := w) (w' := w') ho (by rw [hv, y1]; exact r1)
 have hrl : rowL 1 1 (fun _ _ => Value.slice (some ⟨br, 0, none⟩) n2 cr.c) = [Value.slice (some ⟨br, 0, none⟩) n2 cr.c] := rfl
 rw [hrl] at r4
 obtain ⟨i', hF2, hrep⟩ := hF.appRow (k := some k) (k' := k') (h3 k' (by simp)).1 (h3 k' (by simp)).2 (fun x hx => by cases hx; exact ⟨Nat.le_of_ble_eq_true h100, _, hk1⟩) o3 o2 hk3 hir hn2 (Nat.le_of_ble_eq_true hr100) y3 hk2 (Nat.le_of_ble_eq_true hy100) r2 r3 r5 r4
 unfold Oper.wp
 rw [hrun]
 exact hK _ _ ⟨Z, i', hF2.put (by rw [hN]; exact dstLt_spec hd) hrep⟩
/-- All of it is frozen. -/
theorem sub_freezeM {env : List (Nat × D)} {box : List (Nat × Option Box)} (k : Nat) {t t2 : TypeId} {nb n m2 n2 : Nat} {g : Nat → Nat → List D} (hb : hk box k = some (.mat t t2 nb n m2 n2 g)) (h100 : Nat.ble 1000 k = true) : Sub (lk env) (hk box) (lk env) (hk ((k, some (.ice t n 1 (fun e => [.fz false n2 m2 (g e)]))) :: box)) := fun S a w hR => by
 obtain ⟨Z, i, hF⟩ := hR
 replace h100 := Nat.le_of_ble_eq_true h100
 have hs : ∀ x, hk ((k, some (.ice t n 1 (fun e => [.fz false n2 m2 (g e)]))) :: box) x = if k = x then some (.ice t n 1 (fun e => [.fz false n2 m2 (g e)])) else hk box x := fun x => by
  simp only [hk]
  by_cases q : k = x
  ·subst q; simp
  ·rw [beq_ne q, if_neg q]
 have hft : ∀ b, Foot (.mat t t2 nb n m2 n2 g) (i k) b → b < w.heap.size ∧ S.w0.heap.size ≤ b := fun b hf => by
  have f := hF.foot k _ b hb rfl hf
  exact ⟨f.1, by rcases f.2.1 with q | ⟨q, _⟩; exact q; omega⟩
 refine ⟨fun o x => Z o x ∨ Foot (.mat t t2 nb n m2 n2 g) (i k) x, i, ?_⟩
 refine hF.step (fun x => x = k) ⟨rfl, rfl, rfl, Nat.le_refl _⟩ (fun _ _ _ => rfl) (fun _ _ => rfl) (fun x hx => by rw [hs]; exact if_neg (Ne.symm hx)) (fun x hx e => ?_) (fun x hx e => hF.nil x e) (fun x _ e => hF.nil x e) (fun o b hb => .inl hb) (fun x hx => ?_) (fun x hx => ?_) (fun x B hx hB => ?_) (fun x B b1 hx hB hm _ => by rw [hs, if_pos hx.symm] at hB; cases hB; cases hm) (fun x x' B B' b1 hx hx' _ _ _ _ _ _ => hx.trans hx'.symm)
 ·rw [hs, if_pos hx.symm] at e; cases e
 ·rcases hx with hx | hx
  ·exact .inl hx
  ·exact .inr ⟨(hft x hx).1, (hft x hx).2, .inr ⟨k, _, rfl, hb, rfl, hx⟩, fun y B hy hB hm _ => by rw [hs, if_pos hy.symm] at hB; cases hB; cases hm⟩
 ·rcases hx with hx | hx
  ·exact ⟨.inl (hF.zsub x hx), hF.zNew x hx⟩
  ·exact ⟨.inr hx, (hft x hx).2⟩
 ·rw [hs, if_pos hx.symm] at hB; cases hB
  subst hx
  rcases hF.box x _ hb with ⟨b, cap, e1, e2, e3, _, cs, hB, hcs, hnb, hn, hrw, _⟩ | ⟨e1, e2⟩
  ·refine .inl ⟨b, cap, e1, e2, fun h => (by cases h), fun _ => .inr (.root e1), cap.c, cs, hB, by rw [Nat.mul_one]; exact hcs, by omega, fun _ _ => rfl, fun e c he hc => ?_⟩
   obtain rfl : c = 0 := by omega
   rw [Nat.mul_one, Nat.add_zero]
   obtain ⟨b2, c2, p1, p2, p3, p4, cs2, hB2, hs2, hnc2, hfl2, hall2⟩ := hrw e he
   have hf2 : Foot (.mat t t2 nb n m2 n2 g) (i x) b2 := ⟨b, cap, e1, .inr ⟨e, c2, he, p1⟩⟩
   rw [p3]
   refine ⟨rfl, .fz _ _ _ n2 c2 m2 (g e) (fun y c => cs2.getD (y * m2 + c) undef) hnc2 p4 hfl2 (fun y c hy hc => ⟨b2, 0, rfl, .inr hf2, ?_, (hall2 y c hy hc).1⟩) (fun y c hy hc => (hall2 y c hy hc).2.mem (fun o b hz => ⟨.inl hz, rfl⟩))⟩
   have hlt : y * m2 + c < cs2.size := by
    have : (y + 1) * m2 ≤ c2 * m2 := Nat.mul_le_mul_right _ (by omega)
    rw [Nat.add_mul] at this; omega
   rw [Nat.zero_add]; exact hB2.cell _ hlt
  ·rcases e2 with e2 | ⟨t', m', f2, e2 | e2⟩ | ⟨_, _, _, _, _, e2⟩
   ·cases e2
   ·cases e2
   ·cases e2
   ·cases e2
    exact .inr ⟨e1, .inr (.inl ⟨_, _, _, .inr rfl⟩)⟩
/-- A row's block is lent. -/
theorem Fits.lentF (hF : Fits S E H Z i a w) (hL : ∀ k, k ∈ L → ∃ B, H k = some B ∧ B.mut = true) {k b : Nat} {B : Box} (hk : H k = some B) (hm : B.mut = true) (hf : Foot B (i k) b) (hkL : k ∉ L) : ZL true L Z i w true b :=
 .inr ⟨rfl, rfl, (hF.foot k B b hk hm hf).1, fun k' c hk' e => by
  obtain ⟨B', h1, h2⟩ := hL k' hk'
  exact hkL (hF.inj k k' B B' b hk h1 hm h2 hf (.root e) ▸ hk')⟩
theorem CvV.slr {k nb n m2 n2 e len : Nat} {t t2 : TypeId} {g : Nat → Nat → List D} (h : H k = some (.mat t t2 nb n m2 n2 g)) (he : e < n) (hn : len ≤ n2) (hkL : memB k L = false) (hns : memB k ns = true) : CvV true L ns H (.slr k e m2 len) (.fz true len m2 (g e)) := fun H1 hH S E a w Z i v hF hL hv => by
 rw [← hH k (memB_spec hns)] at h
 cases hv with | @slr _ r cp _ _ _ _ b cap hib hr h1 h2 =>
 obtain ⟨_, _, cs, hB, hs, hnc, hfl, hall⟩ := hF.row h hib he hr
 have hz := hF.lentF hL h rfl ⟨r, cp, hib, .inr ⟨e, cap, he, hr⟩⟩ (memB_no hkL)
 refine .fz _ _ _ len cap m2 (g e) (fun y c => cs.getD (y * m2 + c) undef) h1 h2 (fun y hy => hfl y (by omega)) (fun y c hy hc => ⟨b, 0, rfl, hz, ?_, (hall y c (by omega) hc).1⟩) (fun y c hy hc => (hall y c (by omega) hc).2.mem (fun o b hz => ⟨.inl hz, rfl⟩))
 have hlt : y * m2 + c < cs.size := by
  have : (y + 1) * m2 ≤ cap * m2 := Nat.mul_le_mul_right _ (by omega)
  rw [Nat.add_mul] at this; omega
 rw [Nat.zero_add]; exact hB.cell _ hlt
theorem CvV.slm {k nb n m2 n2 len : Nat} {t t2 : TypeId} {g : Nat → Nat → List D} (h : H k = some (.mat t t2 nb n m2 n2 g)) (hn : len ≤ n) (hkL : memB k L = false) (hns : memB k ns = true) : CvV true L ns H (.sl k 1 len) (.fz true len 1 (fun e => [.fz true n2 m2 (g e)])) := fun H1 hH S E a w Z i v hF hL hv => by
 rw [← hH k (memB_spec hns)] at h
 cases hv with
 | @sl _ b _ _ _ cap hib h1 h2 =>
  rcases hF.box k _ h with ⟨_, _, e1, _, _, _, cs, hB, hcs, hnb, hnn, hrw, _⟩ | ⟨e1, _⟩
  ·rw [hib] at e1; cases e1
   have hz := hF.lentF hL h rfl (.root hib) (memB_no hkL)
   refine .fz _ _ _ len cap.c 1 _ (fun e _ => cs.getD e undef) h1 h2 (fun _ _ => rfl) (fun e c he hc => ⟨b, 0, rfl, hz, ?_, ?_⟩) (fun e c he hc => ?_)
   ·obtain rfl : c = 0 := by omega
    rw [Nat.mul_one, Nat.add_zero, Nat.zero_add]
    exact hB.cell _ (by omega)
   ·obtain ⟨b2, c2, p1, p2, p3, p4, p5⟩ := hrw e (by omega)
    rw [p3]; rfl
   ·obtain rfl : c = 0 := by omega
    obtain ⟨b2, c2, p1, p2, p3, p4, p5⟩ := hrw e (by omega)
    have hle : n2 ≤ c2 := by obtain ⟨_, _, _, h, _⟩ := p5; exact h
    rw [p3]
    have he' : e < n := by omega
    exact (CvV.slr (L := L) (ns := ns) (H := H1) (n := n) (e := e) h he' (Nat.le_refl _) hkL hns) H1 (fun _ _ => rfl) S _ a w Z i _ hF hL (.slr _ _ _ _ _ _ _ hib p1 hle p4)
  ·rw [hib] at e1; cases e1
 | sl0 => exact .fz _ _ none 0 0 1 _ (fun _ _ => undef) (Nat.le_refl _) (by omega) (fun e he => by omega) (fun e c he => by omega) (fun e c he => by omega)
end
end Go.Proofs.Ytmjildbdkecolaa
