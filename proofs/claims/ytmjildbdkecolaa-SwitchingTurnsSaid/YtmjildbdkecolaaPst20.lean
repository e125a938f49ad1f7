/- What may be forgotten, frozen, said otherwise. No walk.
Rows of rows, each in a block of its own: what is read, what is turned. No walk. -/
import Derived.Test.YtmjildbdkecolaaPst19
set_option linter.unusedSimpArgs false
set_option linter.unusedVariables false
set_option linter.unnecessarySimpa false
namespace Go.Proofs.Ytmjildbdkecolaa
open Go.RowKit

/-- Data of a slot, said otherwise. -/
def SlotCv (H : Nat → Option Box) (d d' : D) : Prop := ∀ S E a w Z i v, Fits S E H Z i a w → Rep Z w i v d → Rep Z w i v d'
theorem SlotCv.refl {H : Nat → Option Box} (d : D) : SlotCv H d d := fun _ _ _ _ _ _ _ _ h => h
theorem SlotCv.any {H : Nat → Option Box} (d : D) : SlotCv H d .any := fun _ _ _ _ _ _ _ _ _ => .any _ _
theorem SlotCv.cvt {H : Nat → Option Box} {d d' : D} (h : Cvt d d') : SlotCv H d d' := fun _ _ _ _ _ _ _ hF hv => h.cv hF.zsub hv
theorem SlotCv.eq {H : Nat → Option Box} {d d' : D} (h : d = d') : SlotCv H d d' := h ▸ .refl d
theorem SlotCv.trans {H : Nat → Option Box} {a b c : D} (h : SlotCv H a b) (k : SlotCv H b c) : SlotCv H a c := fun S E x w Z i v hF hv => k S E x w Z i v hF (h S E x w Z i v hF hv)
/-- What is frozen, as frozen. -/
theorem SlotCv.ice {H : Nat → Option Box} {ns : List Nat} {d d' : D} (h : CvV false [] ns H d d') : SlotCv H d d' := fun S E a w Z i v hF hv => by
 refine ((h H (fun _ _ => rfl) S E a w Z i v hF (fun k hk => by cases hk) hv).mem (Z' := Z) (fun o b hz => ⟨?_, rfl⟩)).of_noN
 rcases hz with q | ⟨q, _⟩
 ·exact q
 ·cases q
inductive EnvCv (H : Nat → Option Box) (env : List (Nat × D)) : List (Nat × D) → Prop where
 | nil : EnvCv H env []
 | cons {t : Nat} {d : D} {l : List (Nat × D)} (h : SlotCv H (lk env t) d) (k : EnvCv H env l) : EnvCv H env ((t, d) :: l)
theorem EnvCv.at {H : Nat → Option Box} {env env' : List (Nat × D)} (h : EnvCv H env env') (t : Nat) : SlotCv H (lk env t) (lk env' t) := by
 induction h with
 | nil => exact .any _
 | @cons s d l h k ih =>
  simp only [lk]
  by_cases q : s = t
  ·subst q; simpa using h
  ·rw [beq_ne q]; exact ih
inductive SlotCvL (H : Nat → Option Box) : List D → List D → Prop where
 | nil : SlotCvL H [] []
 | cons {d d' : D} {l l' : List D} (h : SlotCv H d d') (k : SlotCvL H l l') : SlotCvL H (d :: l) (d' :: l')
theorem SlotCvL.len {H : Nat → Option Box} {l l' : List D} (h : SlotCvL H l l') : l.length = l'.length := by induction h with | nil => rfl | cons _ _ ih => simp [ih]
theorem SlotCvL.at {H : Nat → Option Box} {l l' : List D} (h : SlotCvL H l l') : ∀ j, SlotCv H (dl l j) (dl l' j) := by
 induction h with
 | nil => intro j; exact .refl _
 | cons h _ ih => intro j; cases j with
  | zero => exact h
  | succ j => exact ih j
/-- A box, said otherwise. -/
inductive BoxCv (H : Nat → Option Box) : Option Box → Box → Prop where
 | refl (B : Box) : BoxCv H (some B) B
 | gone (B : Box) : BoxCv H (some B) .gone
 | arr {t : TypeId} {n n' m : Nat} {f f' : Nat → List D} (hn : n' ≤ n) (h : ∀ e, e < n' → (f' e).length = m ∧ ∀ c, c < m → Cvt (dl (f e) c) (dl (f' e) c)) : BoxCv H (some (.arr t n m f)) (.arr t n' m f')
 | ice {t : TypeId} {n n' m : Nat} {f f' : Nat → List D} (hn : n' ≤ n) (h : ∀ e, e < n' → (f' e).length = m ∧ ∀ c, c < m → Cvt (dl (f e) c) (dl (f' e) c)) : BoxCv H (some (.ice t n m f)) (.ice t n' m f')
 | mat {t t2 : TypeId} {nb n m2 n2 : Nat} {g g' : Nat → Nat → List D} (h : ∀ e, e < n → ∀ x, x < n2 → (g' e x).length = m2 ∧ ∀ c, c < m2 → Cvt (dl (g e x) c) (dl (g' e x) c)) : BoxCv H (some (.mat t t2 nb n m2 n2 g)) (.mat t t2 nb n m2 n2 g')
 | lit {t : TypeId} {l l' : List D} (h : SlotCvL H l l') : BoxCv H (some (.lit t l)) (.lit t l')
inductive BoxesCv (H : Nat → Option Box) (box : List (Nat × Option Box)) : List (Nat × Option Box) → Prop where
 | nil : BoxesCv H box []
 | cons {k : Nat} {B : Box} {l : List (Nat × Option Box)} (h : BoxCv H (hk box k) B) (r : BoxesCv H box l) : BoxesCv H box ((k, some B) :: l)
section
variable {ro : Option Nat} {P : Program} {N : Nat} {Q : Post} {c : Code} {S : Cx} {E : Nat → D} {H : Nat → Option Box} {Z : Zn} {i i' : Nm} {a : Act} {w : World} {env env' : List (Nat × D)} {box box' : List (Nat × Option Box)}
theorem ArrAt.cvt {b cap : Nat} {t : TypeId} {n n' m : Nat} {f f' : Nat → List D} (hz : ∀ b, Z false b → Z true b) (h : ArrAt Z w b cap t n m f) (hn : n' ≤ n) (hf : ∀ e, e < n' → (f' e).length = m ∧ ∀ c, c < m → Cvt (dl (f e) c) (dl (f' e) c)) : ArrAt Z w b cap t n' m f' := by
 obtain ⟨cs, h1, h2, h3, h4, h5⟩ := h
 exact ⟨cs, h1, h2, by omega, fun e he => (hf e he).1, fun e c he hc => ⟨(h5 e c (by omega) hc).1, ((hf e he).2 c hc).cv hz (h5 e c (by omega) hc).2⟩⟩
theorem BoxCv.ok (hF : Fits S E H Z i a w) {k : Nat} {B : Box} {p : Nat → Bool} (h : BoxCv H (H k) B) (hp : B.free p = true) (hi : ∀ k x, p k = true → i k = some x → i' k = some x) (hk : i' k = i k) : BoxOk S Z w i' k B := by
 generalize hq : H k = oB at h
 cases h with
 | refl B =>
  rcases hF.box k B hq with ⟨b, cap, e1, e2, e3, e4, e5⟩ | ⟨e1, e2⟩
  ·exact .inl ⟨b, cap, hk.trans e1, e2, e3, e4, e5.nm hp hi⟩
  ·exact .inr ⟨hk.trans e1, e2⟩
 | gone B =>
  rcases hF.box k B hq with ⟨b, cap, e1, e2, e3, e4, e5⟩ | ⟨e1, e2⟩
  ·exact .inl ⟨b, cap, hk.trans e1, e2, fun h => (by cases h), fun h => (by cases h), e5.lt⟩
  ·exact .inr ⟨hk.trans e1, .inl rfl⟩
 | @arr t n n' m f f' hn h =>
  rcases hF.box k _ hq with ⟨b, cap, e1, e2, e3, e4, e5⟩ | ⟨e1, e2⟩
  ·exact .inl ⟨b, cap, hk.trans e1, e2, e3, fun h => (by cases h), ArrAt.cvt hF.zsub e5 hn h⟩
  ·rcases e2 with e2 | ⟨t', m', f2, e2 | e2⟩ | ⟨_, _, _, _, _, e2⟩
   ·cases e2
   ·cases e2
    obtain rfl : n' = 0 := by omega
    exact .inr ⟨hk.trans e1, .inr (.inl ⟨_, _, _, .inl rfl⟩)⟩
   ·cases e2
   ·cases e2
 | @ice t n n' m f f' hn h =>
  rcases hF.box k _ hq with ⟨b, cap, e1, e2, e3, e4, e5⟩ | ⟨e1, e2⟩
  ·exact .inl ⟨b, cap, hk.trans e1, e2, fun h => (by cases h), e4, e5.imp fun _ e5 => ArrAt.cvt hF.zsub e5 hn h⟩
  ·rcases e2 with e2 | ⟨t', m', f2, e2 | e2⟩ | ⟨_, _, _, _, _, e2⟩
   ·cases e2
   ·cases e2
   ·cases e2
    obtain rfl : n' = 0 := by omega
    exact .inr ⟨hk.trans e1, .inr (.inl ⟨_, _, _, .inr rfl⟩)⟩
   ·cases e2
 | @mat t t2 nb n m2 n2 g g' h =>
  rcases hF.box k _ hq with ⟨b, cap, e1, e2, e3, e4, e5⟩ | ⟨e1, e2⟩
  ·exact .inl ⟨b, cap, hk.trans e1, e2, e3, fun h => (by cases h), MatAt.map e5 rfl (fun e x c he hx ⟨cs, f1, f2, f3, f4, f5⟩ => ⟨cs, f1, f2, f3, fun y hy => (h e he y hy).1, fun y c hy hc => ⟨(f5 y c hy hc).1, ((h e he y hy).2 c hc).cv hF.zsub (f5 y c hy hc).2⟩⟩)⟩
  ·rcases e2 with e2 | ⟨t', m', f2, e2 | e2⟩ | ⟨_, _, _, _, _, e2⟩
   ·cases e2
   ·cases e2
   ·cases e2
   ·cases e2
    exact .inr ⟨hk.trans e1, .inr (.inr ⟨_, _, _, _, _, rfl⟩)⟩
 | @lit t l l' h =>
  rcases hF.box k _ hq with ⟨b, cap, e1, e2, e3, e4, cs, f1, f2, f3⟩ | ⟨e1, e2⟩
  ·refine .inl ⟨b, cap, hk.trans e1, e2, e3, fun h => (by cases h), BoxAt.nm (B := .lit t l') ⟨cs, f1, f2.trans h.len, fun j hj => ⟨(f3 j (by rw [h.len]; exact hj)).1, h.at j S E a w Z i _ hF (f3 j (by rw [h.len]; exact hj)).2⟩⟩ hp hi⟩
  ·rcases e2 with e2 | ⟨t', m', f2, e2 | e2⟩ | ⟨_, _, _, _, _, e2⟩ <;> cases e2
def boxFree (p : Nat → Bool) : List (Nat × Option Box) → Bool
 | [] => true
 | (_, some B) :: l => B.free p && boxFree p l
 | (_, none) :: _ => false
def envFree (p : Nat → Bool) : List (Nat × D) → Bool
 | [] => true
 | (_, d) :: l => d.free p && envFree p l
theorem envFree_at {p : Nat → Bool} : ∀ {l : List (Nat × D)}, envFree p l = true → ∀ t, (lk l t).free p = true
 | [], _, t => rfl
 | (s, d) :: l, h, t => by
  simp only [envFree, Bool.and_eq_true] at h
  simp only [lk]
  by_cases q : s = t
  ·subst q; simpa using h.1
  ·rw [beq_ne q]; exact envFree_at h.2 t
theorem boxFree_at {p : Nat → Bool} : ∀ {l : List (Nat × Option Box)}, boxFree p l = true → ∀ k B, hk l k = some B → B.free p = true
 | [], _, k, B, h => by cases h
 | (s, some C) :: l, h, k, B, hB => by
  simp only [boxFree, Bool.and_eq_true] at h
  simp only [hk] at hB
  by_cases q : s = k
  ·subst q; simp at hB; subst hB; exact h.1
  ·rw [beq_ne q] at hB; exact boxFree_at h.2 k B hB
theorem BoxesCv.at (h : BoxesCv H box box') {k : Nat} {B : Box} (hB : hk box' k = some B) : BoxCv H (hk box k) B := by
 induction h with
 | nil => cases hB
 | @cons x C l h r ih =>
  simp only [hk] at hB
  by_cases q : x = k
  ·subst q; simp at hB; subst hB; exact h
  ·rw [beq_ne q] at hB; exact ih hB
theorem BoxCv.mut {oB : Option Box} {B : Box} (h : BoxCv H oB B) (hm : B.mut = true) : ∃ B0, oB = some B0 ∧ B0.mut = true := by
 cases h with
 | refl => exact ⟨_, rfl, hm⟩
 | gone => cases hm
 | arr => exact ⟨_, rfl, rfl⟩
 | ice => cases hm
 | mat => exact ⟨_, rfl, rfl⟩
 | lit => exact ⟨_, rfl, rfl⟩
theorem BoxCv.foot {oB : Option Box} {B B0 : Box} (h : BoxCv H oB B) (hB : oB = Option.some B0) {x : Option (Option (Nat × Cp))} {b : Nat} (hf : Foot B x b) : Foot B0 x b := by
 cases h with
 | refl => cases hB; exact hf
 | mat => cases hB; exact hf
 | gone => obtain ⟨cp, e⟩ := hf.flat rfl; exact .root e
 | arr => obtain ⟨cp, e⟩ := hf.flat rfl; exact .root e
 | ice => obtain ⟨cp, e⟩ := hf.flat rfl; exact .root e
 | lit => obtain ⟨cp, e⟩ := hf.flat rfl; exact .root e
theorem BoxCv.some {oB : Option Box} {B : Box} (h : BoxCv H oB B) : oB ≠ none := by cases h <;> simp
/-- LESS, OR ELSE. -/
theorem repS_weak (env' : List (Nat × D)) (box' : List (Nat × Option Box)) (hE : EnvCv (hk box) env env') (hB : BoxesCv (hk box) box box')
  (hf : (envFree (fun k => (hk box' k).isSome) env' && boxFree (fun k => (hk box' k).isSome) box') = true) (hlow : (box.all fun x => Nat.ble 1000 x.1 || (hk box' x.1).isSome) = true) (hR : RepS S (lk env) (hk box) a w) : RepS S (lk env') (hk box') a w := by
 obtain ⟨Z, i, hF⟩ := hR
 rw [Bool.and_eq_true] at hf
 refine ⟨Z, fun k => if (hk box' k).isSome then i k else none, ?_⟩
 have hi : ∀ k x, (hk box' k).isSome = true → i k = some x → (fun k => if (hk box' k).isSome then i k else none) k = some x := fun k x q e => by simp only [q, if_true, e]
 have hlo : ∀ k, k < 1000 → hk box' k = none → i k = none := fun k hk1 hk2 => by
  refine hF.nil k ?_
  cases hq : hk box k with
  | none => rfl
  | some B =>
   exfalso
   have : ∀ (l : List (Nat × Option Box)), hk l k ≠ none → ∃ B, (k, B) ∈ l := by
    intro l
    induction l with
    | nil => intro h; exact absurd rfl h
    | cons x l ih =>
     intro h
     obtain ⟨x1, x2⟩ := x
     by_cases q : x1 = k
     ·subst q; exact ⟨x2, by simp⟩
     ·simp only [hk, beq_ne q] at h
      obtain ⟨B, hB⟩ := ih h
      exact ⟨B, by simp [hB]⟩
   obtain ⟨B', hm⟩ := this box (by rw [hq]; simp)
   have := List.all_eq_true.1 hlow _ hm
   simp only [hk2] at this
   simp at this
   omega
 refine { defers := hF.defers, size := hF.size, kept := hF.kept, kept1 := hF.kept1, zk1 := hF.zk1, zsub := hF.zsub, zOld := hF.zOld, zNew := hF.zNew, env := fun t => ((hE.at t) S _ a w Z i _ hF (hF.env t)).nm (envFree_at hf.1 t) hi, box := fun k B hkB => ?_, foot := fun k B b hkB hm hf => ?_, nil := fun k hk' => ?_, low := fun k hk' => ?_, inj := fun k k' B B' b h1 h2 m1 m2 e1 e2 => ?_ }
 ·have hs : (hk box' k).isSome = true := by rw [hkB]; rfl
  exact BoxCv.ok hF (hB.at hkB) (boxFree_at hf.2 k B hkB) hi (if_pos hs)
 ·obtain ⟨B0, q1, q2⟩ := (hB.at hkB).mut hm
  simp only [hkB, Option.isSome, if_true] at hf ⊢
  exact hF.foot k B0 b q1 q2 ((hB.at hkB).foot q1 hf)
 ·simp [hk']
 ·cases hq : hk box' k with
  | some B => simp; exact hF.low k hk'
  | none => simp; rw [← hF.low k hk']; exact (hlo k hk' hq).symm
 ·obtain ⟨B0, q1, q2⟩ := (hB.at h1).mut m1
  obtain ⟨B0', q1', q2'⟩ := (hB.at h2).mut m2
  simp only [h1, h2, Option.isSome, if_true] at e1 e2
  exact hF.inj k k' B0 B0' b q1 q1' q2 q2' ((hB.at h1).foot q1 e1) ((hB.at h2).foot q1' e2)
/-- One slot, said otherwise. -/
theorem sub_conv (t : Nat) (d : D) {d0 : D} (ht : lk env t = d0) (hc : SlotCv (hk box) d0 d) : Sub (lk env) (hk box) (lk ((t, d) :: env)) (hk box) := fun S a w hR => by
 obtain ⟨Z, i, hF⟩ := hR
 refine ⟨Z, i, { hF with env := fun s => ?_ }⟩
 simp only [lk]
 by_cases q : t = s
 ·subst q
  rw [show Nat.beq t t = true by simp]
  exact hc S _ a w Z i _ hF (ht ▸ hF.env t)
 ·rw [beq_ne q]; exact hF.env s
/-- One box, said otherwise. -/
theorem sub_box (k : Nat) (B : Box) (hc : BoxCv (hk box) (hk box k) B) (hf : B.free (fun k => (hk box k).isSome) = true) : Sub (lk env) (hk box) (lk env) (hk ((k, some B) :: box)) := fun S a w hR => by
 obtain ⟨Z, i, hF⟩ := hR
 have hs : ∀ x, hk ((k, some B) :: box) x = if k = x then some B else hk box x := fun x => by
  simp only [hk]
  by_cases q : k = x
  ·subst q; simp
  ·rw [beq_ne q, if_neg q]
 have get : ∀ {x : Nat} {C : Box}, hk ((k, some B) :: box) x = some C → C.mut = true → ∃ C0, hk box x = some C0 ∧ C0.mut = true ∧ ∀ y b, Foot C y b → Foot C0 y b := fun {x C} hx hm => by
   rw [hs] at hx
   by_cases q : k = x
   ·subst q; rw [if_pos rfl] at hx; cases hx
    obtain ⟨B0, q1, q2⟩ := hc.mut hm
    exact ⟨B0, q1, q2, fun y b hf => hc.foot q1 hf⟩
   ·rw [if_neg q] at hx; exact ⟨C, hx, hm, fun _ _ h => h⟩
 refine ⟨Z, i, { hF with box := fun x C hx => ?_, foot := fun x C b hx hm hf => ?_, nil := fun x hx => ?_, inj := fun x x' C C' b h1 h2 m1 m2 e1 e2 => ?_ }⟩
 ·rw [hs] at hx
  by_cases q : k = x
  ·subst q; rw [if_pos rfl] at hx; cases hx
   exact BoxCv.ok hF hc hf (fun k x _ e => e) rfl
  ·rw [if_neg q] at hx; exact hF.box x C hx
 ·obtain ⟨C0, q1, q2, q3⟩ := get hx hm
  exact hF.foot x C0 b q1 q2 (q3 _ _ hf)
 ·rw [hs] at hx
  by_cases q : k = x
  ·rw [if_pos q] at hx; cases hx
  ·rw [if_neg q] at hx; exact hF.nil x hx
 ·obtain ⟨C0, q1, q2, q3⟩ := get h1 m1
  obtain ⟨C0', q1', q2', q3'⟩ := get h2 m2
  exact hF.inj x x' C0 C0' b q1 q1' q2 q2' (q3 _ _ e1) (q3' _ _ e2)
/-- A box is frozen. -/
theorem sub_freeze (k : Nat) {t : TypeId} {n m : Nat} {f : Nat → List D} (hb : hk box k = some (.arr t n m f)) (h100 : Nat.ble 1000 k = true) : Sub (lk env) (hk box) (lk env) (hk ((k, some (.ice t n m f)) :: box)) := fun S a w hR => by
 obtain ⟨Z, i, hF⟩ := hR
 replace h100 := Nat.le_of_ble_eq_true h100
 have hs : ∀ x, hk ((k, some (.ice t n m f)) :: box) x = if k = x then some (.ice t n m f) else hk box x := fun x => by
  simp only [hk]
  by_cases q : k = x
  ·subst q; simp
  ·rw [beq_ne q, if_neg q]
 rcases hF.box k _ hb with ⟨b, cap, e1, e2, e3, _, e5⟩ | ⟨e1, e2⟩
 ·have hbn : S.w0.heap.size ≤ b := by rcases e2 with e2 | ⟨e2, _⟩; exact e2; omega
  refine ⟨fun o x => Z o x ∨ x = b, i, ?_⟩
  refine hF.step (fun x => x = k) ⟨rfl, rfl, rfl, Nat.le_refl _⟩ (fun _ _ _ => rfl) (fun _ _ => rfl) (fun x hx => by rw [hs]; exact if_neg (Ne.symm hx)) (fun x hx e => ?_) (fun x hx e => hF.nil x e) (fun x _ e => hF.nil x e) (fun o b hb => .inl hb) (fun x hx => ?_) (fun x hx => ?_) (fun x B hx hB => ?_) (fun x B b1 hx hB hm _ => by rw [hs, if_pos hx.symm] at hB; cases hB; cases hm) (fun x x' B B' b1 hx hx' _ _ _ _ _ _ => hx.trans hx'.symm)
  ·rw [hs, if_pos hx.symm] at e; cases e
  ·rcases hx with hx | rfl
   ·exact .inl hx
   ·exact .inr ⟨e5.lt, hbn, .inr ⟨k, _, rfl, hb, rfl, .root e1⟩, fun y B hy hB hm _ => by rw [hs, if_pos hy.symm] at hB; cases hB; cases hm⟩
  ·rcases hx with hx | rfl
   ·exact ⟨.inl (hF.zsub x hx), hF.zNew x hx⟩
   ·exact ⟨.inr rfl, hbn⟩
  ·rw [hs, if_pos hx.symm] at hB; cases hB
   subst hx
   exact .inl ⟨b, cap, e1, e2, fun h => (by cases h), fun _ => .inr rfl, cap.c, ArrAt.mem e5 rfl (fun o y hy => ⟨.inl hy, rfl⟩)⟩
 ·rcases e2 with e2 | ⟨t', m', f2, e2 | e2⟩ | ⟨_, _, _, _, _, e2⟩
  ·cases e2
  ·cases e2
   refine ⟨Z, i, ?_⟩
   refine hF.step (fun x => x = k) ⟨rfl, rfl, rfl, Nat.le_refl _⟩ (fun _ _ _ => rfl) (fun _ _ => rfl) (fun x hx => by rw [hs]; exact if_neg (Ne.symm hx)) (fun x hx e => ?_) (fun x hx e => hF.nil x e) (fun x _ e => hF.nil x e) (fun o b hb => hb) (fun x hx => .inl hx) (fun x hx => ⟨hF.zsub x hx, hF.zNew x hx⟩) (fun x B hx hB => ?_) (fun x B b1 hx hB hm _ => by rw [hs, if_pos hx.symm] at hB; cases hB; cases hm) (fun x x' B B' b1 hx hx' _ _ _ _ _ _ => hx.trans hx'.symm)
   ·rw [hs, if_pos hx.symm] at e; cases e
   ·rw [hs, if_pos hx.symm] at hB; cases hB
    subst hx
    exact .inr ⟨e1, .inr (.inl ⟨_, _, _, .inr rfl⟩)⟩
  ·cases e2
  ·cases e2
/-- A variable is frozen. -/
theorem sub_frz (k : Nat) {t : TypeId} {l : List D} (hb : hk box k = some (.lit t l)) (h100 : Nat.ble 1000 k = true) (hfr : D.free.freeL (fun _ => false) l = true) : Sub (lk env) (hk box) (lk env) (hk ((k, some (.ice t 1 l.length (fun _ => l))) :: box)) := fun S a w hR => by
 obtain ⟨Z, i, hF⟩ := hR
 replace h100 := Nat.le_of_ble_eq_true h100
 have hs : ∀ x, hk ((k, some (.ice t 1 l.length (fun _ => l))) :: box) x = if k = x then some (.ice t 1 l.length (fun _ => l)) else hk box x := fun x => by
  simp only [hk]
  by_cases q : k = x
  ·subst q; simp
  ·rw [beq_ne q, if_neg q]
 rcases hF.box k _ hb with ⟨b, cap, e1, e2, e3, _, e5⟩ | ⟨e1, e2⟩
 ·have hbn : S.w0.heap.size ≤ b := by rcases e2 with e2 | ⟨e2, _⟩; exact e2; omega
  obtain ⟨cs, f1, f2, f3⟩ := e5
  refine ⟨fun o x => Z o x ∨ x = b, i, ?_⟩
  refine hF.step (fun x => x = k) ⟨rfl, rfl, rfl, Nat.le_refl _⟩ (fun _ _ _ => rfl) (fun _ _ => rfl) (fun x hx => by rw [hs]; exact if_neg (Ne.symm hx)) (fun x hx e => ?_) (fun x hx e => hF.nil x e) (fun x _ e => hF.nil x e) (fun o b hb => .inl hb) (fun x hx => ?_) (fun x hx => ?_) (fun x B hx hB => ?_) (fun x B b1 hx hB hm _ => by rw [hs, if_pos hx.symm] at hB; cases hB; cases hm) (fun x x' B B' b1 hx hx' _ _ _ _ _ _ => hx.trans hx'.symm)
  ·rw [hs, if_pos hx.symm] at e; cases e
  ·rcases hx with hx | rfl
   ·exact .inl hx
   ·exact .inr ⟨f1.lt, hbn, .inr ⟨k, _, rfl, hb, rfl, .root e1⟩, fun y B hy hB hm _ => by rw [hs, if_pos hy.symm] at hB; cases hB; cases hm⟩
  ·rcases hx with hx | rfl
   ·exact ⟨.inl (hF.zsub x hx), hF.zNew x hx⟩
   ·exact ⟨.inr rfl, hbn⟩
  ·rw [hs, if_pos hx.symm] at hB; cases hB
   subst hx
   refine .inl ⟨b, cap, e1, e2, fun h => (by cases h), fun _ => .inr rfl, 1, cs, f1, by rw [f2]; simp, Nat.le_refl _, fun _ _ => rfl, fun e c he hc => ?_⟩
   obtain rfl : e = 0 := by omega
   rw [Nat.zero_mul, Nat.zero_add]
   exact ⟨(f3 c hc).1, ((f3 c hc).2.nm (i' := noN) (freeL_at hfr c hc) (fun k x hk => by cases hk)).mem (fun o y hy => ⟨.inl hy, rfl⟩)⟩
 ·rcases e2 with e2 | ⟨t', m', f2, e2 | e2⟩ | ⟨_, _, _, _, _, e2⟩ <;> cases e2
/-- A nil slice in a variable gets a name. -/
theorem sub_nilcellB (kb cc k m : Nat) (B : Box) (hNB : ((∃ t m f, B = .arr t 0 m f ∨ B = .ice t 0 m f) ∨ ∃ t t2 m2 n2 g, B = .mat t t2 0 0 m2 n2 g)) {tb : TypeId} {ds ds' : List D} (hl : hk box kb = some (.lit tb ds)) (hds : dl ds cc = .val (.slice none 0 0)) (hds' : setL ds cc [.sl k m 0] = ds') (hcl : Nat.blt cc ds.length = true) (hb : hk box k = none) (h100 : Nat.ble 1000 k = true) : Sub (lk env) (hk box) (lk env) (hk ((kb, some (.lit tb ds')) :: (k, some B) :: box)) := fun S a w hR => by
 obtain ⟨Z, i, hF⟩ := hR
 replace h100 := Nat.le_of_ble_eq_true h100
 replace hcl : cc < ds.length := by simpa using hcl
 have hne : kb ≠ k := fun e => by rw [e, hb] at hl; cases hl
 have hs : ∀ x, hk ((k, some B) :: box) x = if k = x then some B else hk box x := fun x => by
  simp only [hk]
  by_cases q : k = x
  ·subst q; simp
  ·rw [beq_ne q, if_neg q]
 have hF2 : Fits S (lk env) (hk ((k, some B) :: box)) Z (fun x => if x = k then some none else i x) a w := by
  refine hF.step (fun x => x = k) ⟨rfl, rfl, rfl, Nat.le_refl _⟩ (fun _ _ _ => rfl) (fun x hx => if_neg (fun e => hx (by rw [e]; exact hb))) (fun x hx => by rw [hs]; exact if_neg (Ne.symm hx)) (fun x hx e => ?_) (fun x hx e => ?_) (fun x hx e => ?_) (fun o b hb => hb) (fun x hx => .inl hx) (fun x hx => ⟨hF.zsub x hx, hF.zNew x hx⟩) (fun x B1 hx hB => ?_) (fun x B1 b hx hB hm hf => by obtain ⟨_, _, e, _⟩ := hf; simp only [if_pos hx] at e; cases e) (fun x x' B B' b1 hx hx' _ _ _ _ _ _ => hx.trans hx'.symm)
  ·rw [hs, if_pos hx.symm] at e; cases e
  ·show (if x = k then _ else _) = none; rw [if_neg hx]; exact hF.nil x e
  ·show (if x = k then _ else _) = none; rw [if_neg (by omega)]; exact hF.nil x e
  ·rw [hs, if_pos hx.symm] at hB; cases hB
   exact .inr ⟨if_pos hx, .inr hNB⟩
 have hs2 : ∀ x, hk ((kb, some (.lit tb ds')) :: (k, some B) :: box) x = if kb = x then some (.lit tb ds') else hk ((k, some B) :: box) x := fun x => by
  by_cases q : kb = x
  ·subst q; simp [hk]
  ·rw [if_neg q]; simp only [hk]; rw [beq_ne q]
 have hl2 : hk ((k, some B) :: box) kb = some (.lit tb ds) := by rw [hs, if_neg (Ne.symm hne)]; exact hl
 have get : ∀ {x : Nat} {C : Box}, hk ((kb, some (.lit tb ds')) :: (k, some B) :: box) x = some C → C.mut = true → ∃ C0, hk ((k, some B) :: box) x = some C0 ∧ C0.mut = true ∧ ∀ y b, Foot C y b → Foot C0 y b := fun {x C} hx hm => by
   rw [hs2] at hx
   by_cases q : kb = x
   ·subst q; rw [if_pos rfl] at hx; cases hx; exact ⟨_, hl2, rfl, fun _ _ h => h⟩
   ·rw [if_neg q] at hx; exact ⟨C, hx, hm, fun _ _ h => h⟩
 refine ⟨Z, _, { hF2 with box := fun x C hx => ?_, foot := fun x C b hx hm hf => ?_, nil := fun x hx => ?_, inj := fun x x' C C' b h1 h2 m1 m2 e1 e2 => ?_ }⟩
 ·rw [hs2] at hx
  by_cases q : kb = x
  ·subst q; rw [if_pos rfl] at hx; cases hx
   rcases hF2.box kb _ hl2 with ⟨b, cap, e1, e2, e3, e4, cs, f1, f2, f3⟩ | ⟨e1, e2⟩
   ·refine .inl ⟨b, cap, e1, e2, e3, fun h => (by cases h), cs, f1, by rw [← hds', setL_len (by simp; omega)]; exact f2, fun j hj => ?_⟩
    rw [← hds', setL_len (by simp; omega)] at hj
    rw [← hds', setL_at (by simp; omega)]
    by_cases q2 : cc ≤ j ∧ j < cc + [D.sl k m 0].length
    ·rw [if_pos q2]
     obtain rfl : cc = j := by simp at q2; omega
     have := f3 cc hj
     rw [hds] at this
     refine ⟨this.1, ?_⟩
     rw [this.2.valEq]
     simp [dl]
     exact .sl0 _ _ _ (by simp)
    ·rw [if_neg q2]; exact f3 j hj
   ·rcases e2 with e2 | ⟨t', m', f2, e2 | e2⟩ | ⟨_, _, _, _, _, e2⟩ <;> cases e2
  ·rw [if_neg q] at hx; exact hF2.box x C hx
 ·obtain ⟨C0, q1, q2, q3⟩ := get hx hm
  exact hF2.foot x C0 b q1 q2 (q3 _ _ hf)
 ·rw [hs2] at hx
  by_cases q : kb = x
  ·rw [if_pos q] at hx; cases hx
  ·rw [if_neg q] at hx; exact hF2.nil x hx
 ·obtain ⟨C0, q1, q2, q3⟩ := get h1 m1
  obtain ⟨C0', q1', q2', q3'⟩ := get h2 m2
  exact hF2.inj x x' C0 C0' b q1 q1' q2 q2' (q3 _ _ e1) (q3' _ _ e2)
theorem sub_nilcell (kb cc k : Nat) (tt : TypeId) (m : Nat) (f : Nat → List D) {tb : TypeId} {ds ds' : List D} (hl : hk box kb = some (.lit tb ds)) (hds : dl ds cc = .val (.slice none 0 0)) (hds' : setL ds cc [.sl k m 0] = ds') (hcl : Nat.blt cc ds.length = true) (hb : hk box k = none) (h100 : Nat.ble 1000 k = true) : Sub (lk env) (hk box) (lk env) (hk ((kb, some (.lit tb ds')) :: (k, some (.arr tt 0 m f)) :: box)) := sub_nilcellB kb cc k m _ (.inl ⟨_, _, _, .inl rfl⟩) hl hds hds' hcl hb h100
end
open Go.RowKit

section
variable {lend : Bool} {L ns : List Nat} {P : Program} {N : Nat} {o : Oper} {E E1 : Nat → D} {H H1 : Nat → Option Box} {S : Cx} {Z : Zn} {i : Nm} {a : Act} {w w' : World}
/-- A row of a box. -/
theorem Fits.row (h : Fits S E H Z i a w) {k nb n m2 n2 e r b cap : Nat} {cp : Cp} {t t2 : TypeId} {g : Nat → Nat → List D} (hk : H k = some (.mat t t2 nb n m2 n2 g)) (hi : i k = some (some (r, cp))) (he : e < n) (hr : cp.r e = some (b, cap)) : b ≠ r ∧ cap ≤ 9223372036854775807 ∧ ArrAt Z w b cap t2 n2 m2 (g e) := by
 rcases h.box k _ hk with ⟨b', _, e1, _, _, _, cs, hB, hs, hnb, hn, hrw, _⟩ | ⟨q, _⟩
 ·rw [hi] at e1; cases e1
  obtain ⟨b2, c2, q1, q2, q3, q4, q5⟩ := hrw e he
  rw [hr] at q1; cases q1
  exact ⟨q2, q4, q5⟩
 ·rw [hi] at q; cases q
theorem loc_load_mat {t t1 t2 : TypeId} {x : Operand} {k nb n m2 n2 e : Nat} {g : Nat → Nat → List D} (ho : o.op = .load t x) (hd : dstLt o N = true) (hL : LoadIs P t 1 false) (hx : Opd E x (.eptr k 1 e 0)) (hk : H k = some (.mat t1 t2 nb n m2 n2 g)) (he : e < n) : Loc P N o E H ⟨[k], o.dst, .slr k e m2 n2, [], []⟩ :=
 loc_run (by simp [ho]) hd (fun E1 H1 S Z i a w hF hA hN => by
  have h1 := hF.opd (hA x (by simp [ho, Op.operands]) _ hx)
  generalize hv : a.eval x = v at h1
  cases h1 with | @eptr _ b cp _ _ _ _ hib =>
  have hk1 := hN k (by simp)
  rw [hk] at hk1
  rcases hF.box k _ hk1 with ⟨b', _, e1, _, _, _, cs, hB, hs, hnb, hn, hr, _⟩ | ⟨q, _⟩
  ·rw [hib] at e1; cases e1
   obtain ⟨br, cr, r1, r2, r3, r4, r5⟩ := hr e he
   refine ⟨_, run_loadOp ho hL hv (cs := fun j => cs.getD (e + j) undef) (fun j hj => ?_), ?_⟩
   ·rw [addr_add, Nat.mul_one, Nat.add_zero]
    exact hB.cell _ (by omega)
   ·have hle : n2 ≤ cr := by obtain ⟨_, _, _, h, _⟩ := r5; exact h
    simp only [Nat.add_zero, r3]
    exact .slr _ _ _ _ _ _ _ hib r1 hle r4
  ·rw [hib] at q; cases q)
theorem loc_index_row {t : TypeId} {x y : Operand} {k e m len z : Nat} {kd : IntKind} {u : Int} (ho : o.op = .indexAddr t x y) (hd : dstLt o N = true) (hL : IndexIs P t m) (hx : Opd E x (.slr k e m len)) (hy : Opd E y (.val (.int kd u))) (hz : IdxIs u len z) : Loc P N o E H ⟨[], o.dst, .eptrr k e m z 0, [], []⟩ :=
 loc_run (by simp [ho]) hd (fun E1 H1 S Z i a w hF hA hN => by
  have h1 := hF.opd (hA x (by simp [ho, Op.operands]) _ hx)
  have h2 := (hF.opd (hA y (by simp [ho, Op.operands]) _ hy)).valEq
  obtain ⟨rfl, he⟩ := hz
  generalize hv : a.eval x = v at h1
  cases h1 with
  | slr _ _ _ _ _ b cap hib hr _ _ =>
   refine ⟨_, run_indexOp ho hL hv h2 he, ?_⟩
   rw [Nat.zero_add]
   exact .eptrr _ _ _ _ _ 0 hib hr)
theorem loc_len_row {t : TypeId} {x : Operand} {el : TypeId} {k e m n : Nat} {info : TypeInfo} (ho : o.op = .call { callee := .builtin .len, args := #[x], argTypes := #[t] }) (hd : dstLt o N = true) [hT : TI P t info (.slice el)] (hx : Opd E x (.slr k e m n)) : Loc P N o E H ⟨[], o.dst, .val (.int .i64 n), [], []⟩ :=
 loc_run (by simp [ho]) hd (fun E1 H1 S Z i a w hF hA hN => by
  have h1 := hF.opd (hA x (by simp [ho, Op.operands, Call.operands]) _ hx)
  generalize hv : a.eval x = v at h1
  cases h1 with
  | slr _ _ _ _ _ _ _ _ _ _ _ => exact ⟨_, run_lenOp ho hT.under hv, .val _ _⟩)
theorem loc_load_row {t t1 t2 : TypeId} {x : Operand} {k nb n n' m n2 e z c : Nat} {ag : Bool} {g : Nat → Nat → List D} (ho : o.op = .load t x) (hd : dstLt o N = true) (hL : LoadIs P t n' ag) (hx : Opd E x (.eptrr k e m z c)) (hk : H k = some (.mat t1 t2 nb n m n2 g)) (he : e < n) (hz : z < n2) (hc : Nat.ble (c + n') m = true) : Loc P N o E H ⟨[k], o.dst, ldD ag (takeL n' (dropL c (g e z))), [], []⟩ :=
 loc_run (by simp [ho]) hd (fun E1 H1 S Z i a w hF hA hN => by
  have h1 := hF.opd (hA x (by simp [ho, Op.operands]) _ hx)
  replace hc := Nat.le_of_ble_eq_true hc
  generalize hv : a.eval x = v at h1
  cases h1 with | @eptrr _ r cp _ _ _ _ _ b cap hib hr =>
  have hk1 := hN k (by simp)
  obtain ⟨_, _, hAr⟩ := hF.row (hk1.trans hk) hib he hr
  have hfl : (g e z).length = m := by obtain ⟨_, _, _, _, h, _⟩ := hAr; exact h z hz
  have hcell : ∀ j, j < n' → ∃ v, w.cell? ⟨b, z * m + (c + j), none⟩ = some v ∧ v.oneCell' = true ∧ Rep Z w noN v (dl (g e z) (c + j)) := fun j hj => hAr.cellAt hz (by omega)
  refine ⟨_, run_loadOp ho hL hv (cs := fun j => (w.cell? ⟨b, z * m + (c + j), none⟩).getD undef) (fun j hj => ?_), ldD_rep hL.1 (len_seg (by omega)) (fun j hj => ?_)⟩
  ·obtain ⟨v, h1, _⟩ := hcell j hj
   rw [addr_add, Nat.add_assoc, h1]; rfl
  ·obtain ⟨v, h1, h2, h3⟩ := hcell j hj
   rw [dl_seg hj, h1]
   exact ⟨h2, h3.of_noN⟩)
/-- One row is turned. -/
def setG (g : Nat → Nat → List D) (e : Nat) (f : Nat → List D) (e' : Nat) : Nat → List D := if e' = e then f else g e'
theorem Fits.turnM (h : Fits S E H Z i a w) {k nb n m2 n2 e r b cap : Nat} {cp : Cp} {t t2 : TypeId} {g : Nat → Nat → List D} {f : Nat → List D} (hk : H k = some (.mat t t2 nb n m2 n2 g)) (hi : i k = some (some (r, cp))) (he : e < n) (hr : cp.r e = some (b, cap)) (hos : w'.os = w.os ∧ w'.tape = w.tape ∧ w'.output = w.output ∧ w.heap.size ≤ w'.heap.size) (hw : ∀ x, x < w.heap.size → x ≠ b → w'.heap[x]? = w.heap[x]?)
  (hA : (∀ o x, Z o x → w'.heap[x]? = w.heap[x]?) → ArrAt Z w' b cap t2 n2 m2 f) : Fits S E (updH H [(k, some (.mat t t2 nb n m2 n2 (setG g e f)))]) Z i a w' := by
 have hft : Foot (.mat t t2 nb n m2 n2 g) (i k) b := ⟨r, cp, hi, .inr ⟨e, cap, he, hr⟩⟩
 have hfb := h.foot k _ b hk rfl hft
 obtain ⟨hbr, _, hA0⟩ := h.row hk hi he hr
 have hZo : ∀ o x, Z o x → w'.heap[x]? = w.heap[x]? := fun o x hx => by
  have hxt : Z true x := by cases o; exact h.zsub x hx; exact hx
  exact hw x (h.zOld x hxt).1 (fun e => hfb.2.2.1 (e ▸ hxt))
 refine h.step (fun x => x = k) hos (fun x hx hn => hw x hx (fun e => hn k _ rfl hk rfl (e ▸ hft))) (fun _ _ => rfl) (fun x hx => ?_) (fun x hx e => ?_) (fun x hx e => h.nil x e) (fun x _ e => h.nil x e) (fun o b hb => hb) (fun b hb => .inl hb) (fun b hb => ⟨h.zsub b hb, h.zNew b hb⟩) (fun x B' hx hB' => ?_) (fun x B' b1 hx hB' _ hf => ?_) (fun x x' B1 B2 b hx hx' _ _ _ _ _ _ => hx.trans hx'.symm)
 ·simp only [updH]; exact if_neg (Ne.symm hx)
 ·subst hx; simp [updH] at e
 ·subst hx
  simp only [updH, if_true] at hB'
  cases hB'
  rcases h.box x _ hk with ⟨b', _, e1, e2, e3, e4, cs, hB, hs, hnb, hn, hrw, hinj, htl⟩ | ⟨q, _⟩
  ·rw [hi] at e1; cases e1
   refine .inl ⟨r, cp, hi, e2, e3, fun h => (by cases h), cs, (hw r hB.lt (Ne.symm hbr)).trans hB, hs, hnb, hn, fun e' he' => ?_, hinj, htl⟩
   obtain ⟨b2, c2, q1, q2, q3, q4, q5⟩ := hrw e' he'
   refine ⟨b2, c2, q1, q2, q3, q4, ?_⟩
   unfold setG
   by_cases q : e' = e
   ·subst q
    rw [hr] at q1; cases q1
    rw [if_pos rfl]; exact hA hZo
   ·rw [if_neg q]
    have hne : b2 ≠ b := fun e2 => q (hinj e' e b c2 cap he' he (e2 ▸ q1) hr)
    obtain ⟨cs', q6, _⟩ := q5
    exact ArrAt.mem ⟨cs', q6, by assumption⟩ (hw b2 q6.lt hne) (fun o x hx => ⟨hx, hZo o x hx⟩)
  ·rw [hi] at q; cases q
 ·subst hx
  simp only [updH, if_true] at hB'
  cases hB'
  exact .inr ⟨x, _, rfl, fun h hc => ⟨h, hc⟩, hk, rfl, hf⟩
/-- A cell of a row is stored. -/
theorem loc_store_row {t t1 t2 : TypeId} {x y : Operand} {k e m z c n' nb n n2 : Nat} {g : Nat → Nat → List D} {d : D} (ho : o.op = .store t x y) (hd : o.dst = none) (hx : Opd E x (.eptrr k e m z c)) (hy : Opd E y d) (hf : d.fit = true) (hp : D.free (fun _ => false) d = true) (hS : SizeIs P t n') (hn : d.cellL.length = n') (hk : H k = some (.mat t1 t2 nb n m n2 g)) (hc : Nat.ble (c + d.cellL.length) m = true) (he : e < n) (hz : z < n2) :
  Loc P N o E H ⟨[k], o.dst, .any, [(k, some (.mat t1 t2 nb n m n2 (setG g e (setE (g e) z c d.cellL))))], []⟩ := by
 refine ⟨rfl, by simp [ho], fun E1 H1 h1 h2 h3 S a w hN hR K Q hK => ?_⟩
 obtain ⟨Z, i, hF⟩ := hR
 replace hc := Nat.le_of_ble_eq_true hc
 have e1 := hF.opd (Opd.agree (x := x) (by simp [ho, Op.operands]) h1 hx)
 have e2 := hF.opd (Opd.agree (x := y) (by simp [ho, Op.operands]) h1 hy)
 obtain ⟨c1, c2⟩ := (e2.nm (i' := noN) hp (fun k x hk => by cases hk)).cells hf
 generalize hv : a.eval x = v at e1
 cases e1 with | @eptrr _ r cp _ _ _ _ _ b cap hib hr =>
 have hk1 := (h2 k (by simp)).trans hk
 obtain ⟨_, _, cs, hB, hs, hnc, hfl, hall⟩ := hF.row hk1 hib he hr
 have hfe := hfl z hz
 have hle : (z + 1) * m ≤ cap * m := Nat.mul_le_mul_right _ (by omega)
 rw [Nat.add_mul] at hle
 unfold Oper.wp
 rw [run_storeOp ho hv rfl (by rw [c1, hn]; exact hS) hB (by rw [c1, hs]; omega) (fun j hj => (c2 j (by rw [← c1]; exact hj)).1)]
 have hl : cs.toList.length = cap * m := by simpa using hs
 have hl2 : (a.eval y).cells.toList.length = d.cellL.length := by simpa using c1
 obtain ⟨L, hL⟩ : ∃ L, cs.toList.take (z * m + c) ++ (a.eval y).cells.toList ++ cs.toList.drop (z * m + c + (a.eval y).cells.toList.length) = L := ⟨_, rfl⟩
 have key : ∀ j, L.toArray.getD j undef = if z * m + c ≤ j ∧ j < z * m + c + d.cellL.length then (a.eval y).cells.getD (j - (z * m + c)) undef else cs.getD j undef := fun j => by
  rw [toArray_getD, ← hL, List.append_assoc, getD_seg undef cs.toList (a.eval y).cells.toList (z * m + c) j (by rw [hl, hl2]; omega), hl2, ← toArray_getD, ← toArray_getD, Array.toArray_toList, Array.toArray_toList]
 have hLl : L.length = cap * m := by rw [← hL]; simp; omega
 rw [hL]
 refine hK _ _ ⟨Z, i, ?_⟩
 rw [hd]
 refine hF.turnM (f := setE (g e) z c d.cellL) (w' := w.setRow b L.toArray) hk1 hib he hr ⟨rfl, rfl, rfl, by simp⟩ (fun y _ hy => setRow_other _ _ _ _ hy) (fun mm => ⟨_, setRow_heap _ _ _ _ _ _ hB, by simpa using hLl, hnc, fun e' he' => ?_, fun e' c' he' hc' => ?_⟩)
 ·unfold setE; split
  ·subst_vars; rw [setL_len (by omega)]
  ·exact hfl e' he'
 ·rw [key]
  have mr : ∀ {v : Value} {d : D}, Rep Z w noN v d → Rep Z (w.setRow b L.toArray) noN v d := fun hv => hv.mem (fun o x hx => ⟨hx, mm o x hx⟩)
  by_cases q : e' = z
  ·subst q
   have e3 : setE (g e) e' c d.cellL e' = setL (g e e') c d.cellL := if_pos rfl
   rw [e3, setL_at (by omega)]
   by_cases q2 : c ≤ c' ∧ c' < c + d.cellL.length
   ·rw [if_pos (by omega), if_pos q2, show e' * m + c' - (e' * m + c) = c' - c by omega]
    have := c2 (c' - c) (by omega)
    exact ⟨this.1, mr this.2⟩
   ·rw [if_neg (by omega), if_neg q2]
    have := hall e' c' he' hc'
    exact ⟨this.1, mr this.2⟩
  ·have e3 : setE (g e) z c d.cellL e' = g e e' := if_neg q
   have hne : ¬ (z * m + c ≤ e' * m + c' ∧ e' * m + c' < z * m + c + d.cellL.length) := by
    rcases Nat.lt_or_gt_of_ne q with q | q
    ·have : (e' + 1) * m ≤ z * m := Nat.mul_le_mul_right _ (by omega)
     rw [Nat.add_mul] at this; omega
    ·have : (z + 1) * m ≤ e' * m := Nat.mul_le_mul_right _ (by omega)
     rw [Nat.add_mul] at this; omega
   rw [e3, if_neg hne]
   have := hall e' c' he' hc'
   exact ⟨this.1, mr this.2⟩
/-! ### Rows come in -/
/-- The rows there are, then one. -/
def putG (n : Nat) (g : Nat → Nat → List D) (f : Nat → List D) (e : Nat) : Nat → List D := match Nat.blt e n with | true => g e | false => f
theorem ArrAt.less {b cap : Nat} {t : TypeId} {n n' m : Nat} {f : Nat → List D} (h : ArrAt Z w b cap t n m f) (hn : n' ≤ n) : ArrAt Z w b cap t n' m f := by
 obtain ⟨cs, h1, h2, h3, h4, h5⟩ := h
 exact ⟨cs, h1, h2, by omega, fun e he => h4 e (by omega), fun e c he hc => h5 e c (by omega) hc⟩
/-- A row becomes one of a box. -/
theorem loc_store_mat {t t1 t2 : TypeId} {x y : Operand} {k kr nb n n' m2 n2 : Nat} {g : Nat → Nat → List D} {f : Nat → List D} (ho : o.op = .store t x y) (hd : o.dst = none) (hx : Opd E x (.eptr k 1 n 0)) (hy : Opd E y (.sl kr m2 n2)) (hS : SizeIs P t 1) (hk : H k = some (.mat t1 t2 nb n m2 n2 g)) (hkr : H kr = some (.arr t2 n' m2 f)) (hn : n < nb) (hn' : n2 ≤ n') (h0 : 0 < n2) (h1k : Nat.ble 1000 k = true) (h1r : Nat.ble 1000 kr = true) :
  Loc P N o E H ⟨[k, kr], o.dst, .any, [(k, some (.mat t1 t2 nb (n + 1) m2 n2 (putG n g f))), (kr, some .gone)], []⟩ := by
 refine ⟨rfl, by simp [ho], fun E1 H1 h1 h2 h3 S a w hN hR K Q hK => ?_⟩
 obtain ⟨Z, i, hF⟩ := hR
 replace h1k := Nat.le_of_ble_eq_true h1k
 replace h1r := Nat.le_of_ble_eq_true h1r
 have e1 := hF.opd (Opd.agree (x := x) (by simp [ho, Op.operands]) h1 hx)
 have e2 := hF.opd (Opd.agree (x := y) (by simp [ho, Op.operands]) h1 hy)
 have hk1 := (h2 k (by simp)).trans hk
 have hk2 := (h2 kr (by simp)).trans hkr
 have hne : k ≠ kr := fun e => by rw [e, hk2] at hk1; cases hk1
 generalize hv : a.eval x = v at e1
 generalize hu : a.eval y = u at e2
 cases e1 with | @eptr _ r cp _ _ _ _ hib =>
 cases e2 with
 | sl0 => omega
 | @sl _ b _ _ _ cb hir q1 q2 =>
 rcases hF.box k _ hk1 with ⟨_, _, e1, e2, e3, e4, cs, hB, hs, hnb, hnn, hrw, hinj, htl⟩ | ⟨q, _⟩
 ·rw [hib] at e1; cases e1
  rcases hF.box kr _ hk2 with ⟨_, _, f1, f2, f3, f4, hA⟩ | ⟨q, _⟩
  ·rw [hir] at f1; cases f1
   have hfr : Foot (.mat t1 t2 nb n m2 n2 g) (i k) r := .root hib
   have hfb : Foot (.arr t2 n' m2 f) (i kr) b := .root hir
   have hbr : b ≠ r := fun e => hne (hF.inj k kr _ _ r hk1 hk2 rfl rfl hfr (e ▸ hfb))
   have hcells : (Value.slice (some ⟨b, 0, none⟩) n2 cb.c).cells = #[Value.slice (some ⟨b, 0, none⟩) n2 cb.c] := rfl
   unfold Oper.wp
   rw [run_storeOp (v := Value.slice (some ⟨b, 0, none⟩) n2 cb.c) ho (hv.trans (by rw [Nat.mul_one, Nat.add_zero])) hu (by rw [hcells]; exact hS) hB (by rw [hcells, hs]; simp; omega) (fun j hj => by
    rw [hcells] at hj ⊢
    obtain rfl : j = 0 := by simpa using hj
    rfl)]
   rw [hcells]
   obtain ⟨Lx, hL⟩ : ∃ Lx, cs.toList.take n ++ #[Value.slice (some ⟨b, 0, none⟩) n2 cb.c].toList ++ cs.toList.drop (n + #[Value.slice (some ⟨b, 0, none⟩) n2 cb.c].toList.length) = Lx := ⟨_, rfl⟩
   rw [hL]
   have key : ∀ j, Lx.toArray.getD j undef = if j = n then Value.slice (some ⟨b, 0, none⟩) n2 cb.c else cs.getD j undef := fun j => by
    rw [toArray_getD, ← hL, List.append_assoc, getD_seg undef cs.toList #[Value.slice (some ⟨b, 0, none⟩) n2 cb.c].toList n j (by simp; omega), ← toArray_getD cs.toList, Array.toArray_toList]
    by_cases q : j = n
    ·subst q; simp
    ·rw [if_neg (by simp; omega), if_neg q]
   have hLl : Lx.length = cp.c := by rw [← hL]; simp; omega
   have hoth : ∀ z, z ≠ r → (w.setRow r Lx.toArray).heap[z]? = w.heap[z]? := fun z hz => setRow_other _ _ _ _ hz
   have hZo : ∀ o x, Z o x → (w.setRow r Lx.toArray).heap[x]? = w.heap[x]? := fun o x hx => hoth x (fun e => by
    have hxt : Z true x := by cases o; exact hF.zsub x hx; exact hx
    exact (e3 rfl).1 (e ▸ hxt))
   obtain ⟨cp', hcp⟩ : ∃ cp' : Cp, (⟨cp.c, fun e => if e = n then some (b, cb.c) else cp.r e⟩ : Cp) = cp' := ⟨_, rfl⟩
   have hcc : cp'.c = cp.c := by rw [← hcp]
   have hcr : ∀ e, cp'.r e = if e = n then some (b, cb.c) else cp.r e := fun e => by rw [← hcp]
   obtain ⟨i2, hi2⟩ : ∃ i2 : Nm, (fun x => if x = k then some (some (r, cp')) else i x) = i2 := ⟨_, rfl⟩
   have hi2k : i2 k = some (some (r, cp')) := by rw [← hi2]; exact if_pos rfl
   have hi2o : ∀ x, x ≠ k → i2 x = i x := fun x hx => by rw [← hi2]; exact if_neg hx
   have hu1 : ∀ x B, updH H1 [(k, some (.mat t1 t2 nb (n + 1) m2 n2 (putG n g f))), (kr, some .gone)] x = some B → x = k ∧ B = .mat t1 t2 nb (n + 1) m2 n2 (putG n g f) ∨ x = kr ∧ B = .gone ∨ (x ≠ k ∧ x ≠ kr) := fun x B hB => by
    simp only [updH] at hB
    by_cases q : k = x
    ·rw [if_pos q] at hB; cases hB; exact .inl ⟨q.symm, rfl⟩
    ·rw [if_neg q] at hB
     by_cases q' : kr = x
     ·rw [if_pos q'] at hB; cases hB; exact .inr (.inl ⟨q'.symm, rfl⟩)
     ·exact .inr (.inr ⟨Ne.symm q, Ne.symm q'⟩)
   refine hK _ _ ⟨Z, i2, ?_⟩
   rw [hd]
   show Fits S (updE E1 none D.any) _ Z i2 a (w.setRow r Lx.toArray)
   refine hF.stepG (fun x => x = k ∨ x = kr) ⟨rfl, rfl, rfl, by simp⟩ (fun z hz hn => hoth z (fun e => hn k _ (.inl rfl) hk1 rfl (e ▸ hfr))) (fun x hx hL => hi2o x (fun e => by rcases hL with q | q; exact q (.inl e); omega)) (fun x y hxy => ?_) (fun x hx => ?_) (fun x hx e => ?_) (fun x hx e => ?_) (fun x hx e => ?_) (fun o b hb => hb) (fun b hb => .inl hb) (fun b hb => ⟨hF.zsub b hb, hF.zNew b hb⟩) (fun x B hx hB' => ?_) (fun x B z hx hB' hm hf => ?_) (fun x x' B B' z hx hx' hB1 hB2 m1 m2 _ _ => ?_)
   ·by_cases q : x = k
    ·rw [q] at hxy ⊢
     rw [hib] at hxy; cases hxy
     refine ⟨_, hi2k, .inr ⟨r, cp, cp', rfl, rfl, hcc.symm, fun e v hev => ?_⟩⟩
     rw [hcr]
     have : e ≠ n := fun q => by rw [htl e (by omega)] at hev; cases hev
     rw [if_neg this]; exact hev
    ·exact ⟨y, (hi2o x q).trans hxy, .inl rfl⟩
   ·simp only [updH]; rw [if_neg (fun e => hx (.inl e.symm)), if_neg (fun e => hx (.inr e.symm))]
   ·rcases hx with rfl | rfl
    ·simp [updH] at e
    ·simp only [updH, if_true] at e
     split at e <;> cases e
   ·rw [hi2o x (fun q => hx (.inl q))]; exact hF.nil x e
   ·rw [hi2o x (by omega)]; exact hF.nil x e
   ·rcases hu1 x B hB' with ⟨rfl, rfl⟩ | ⟨rfl, rfl⟩ | ⟨q1', q2'⟩
    ·refine .inl ⟨r, cp', hi2k, e2, fun _ => e3 rfl, fun h => (by cases h), Lx.toArray, setRow_heap _ _ _ _ _ _ hB, by simp [hLl, hcc], by rw [hcc]; exact hnb, by omega, fun e he => ?_, fun e e' x c c' he he' hx hx' => ?_, fun e he => ?_⟩
     ·rw [key]
      unfold putG
      by_cases q : e = n
      ·subst q
       rw [if_pos rfl, show Nat.blt e e = false by cases hb : Nat.blt e e; rfl; exact absurd (by rw [Nat.blt_eq] at hb; exact hb) (Nat.lt_irrefl e)]
       refine ⟨b, cb.c, by rw [hcr, if_pos rfl], hbr, rfl, q2, ?_⟩
       have hA' : ArrAt Z w b cb.c t2 n' m2 f := hA
       obtain ⟨cs', hB', hrest⟩ := hA'
       exact ArrAt.less (ArrAt.mem ⟨cs', hB', hrest⟩ (hoth b hbr) (fun o x hx => ⟨hx, hZo o x hx⟩)) hn'
      ·rw [if_neg q, show Nat.blt e n = true by simp; omega]
       obtain ⟨b2, c2, p1, p2, p3, p4, p5⟩ := hrw e (by omega)
       refine ⟨b2, c2, by rw [hcr, if_neg q]; exact p1, p2, p3, p4, ?_⟩
       exact ArrAt.mem p5 (hoth b2 p2) (fun o x hx => ⟨hx, hZo o x hx⟩)
     ·rw [hcr] at hx hx'
      have old : ∀ {e c}, e < n → cp.r e = some (b, c) → False := fun {e c} he hx => hne (hF.inj _ _ (.mat t1 t2 nb n m2 n2 g) _ b hk1 hk2 rfl rfl ⟨r, cp, hib, .inr ⟨e, c, he, hx⟩⟩ hfb)
      by_cases q : e = n <;> by_cases q' : e' = n
      ·omega
      ·rw [if_pos q] at hx; cases hx
       rw [if_neg q'] at hx'
       exact (old (by omega) hx').elim
      ·rw [if_pos q'] at hx'; cases hx'
       rw [if_neg q] at hx
       exact (old (by omega) hx).elim
      ·rw [if_neg q] at hx
       rw [if_neg q'] at hx'
       exact hinj e e' x c c' (by omega) (by omega) hx hx'
     ·rw [hcr, if_neg (by omega)]; exact htl e (by omega)
    ·exact .inl ⟨b, cb, (hi2o x (Ne.symm hne)).trans hir, f2, fun h => (by cases h), fun h => (by cases h), by show b < (w.setRow r Lx.toArray).heap.size; simp; exact (hF.foot x _ b hk2 rfl hfb).1⟩
    ·exact absurd hx (fun h => by rcases h with h | h; exact q1' h; exact q2' h)
   ·rcases hu1 x B hB' with ⟨rfl, rfl⟩ | ⟨rfl, rfl⟩ | ⟨q1', q2'⟩
    ·rw [hi2k] at hf
     obtain ⟨r', cp2, e5, e6⟩ := hf
     cases e5
     rcases e6 with rfl | ⟨e, c, e7, e8⟩
     ·exact .inr ⟨x, _, .inl rfl, fun h => absurd h (by omega), hk1, rfl, hfr⟩
     ·rw [hcr] at e8
      by_cases q : e = n
      ·rw [if_pos q] at e8; cases e8
       exact .inr ⟨kr, _, .inr rfl, fun h => absurd h (by omega), hk2, rfl, hfb⟩
      ·rw [if_neg q] at e8
       exact .inr ⟨x, _, .inl rfl, fun h => absurd h (by omega), hk1, rfl, ⟨r, cp, hib, .inr ⟨e, c, by have : e < n + 1 := e7; show e < n; omega, e8⟩⟩⟩
    ·cases hm
    ·exact absurd hx (fun h => by rcases h with h | h; exact q1' h; exact q2' h)
   ·rcases hx with rfl | rfl
    ·rcases hx' with rfl | rfl
     ·rfl
     ·rcases hu1 _ B' hB2 with ⟨q, _⟩ | ⟨_, rfl⟩ | ⟨_, q⟩
      ·exact absurd q.symm hne
      ·cases m2
      ·exact absurd rfl q
    ·rcases hu1 _ B hB1 with ⟨q, _⟩ | ⟨_, rfl⟩ | ⟨_, q⟩
     ·exact absurd q.symm hne
     ·cases m1
     ·exact absurd rfl q
  ·rw [hir] at q; cases q
 ·rw [hib] at q; cases q
end
end Go.Proofs.Ytmjildbdkecolaa
