/- What may be forgotten, frozen, said otherwise. No walk. -/
import Derived.Test.YtmjildbdkecolaaGreatPsr19
set_option linter.unusedSimpArgs false
set_option linter.unusedVariables false
set_option linter.unnecessarySimpa false
namespace Go.Proofs.YtmjildbdkecolaaGreat
open Go.RowKit

/-- Data of a slot, said otherwise. -/
def SlotCv (H : Nat → Option Box) (d d' : D) : Prop := ∀ S E a w Z i v, Fits S E H Z i a w → Rep Z w i v d → Rep Z w i v d'
theorem SlotCv.refl {H : Nat → Option Box} (d : D) : SlotCv H d d := fun _ _ _ _ _ _ _ _ h => h
theorem SlotCv.any {H : Nat → Option Box} (d : D) : SlotCv H d .any := fun _ _ _ _ _ _ _ _ _ => .any _ _
theorem SlotCv.cvt {H : Nat → Option Box} {d d' : D} (h : Cvt d d') : SlotCv H d d' := fun _ _ _ _ _ _ _ hF hv => h.cv hF.zsub hv
theorem SlotCv.eq {H : Nat → Option Box} {d d' : D} (h : d = d') : SlotCv H d d' := h ▸ .refl d
theorem SlotCv.trans {H : Nat → Option Box} {a b c : D} (h : SlotCv H a b) (k : SlotCv H b c) : SlotCv H a c := fun S E x w Z i v hF hv => k S E x w Z i v hF (h S E x w Z i v hF hv)
/-- What is frozen, as frozen. -/
theorem SlotCv.ice {H : Nat → Option Box} {ns : List Nat} {d d' : D} (h : CvV false [] ns H d d') : SlotCv H d d' := fun S E a w Z i v hF hv => by
 refine ((h H (fun _ _ => rfl) S E a w Z i v hF (fun k hk => by cases hk) hv).mem (Z' := Z) (fun o b hz => ⟨?_, rfl⟩)).of_noN
 rcases hz with q | ⟨q, _⟩
 ·exact q
 ·cases q
inductive EnvCv (H : Nat → Option Box) (env : List (Nat × D)) : List (Nat × D) → Prop where
 | nil : EnvCv H env []
 | cons {t : Nat} {d : D} {l : List (Nat × D)} (h : SlotCv H (lk env t) d) (k : EnvCv H env l) : EnvCv H env ((t, d) :: l)
theorem EnvCv.at {H : Nat → Option Box} {env env' : List (Nat × D)} (h : EnvCv H env env') (t : Nat) : SlotCv H (lk env t) (lk env' t) := by
 induction h with
 | nil => exact .any _
 | @cons s d l h k ih =>
  simp only [lk]
  by_cases q : s = t
  ·subst q; simpa using h
  ·rw [beq_ne q]; exact ih
inductive SlotCvL (H : Nat → Option Box) : List D → List D → Prop where
 | nil : SlotCvL H [] []
 | cons {d d' : D} {l l' : List D} (h : SlotCv H d d') (k : SlotCvL H l l') : SlotCvL H (d :: l) (d' :: l')
theorem SlotCvL.len {H : Nat → Option Box} {l l' : List D} (h : SlotCvL H l l') : l.length = l'.length := by induction h with | nil => rfl | cons _ _ ih => simp [ih]
theorem SlotCvL.at {H : Nat → Option Box} {l l' : List D} (h : SlotCvL H l l') : ∀ j, SlotCv H (dl l j) (dl l' j) := by
 induction h with
 | nil => intro j; exact .refl _
 | cons h _ ih => intro j; cases j with
  | zero => exact h
  | succ j => exact ih j
/-- A box, said otherwise. -/
inductive BoxCv (H : Nat → Option Box) : Option Box → Box → Prop where
 | refl (B : Box) : BoxCv H (some B) B
 | gone (B : Box) : BoxCv H (some B) .gone
 | arr {t : TypeId} {n n' m : Nat} {f f' : Nat → List D} (hn : n' ≤ n) (h : ∀ e, e < n' → (f' e).length = m ∧ ∀ c, c < m → Cvt (dl (f e) c) (dl (f' e) c)) : BoxCv H (some (.arr t n m f)) (.arr t n' m f')
 | ice {t : TypeId} {n n' m : Nat} {f f' : Nat → List D} (hn : n' ≤ n) (h : ∀ e, e < n' → (f' e).length = m ∧ ∀ c, c < m → Cvt (dl (f e) c) (dl (f' e) c)) : BoxCv H (some (.ice t n m f)) (.ice t n' m f')
 | mat {t t2 : TypeId} {nb n m2 n2 : Nat} {g g' : Nat → Nat → List D} (h : ∀ e, e < n → ∀ x, x < n2 → (g' e x).length = m2 ∧ ∀ c, c < m2 → Cvt (dl (g e x) c) (dl (g' e x) c)) : BoxCv H (some (.mat t t2 nb n m2 n2 g)) (.mat t t2 nb n m2 n2 g')
 | lit {t : TypeId} {l l' : List D} (h : SlotCvL H l l') : BoxCv H (some (.lit t l)) (.lit t l')
inductive BoxesCv (H : Nat → Option Box) (box : List (Nat × Option Box)) : List (Nat × Option Box) → Prop where
 | nil : BoxesCv H box []
 | cons {k : Nat} {B : Box} {l : List (Nat × Option Box)} (h : BoxCv H (hk box k) B) (r : BoxesCv H box l) : BoxesCv H box ((k, some B) :: l)
section
variable {ro : Option Nat} {P : Program} {N : Nat} {Q : Post} {c : Code} {S : Cx} {E : Nat → D} {H : Nat → Option Box} {Z : Zn} {i i' : Nm} {a : Act} {w : World} {env env' : List (Nat × D)} {box box' : List (Nat × Option Box)}
theorem ArrAt.cvt {b cap : Nat} {t : TypeId} {n n' m : Nat} {f f' : Nat → List D} (hz : ∀ b, Z false b → Z true b) (h : ArrAt Z w b cap t n m f) (hn : n' ≤ n) (hf : ∀ e, e < n' → (f' e).length = m ∧ ∀ c, c < m → Cvt (dl (f e) c) (dl (f' e) c)) : ArrAt Z w b cap t n' m f' := by
 obtain ⟨cs, h1, h2, h3, h4, h5⟩ := h
 exact ⟨cs, h1, h2, by omega, fun e he => (hf e he).1, fun e c he hc => ⟨(h5 e c (by omega) hc).1, ((hf e he).2 c hc).cv hz (h5 e c (by omega) hc).2⟩⟩
theorem BoxCv.ok (hF : Fits S E H Z i a w) {k : Nat} {B : Box} {p : Nat → Bool} (h : BoxCv H (H k) B) (hp : B.free p = true) (hi : ∀ k x, p k = true → i k = some x → i' k = some x) (hk : i' k = i k) : BoxOk S Z w i' k B := by
 generalize hq : H k = oB at h
 cases h with
 | refl B =>
  rcases hF.box k B hq with ⟨b, cap, e1, e2, e3, e4, e5⟩ | ⟨e1, e2⟩
  ·exact .inl ⟨b, cap, hk.trans e1, e2, e3, e4, e5.nm hp hi⟩
  ·exact .inr ⟨hk.trans e1, e2⟩
 | gone B =>
  rcases hF.box k B hq with ⟨b, cap, e1, e2, e3, e4, e5⟩ | ⟨e1, e2⟩
  ·exact .inl ⟨b, cap, hk.trans e1, e2, fun h => (by cases h), fun h => (by cases h), e5.lt⟩
  ·exact .inr ⟨hk.trans e1, .inl rfl⟩
 | @arr t n n' m f f' hn h =>
  rcases hF.box k _ hq with ⟨b, cap, e1, e2, e3, e4, e5⟩ | ⟨e1, e2⟩
  ·exact .inl ⟨b, cap, hk.trans e1, e2, e3, fun h => (by cases h), ArrAt.cvt hF.zsub e5 hn h⟩
  ·rcases e2 with e2 | ⟨t', m', f2, e2 | e2⟩ | ⟨_, _, _, _, _, e2⟩
   ·cases e2
   ·cases e2
    obtain rfl : n' = 0 := by omega
    exact .inr ⟨hk.trans e1, .inr (.inl ⟨_, _, _, .inl rfl⟩)⟩
   ·cases e2
   ·cases e2
 | @ice t n n' m f f' hn h =>
  rcases hF.box k _ hq with ⟨b, cap, e1, e2, e3, e4, e5⟩ | ⟨e1, e2⟩
  ·exact .inl ⟨b, cap, hk.trans e1, e2, fun h => (by cases h), e4, e5.imp fun _ e5 => ArrAt.cvt hF.zsub e5 hn h⟩
  ·rcases e2 with e2 | ⟨t', m', f2, e2 | e2⟩ | ⟨_, _, _, _, _, e2⟩
   ·cases e2
   ·cases e2
   ·cases e2
    obtain rfl : n' = 0 := by omega
    exact .inr ⟨hk.trans e1, .inr (.inl ⟨_, _, _, .inr rfl⟩)⟩
   ·cases e2
 | @mat t t2 nb n m2 n2 g g' h =>
  rcases hF.box k _ hq with ⟨b, cap, e1, e2, e3, e4, e5⟩ | ⟨e1, e2⟩
  ·exact .inl ⟨b, cap, hk.trans e1, e2, e3, fun h => (by cases h), MatAt.map e5 rfl (fun e x c he hx ⟨cs, f1, f2, f3, f4, f5⟩ => ⟨cs, f1, f2, f3, fun y hy => (h e he y hy).1, fun y c hy hc => ⟨(f5 y c hy hc).1, ((h e he y hy).2 c hc).cv hF.zsub (f5 y c hy hc).2⟩⟩)⟩
  ·rcases e2 with e2 | ⟨t', m', f2, e2 | e2⟩ | ⟨_, _, _, _, _, e2⟩
   ·cases e2
   ·cases e2
   ·cases e2
   ·cases e2
    exact .inr ⟨hk.trans e1, .inr (.inr ⟨_, _, _, _, _, rfl⟩)⟩
 | @lit t l l' h =>
  rcases hF.box k _ hq with ⟨b, cap, e1, e2, e3, e4, cs, f1, f2, f3⟩ | ⟨e1, e2⟩
  ·refine .inl ⟨b, cap, hk.trans e1, e2, e3, fun h => (by cases h), BoxAt.nm (B := .lit t l') ⟨cs, f1, f2.trans h.len, fun j hj => ⟨(f3 j (by rw [h.len]; exact hj)).1, h.at j S E a w Z i _ hF (f3 j (by rw [h.len]; exact hj)).2⟩⟩ hp hi⟩
  ·rcases e2 with e2 | ⟨t', m', f2, e2 | e2⟩ | ⟨_, _, _, _, _, e2⟩ <;> cases e2
def boxFree (p : Nat → Bool) : List (Nat × Option Box) → Bool
 | [] => true
 | (_, some B) :: l => B.free p && boxFree p l
 | (_, none) :: _ => false
def envFree (p : Nat → Bool) : List (Nat × D) → Bool
 | [] => true
 | (_, d) :: l => d.free p && envFree p l
theorem envFree_at {p : Nat → Bool} : ∀ {l : List (Nat × D)}, envFree p l = true → ∀ t, (lk l t).free p = true
 | [], _, t => rfl
 | (s, d) :: l, h, t => by
  simp only [envFree, Bool.and_eq_true] at h
  simp only [lk]
  by_cases q : s = t
  ·subst q; simpa using h.1
  ·rw [beq_ne q]; exact envFree_at h.2 t
theorem boxFree_at {p : Nat → Bool} : ∀ {l : List (Nat × Option Box)}, boxFree p l = true → ∀ k B, hk l k = some B → B.free p = true
 | [], _, k, B, h => by cases h
 | (s, some C) :: l, h, k, B, hB => by
  simp only [boxFree, Bool.and_eq_true] at h
  simp only [hk] at hB
  by_cases q : s = k
  ·subst q; simp at hB; subst hB; exact h.1
  ·rw [beq_ne q] at hB; exact boxFree_at h.2 k B hB
theorem BoxesCv.at (h : BoxesCv H box box') {k : Nat} {B : Box} (hB : hk box' k = some B) : BoxCv H (hk box k) B := by
 induction h with
 | nil => cases hB
 | @cons x C l h r ih =>
  simp only [hk] at hB
  by_cases q : x = k
  ·subst q; simp at hB; subst hB; exact h
  ·rw [beq_ne q] at hB; exact ih hB
theorem BoxCv.mut {oB : Option Box} {B : Box} (h : BoxCv H oB B) (hm : B.mut = true) : ∃ B0, oB = some B0 ∧ B0.mut = true := by
 cases h with
 | refl => exact ⟨_, rfl, hm⟩
 | gone => cases hm
 | arr => exact ⟨_, rfl, rfl⟩
 | ice => cases hm
 | mat => exact ⟨_, rfl, rfl⟩
 | lit => exact ⟨_, rfl, rfl⟩
theorem BoxCv.foot {oB : Option Box} {B B0 : Box} (h : BoxCv H oB B) (hB : oB = Option.some B0) {x : Option (Option (Nat × Cp))} {b : Nat} (hf : Foot B x b) : Foot B0 x b := by
 cases h with
 | refl => cases hB; exact hf
 | mat => cases hB; exact hf
 | gone => obtain ⟨cp, e⟩ := hf.flat rfl; exact .root e
 | arr => obtain ⟨cp, e⟩ := hf.flat rfl; exact .root e
 | ice => obtain ⟨cp, e⟩ := hf.flat rfl; exact .root e
 | lit => obtain ⟨cp, e⟩ := hf.flat rfl; exact .root e
theorem BoxCv.some {oB : Option Box} {B : Box} (h : BoxCv H oB B) : oB ≠ none := by cases h <;> simp
/-- LESS, OR ELSE. -/
theorem repS_weak (env' : List (Nat × D)) (box' : List (Nat × Option Box)) (hE : EnvCv (hk box) env env') (hB : BoxesCv (hk box) box box')
  (hf : (envFree (fun k => (hk box' k).isSome) env' && boxFree (fun k => (hk box' k).isSome) box') = true) (hlow : (box.all fun x => Nat.ble 1000 x.1 || (hk box' x.1).isSome) = true) (hR : RepS S (lk env) (hk box) a w) : RepS S (lk env') (hk box') a w := by
 obtain ⟨Z, i, hF⟩ := hR
 rw [Bool.and_eq_true] at hf
 refine ⟨Z, fun k => if (hk box' k).isSome then i k else none, ?_⟩
 have hi : ∀ k x, (hk box' k).isSome = true → i k = some x → (fun k => if (hk box' k).isSome then i k else none) k = some x := fun k x q e => by simp only [q, if_true, e]
 have hlo : ∀ k, k < 1000 → hk box' k = none → i k = none := fun k hk1 hk2 => by
  refine hF.nil k ?_
  cases hq : hk box k with
  | none => rfl
  | some B =>
   exfalso
   have : ∀ (l : List (Nat × Option Box)), hk l k ≠ none → ∃ B, (k, B) ∈ l := by
    intro l
    induction l with
    | nil => intro h; exact absurd rfl h
    | cons x l ih =>
     intro h
     obtain ⟨x1, x2⟩ := x
     by_cases q : x1 = k
     ·subst q; exact ⟨x2, by simp⟩
     ·simp only [hk, beq_ne q] at h
      obtain ⟨B, hB⟩ := ih h
      exact ⟨B, by simp [hB]⟩
   obtain ⟨B', hm⟩ := this box (by rw [hq]; simp)
   have := List.all_eq_true.1 hlow _ hm
   simp only [hk2] at this
   simp at this
   omega
 refine { defers := hF.defers, size := hF.size, kept := hF.kept, kept1 := hF.kept1, zk1 := hF.zk1, zsub := hF.zsub, zOld := hF.zOld, zNew := hF.zNew, env := fun t => ((hE.at t) S _ a w Z i _ hF (hF.env t)).nm (envFree_at hf.1 t) hi, box := fun k B hkB => ?_, foot := fun k B b hkB hm hf => ?_, nil := fun k hk' => ?_, low := fun k hk' => ?_, inj := fun k k' B B' b h1 h2 m1 m2 e1 e2 => ?_ }
 ·have hs : (hk box' k).isSome = true := by rw [hkB]; rfl
  exact BoxCv.ok hF (hB.at hkB) (boxFree_at hf.2 k B hkB) hi (if_pos hs)
 ·obtain ⟨B0, q1, q2⟩ := (hB.at hkB).mut hm
  simp only [hkB, Option.isSome, if_true] at hf ⊢
  exact hF.foot k B0 b q1 q2 ((hB.at hkB).foot q1 hf)
 ·simp [hk']
 ·cases hq : hk box' k with
  | some B => simp; exact hF.low k hk'
  | none => simp; rw [← hF.low k hk']; exact (hlo k hk' hq).symm
 ·obtain ⟨B0, q1, q2⟩ := (hB.at h1).mut m1
  obtain ⟨B0', q1', q2'⟩ := (hB.at h2).mut m2
  simp only [h1, h2, Option.isSome, if_true] at e1 e2
  exact hF.inj k k' B0 B0' b q1 q1' q2 q2' ((hB.at h1).foot q1 e1) ((hB.at h2).foot q1' e2)
/-- One slot, said otherwise. -/
theorem sub_conv (t : Nat) (d : D) {d0 : D} (ht : lk env t = d0) (hc : SlotCv (hk box) d0 d) : Sub (lk env) (hk box) (lk ((t, d) :: env)) (hk box) := fun S a w hR => by
 obtain ⟨Z, i, hF⟩ := hR
 refine ⟨Z, i, { hF with env := fun s => ?_ }⟩
 simp only [lk]
 by_cases q : t = s
 ·subst q
  rw [show Nat.beq t t = true by simp]
  exact hc S _ a w Z i _ hF (ht ▸ hF.env t)
 ·rw [beq_ne q]; exact hF.env s
/-- One box, said otherwise. -/
theorem sub_box (k : Nat) (B : Box) (hc : BoxCv (hk box) (hk box k) B) (hf : B.free (fun k => (hk box k).isSome) = true) : Sub (lk env) (hk box) (lk env) (hk ((k, some B) :: box)) := fun S a w hR => by
 obtain ⟨Z, i, hF⟩ := hR
 have hs : ∀ x, hk ((k, some B) :: box) x = if k = x then some B else hk box x := fun x => by
  simp only [hk]
  by_cases q : k = x
  ·subst q; simp
  ·rw [beq_ne q, if_neg q]
 have get : ∀ {x : Nat} {C : Box}, hk ((k, some B) :: box) x = some C → C.mut = true → ∃ C0, hk box x = some C0 ∧ C0.mut = true ∧ ∀ y b, Foot C y b → Foot C0 y b := fun {x C} hx hm => by
   rw [hs] at hx
   by_cases q : k = x
   ·subst q; rw [if_pos rfl] at hx; cases hx
    obtain ⟨B0, q1, q2⟩ := hc.mut hm
    exact ⟨B0, q1, q2, fun y b hf => hc.foot q1 hf⟩
   ·rw [if_neg q] at hx; exact ⟨C, hx, hm, fun _ _ h => h⟩
 refine ⟨Z, i, { hF with box := fun x C hx => ?_, foot := fun x C b hx hm hf => ?_, nil := fun x hx => ?_, inj := fun x x' C C' b h1 h2 m1 m2 e1 e2 => ?_ }⟩
 ·rw [hs] at hx
  by_cases q : k = x
  ·subst q; rw [if_pos rfl] at hx; cases hx
   exact BoxCv.ok hF hc hf (fun k x _ e => e) rfl
  ·rw [if_neg q] at hx; exact hF.box x C hx
 ·obtain ⟨C0, q1, q2, q3⟩ := get hx hm
  exact hF.foot x C0 b q1 q2 (q3 _ _ hf)
 ·rw [hs] at hx
  by_cases q : k = x
  ·rw [if_pos q] at hx; cases hx
  ·rw [if_neg q] at hx; exact hF.nil x hx
 ·obtain ⟨C0, q1, q2, q3⟩ := get h1 m1
  obtain ⟨C0', q1', q2', q3'⟩ := get h2 m2
  exact hF.inj x x' C0 C0' b q1 q1' q2 q2' (q3 _ _ e1) (q3' _ _ e2)
/-- A box is frozen. -/
theorem sub_freeze (k : Nat) {t : TypeId} {n m : Nat} {f : Nat → List D} (hb : hk box k = some (.arr t n m f)) (h100 : Nat.ble 1000 k = true) : Sub (lk env) (hk box) (lk env) (hk ((k, some (.ice t n m f)) :: box)) := fun S a w hR => by
 obtain ⟨Z, i, hF⟩ := hR
 replace h100 := Nat.le_of_ble_eq_true h100
 have hs : ∀ x, hk ((k, some (.ice t n m f)) :: box) x = if k = x then some (.ice t n m f) else hk box x := fun x => by
  simp only [hk]
  by_cases q : k = x
  ·subst q; simp
  ·rw [beq_ne q, if_neg q]
 rcases hF.box k _ hb with ⟨b, cap, e1, e2, e3, _, e5⟩ | ⟨e1, e2⟩
 ·have hbn : S.w0.heap.size ≤ b := by rcases e2 with e2 | ⟨e2, _⟩; exact e2; omega
  refine ⟨fun o x => Z o x ∨ x = b, i, ?_⟩
  refine hF.step (fun x => x = k) ⟨rfl, rfl, rfl, Nat.le_refl _⟩ (fun _ _ _ => rfl) (fun _ _ => rfl) (fun x hx => by rw [hs]; exact if_neg (Ne.symm hx)) (fun x hx e => ?_) (fun x hx e => hF.nil x e) (fun x _ e => hF.nil x e) (fun o b hb => .inl hb) (fun x hx => ?_) (fun x hx => ?_) (fun x B hx hB => ?_) (fun x B b1 hx hB hm _ => by rw [hs, if_pos hx.symm] at hB; cases hB; cases hm) (fun x x' B B' b1 hx hx' _ _ _ _ _ _ => hx.trans hx'.symm)
  ·rw [hs, if_pos hx.symm] at e; cases e
  ·rcases hx with hx | rfl
   ·exact .inl hx
   ·exact .inr ⟨e5.lt, hbn, .inr ⟨k, _, rfl, hb, rfl, .root e1⟩, fun y B hy hB hm _ => by rw [hs, if_pos hy.symm] at hB; cases hB; cases hm⟩
  ·rcases hx with hx | rfl
   ·exact ⟨.inl (hF.zsub x hx), hF.zNew x hx⟩
   ·exact ⟨.inr rfl, hbn⟩
  ·rw [hs, if_pos hx.symm] at hB; cases hB
   subst hx
   exact .inl ⟨b, cap, e1, e2, fun h => (by cases h), fun _ => .inr rfl, cap.c, ArrAt.mem e5 rfl (fun o y hy => ⟨.inl hy, rfl⟩)⟩
 ·rcases e2 with e2 | ⟨t', m', f2, e2 | e2⟩ | ⟨_, _, _, _, _, e2⟩
  ·cases e2
  ·cases e2
   refine ⟨Z, i, ?_⟩
   refine hF.step (fun x => x = k) ⟨rfl, rfl, rfl, Nat.le_refl _⟩ (fun _ _ _ => rfl) (fun _ _ => rfl) (fun x hx => by rw [hs]; exact if_neg (Ne.symm hx)) (fun x hx e => ?_) (fun x hx e => hF.nil x e) (fun x _ e => hF.nil x e) (fun o b hb => hb) (fun x hx => .inl hx) (fun x hx => ⟨hF.zsub x hx, hF.zNew x hx⟩) (fun x B hx hB => ?_) (fun x B b1 hx hB hm _ => by rw [hs, if_pos hx.symm] at hB; cases hB; cases hm) (fun x x' B B' b1 hx hx' _ _ _ _ _ _ => hx.trans hx'.symm)
   ·rw [hs, if_pos hx.symm] at e; cases e
   ·rw [hs, if_pos hx.symm] at hB; cases hB
    subst hx
    exact .inr ⟨e1, .inr (.inl ⟨_, _, _, .inr rfl⟩)⟩
  ·cases e2
  ·cases e2
/-- A variable is frozen. -/
theorem sub_frz (k : Nat) {t : TypeId} {l : List D} (hb : hk box k = some (.lit t l)) (h100 : Nat.ble 1000 k = true) (hfr : D.free.freeL (fun _ => false) l = true) : Sub (lk env) (hk box) (lk env) (hk ((k, some (.ice t 1 l.length (fun _ => l))) :: box)) := fun S a w hR => by
 obtain ⟨Z, i, hF⟩ := hR
 replace h100 := Nat.le_of_ble_eq_true h100
 have hs : ∀ x, hk ((k, some (.ice t 1 l.length (fun _ => l))) :: box) x = if k = x then some (.ice t 1 l.length (fun _ => l)) else hk box x := fun x => by
  simp only [hk]
  by_cases q : k = x
  ·subst q; simp
  ·rw [beq_ne q, if_neg q]
 rcases hF.box k _ hb with ⟨b, cap, e1, e2, e3, _, e5⟩ | ⟨e1, e2⟩
 ·have hbn : S.w0.heap.size ≤ b := by rcases e2 with e2 | ⟨e2, _⟩; exact e2; omega
  obtain ⟨cs, f1, f2, f3⟩ := e5
  refine ⟨fun o x => Z o x ∨ x = b, i, ?_⟩
  refine hF.step (fun x => x = k) ⟨rfl, rfl, rfl, Nat.le_refl _⟩ (fun _ _ _ => rfl) (fun _ _ => rfl) (fun x hx => by rw [hs]; exact if_neg (Ne.symm hx)) (fun x hx e => ?_) (fun x hx e => hF.nil x e) (fun x _ e => hF.nil x e) (fun o b hb => .inl hb) (fun x hx => ?_) (fun x hx => ?_) (fun x B hx hB => ?_) (fun x B b1 hx hB hm _ => by rw [hs, if_pos hx.symm] at hB; cases hB; cases hm) (fun x x' B B' b1 hx hx' _ _ _ _ _ _ => hx.trans hx'.symm)
  ·rw [hs, if_pos hx.symm] at e; cases e
  ·rcases hx with hx | rfl
   ·exact .inl hx
   ·exact .inr ⟨f1.lt, hbn, .inr ⟨k, _, rfl, hb, rfl, .root e1⟩, fun y B hy hB hm _ => by rw [hs, if_pos hy.symm] at hB; cases hB; cases hm⟩
  ·rcases hx with hx | rfl
   ·exact ⟨.inl (hF.zsub x hx), hF.zNew x hx⟩
   ·exact ⟨.inr rfl, hbn⟩
  ·rw [hs, if_pos hx.symm] at hB; cases hB
   subst hx
   refine .inl ⟨b, cap, e1, e2, fun h => (by cases h), fun _ => .inr rfl, 1, cs, f1, by rw [f2]; simp, Nat.le_refl _, fun _ _ => rfl, fun e c he hc => ?_⟩
   obtain rfl : e = 0 := by omega
   rw [Nat.zero_mul, Nat.zero_add]
   exact ⟨(f3 c hc).1, ((f3 c hc).2.nm (i' := noN) (freeL_at hfr c hc) (fun k x hk => by cases hk)).mem (fun o y hy => ⟨.inl hy, rfl⟩)⟩
 ·rcases e2 with e2 | ⟨t', m', f2, e2 | e2⟩ | ⟨_, _, _, _, _, e2⟩ <;> cases e2
/-- A nil slice gets a name. -/
theorem sub_nilB (t k m : Nat) (B : Box) (hNB : ((∃ t m f, B = .arr t 0 m f ∨ B = .ice t 0 m f) ∨ ∃ t t2 m2 n2 g, B = .mat t t2 0 0 m2 n2 g)) (ht : lk env t = .val (.slice none 0 0)) (hb : hk box k = none) (h100 : Nat.ble 1000 k = true) : Sub (lk env) (hk box) (lk ((t, .sl k m 0) :: env)) (hk ((k, some B) :: box)) := fun S a w hR => by
 obtain ⟨Z, i, hF⟩ := hR
 replace h100 := Nat.le_of_ble_eq_true h100
 have hs : ∀ x, hk ((k, some B) :: box) x = if k = x then some B else hk box x := fun x => by
  simp only [hk]
  by_cases q : k = x
  ·subst q; simp
  ·rw [beq_ne q, if_neg q]
 have hF2 : Fits S (lk env) (hk ((k, some B) :: box)) Z (fun x => if x = k then some none else i x) a w := by
  refine hF.step (fun x => x = k) ⟨rfl, rfl, rfl, Nat.le_refl _⟩ (fun _ _ _ => rfl) (fun x hx => if_neg (fun e => hx (by rw [e]; exact hb))) (fun x hx => by rw [hs]; exact if_neg (Ne.symm hx)) (fun x hx e => ?_) (fun x hx e => ?_) (fun x hx e => ?_) (fun o b hb => hb) (fun x hx => .inl hx) (fun x hx => ⟨hF.zsub x hx, hF.zNew x hx⟩) (fun x B1 hx hB => ?_) (fun x B1 b hx hB hm hf => by obtain ⟨_, _, e, _⟩ := hf; simp only [if_pos hx] at e; cases e) (fun x x' B B' b1 hx hx' _ _ _ _ _ _ => hx.trans hx'.symm)
  ·rw [hs, if_pos hx.symm] at e; cases e
  ·show (if x = k then _ else _) = none; rw [if_neg hx]; exact hF.nil x e
  ·show (if x = k then _ else _) = none; rw [if_neg (by omega)]; exact hF.nil x e
  ·rw [hs, if_pos hx.symm] at hB; cases hB
   exact .inr ⟨if_pos hx, .inr hNB⟩
 refine ⟨Z, _, { hF2 with env := fun s => ?_ }⟩
 simp only [lk]
 by_cases q : t = s
 ·subst q
  rw [show Nat.beq t t = true by simp]
  have := hF.env t
  rw [ht] at this
  rw [this.valEq]
  exact .sl0 _ _ _ (by simp)
 ·rw [beq_ne q]; exact hF2.env s
/-- A nil slice in a variable gets a name. -/
theorem sub_nilcellB (kb cc k m : Nat) (B : Box) (hNB : ((∃ t m f, B = .arr t 0 m f ∨ B = .ice t 0 m f) ∨ ∃ t t2 m2 n2 g, B = .mat t t2 0 0 m2 n2 g)) {tb : TypeId} {ds ds' : List D} (hl : hk box kb = some (.lit tb ds)) (hds : dl ds cc = .val (.slice none 0 0)) (hds' : setL ds cc [.sl k m 0] = ds') (hcl : Nat.blt cc ds.length = true) (hb : hk box k = none) (h100 : Nat.ble 1000 k = true) : Sub (lk env) (hk box) (lk env) (hk ((kb, some (.lit tb ds')) :: (k, some B) :: box)) := fun S a w hR => by
 obtain ⟨Z, i, hF⟩ := hR
 replace h100 := Nat.le_of_ble_eq_true h100
 replace hcl : cc < ds.length := by simpa using hcl
 have hne : kb ≠ k := fun e => by rw [e, hb] at hl; cases hl
 have hs : ∀ x, hk ((k, some B) :: box) x = if k = x then some B else hk box x := fun x => by
  simp only [hk]
  by_cases q : k = x
  ·subst q; simp
  ·rw [beq_ne q, if_neg q]
 have hF2 : Fits S (lk env) (hk ((k, some B) :: box)) Z (fun x => if x = k then some none else i x) a w := by
  refine hF.step (fun x => x = k) ⟨rfl, rfl, rfl, Nat.le_refl _⟩ (fun _ _ _ => rfl) (fun x hx => if_neg (fun e => hx (by rw [e]; exact hb))) (fun x hx => by rw [hs]; exact if_neg (Ne.symm hx)) (fun x hx e => ?_) (fun x hx e => ?_) (fun x hx e => ?_) (fun o b hb => hb) (fun x hx => .inl hx) (fun x hx => ⟨hF.zsub x hx, hF.zNew x hx⟩) (fun x B1 hx hB => ?_) (fun x B1 b hx hB hm hf => by obtain ⟨_, _, e, _⟩ := hf; simp only [if_pos hx] at e; cases e) (fun x x' B B' b1 hx hx' _ _ _ _ _ _ => hx.trans hx'.symm)
  ·rw [hs, if_pos hx.symm] at e; cases e
  ·show (if x = k then _ else _) = none; rw [if_neg hx]; exact hF.nil x e
  ·show (if x = k then _ else _) = none; rw [if_neg (by omega)]; exact hF.nil x e
  ·rw [hs, if_pos hx.symm] at hB; cases hB
   exact .inr ⟨if_pos hx, .inr hNB⟩
 have hs2 : ∀ x, hk ((kb, some (.lit tb ds')) :: (k, some B) :: box) x = if kb = x then some (.lit tb ds') else hk ((k, some B) :: box) x := fun x => by
  by_cases q : kb = x
  ·subst q; simp [hk]
  ·rw [if_neg q]; simp only [hk]; rw [beq_ne q]
 have hl2 : hk ((k, some B) :: box) kb = some (.lit tb ds) := by rw [hs, if_neg (Ne.symm hne)]; exact hl
 have get : ∀ {x : Nat} {C : Box}, hk ((kb, some (.lit tb ds')) :: (k, some B) :: box) x = some C → C.mut = true → ∃ C0, hk ((k, some B) :: box) x = some C0 ∧ C0.mut = true ∧ ∀ y b, Foot C y b → Foot C0 y b := fun {x C} hx hm => by
   rw [hs2] at hx
   by_cases q : kb = x
   ·subst q; rw [if_pos rfl] at hx; cases hx; exact ⟨_, hl2, rfl, fun _ _ h => h⟩
   ·rw [if_neg q] at hx; exact ⟨C, hx, hm, fun _ _ h => h⟩
 refine ⟨Z, _, { hF2 with box := fun x C hx => ?_, foot := fun x C b hx hm hf => ?_, nil := fun x hx => ?_, inj := fun x x' C C' b h1 h2 m1 m2 e1 e2 => ?_ }⟩
 ·rw [hs2] at hx
  by_cases q : kb = x
  ·subst q; rw [if_pos rfl] at hx; cases hx
   rcases hF2.box kb _ hl2 with ⟨b, cap, e1, e2, e3, e4, cs, f1, f2, f3⟩ | ⟨e1, e2⟩
   ·refine .inl ⟨b, cap, e1, e2, e3, fun h => (by cases h), cs, f1, by rw [← hds', setL_len (by simp; omega)]; exact f2, fun j hj => ?_⟩
    rw [← hds', setL_len (by simp; omega)] at hj
    rw [← hds', setL_at (by simp; omega)]
    by_cases q2 : cc ≤ j ∧ j < cc + [D.sl k m 0].length
    ·rw [if_pos q2]
     obtain rfl : cc = j := by simp at q2; omega
     have := f3 cc hj
     rw [hds] at this
     refine ⟨this.1, ?_⟩
     rw [this.2.valEq]
     simp [dl]
     exact .sl0 _ _ _ (by simp)
    ·rw [if_neg q2]; exact f3 j hj
   ·rcases e2 with e2 | ⟨t', m', f2, e2 | e2⟩ | ⟨_, _, _, _, _, e2⟩ <;> cases e2
  ·rw [if_neg q] at hx; exact hF2.box x C hx
 ·obtain ⟨C0, q1, q2, q3⟩ := get hx hm
  exact hF2.foot x C0 b q1 q2 (q3 _ _ hf)
 ·rw [hs2] at hx
  by_cases q : kb = x
  ·rw [if_pos q] at hx; cases hx
  ·rw [if_neg q] at hx; exact hF2.nil x hx
 ·obtain ⟨C0, q1, q2, q3⟩ := get h1 m1
  obtain ⟨C0', q1', q2', q3'⟩ := get h2 m2
  exact hF2.inj x x' C0 C0' b q1 q1' q2 q2' (q3 _ _ e1) (q3' _ _ e2)
theorem sub_nil (t k : Nat) (tt : TypeId) (m : Nat) (f : Nat → List D) (ht : lk env t = .val (.slice none 0 0)) (hb : hk box k = none) (h100 : Nat.ble 1000 k = true) : Sub (lk env) (hk box) (lk ((t, .sl k m 0) :: env)) (hk ((k, some (.arr tt 0 m f)) :: box)) := sub_nilB t k m _ (.inl ⟨_, _, _, .inl rfl⟩) ht hb h100
theorem sub_nilcell (kb cc k : Nat) (tt : TypeId) (m : Nat) (f : Nat → List D) {tb : TypeId} {ds ds' : List D} (hl : hk box kb = some (.lit tb ds)) (hds : dl ds cc = .val (.slice none 0 0)) (hds' : setL ds cc [.sl k m 0] = ds') (hcl : Nat.blt cc ds.length = true) (hb : hk box k = none) (h100 : Nat.ble 1000 k = true) : Sub (lk env) (hk box) (lk env) (hk ((kb, some (.lit tb ds')) :: (k, some (.arr tt 0 m f)) :: box)) := sub_nilcellB kb cc k m _ (.inl ⟨_, _, _, .inl rfl⟩) hl hds hds' hcl hb h100
end
end Go.Proofs.YtmjildbdkecolaaGreat
