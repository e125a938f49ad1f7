/- Data as trees, and how they lie in memory. No walk.
A call's own boxes; what a state of data says of the machine's. No walk. -/
import Derived.Test.YtmjildbdkecolaaGreatProg
import Derived.Below
import Derived.Orders
import Derived.OrdersIn
import Derived.RangeFuncCalls
import Derived.Laws.OwnMore
import Derived.Laws.MakeOwn
import Derived.Laws.CopyOwn
import Derived.Maps.AppendAt
import Derived.Shelf.Abstract
import Derived.KernelRfl
set_option linter.unusedSimpArgs false
set_option linter.unusedVariables false
set_option linter.unnecessarySimpa false
namespace Go.Proofs.YtmjildbdkecolaaGreat
open Go.RowKit

/-- Data: a value as it is; a place in a box of the call's own; a slice of a box; a slice of a row of a box, a place in it; memory that nobody turns (o: it may be an argument's). -/
inductive D where
 | any
 | val (v : Value)
 | eptr (k m e c : Nat)
 | sl (k m len : Nat)
 | slr (k e m len : Nat)
 | eptrr (k e m x c : Nat)
 | fz (o : Bool) (n m : Nat) (f : Nat → List D)
 | fptr (o : Bool) (l : List D)
 | clo (fn : FuncId) (l : List D)
 | agg (l : List D)
 | tup (l : List D)
instance : Inhabited D := ⟨.any⟩
/-- The list's item. -/
def dl : List D → Nat → D
 | [], _ => .any
 | d :: _, 0 => d
 | _ :: l, j + 1 => dl l j
theorem dl_eq : ∀ (l : List D) (j : Nat), dl l j = l.getD j .any
 | [], _ => rfl
 | _ :: _, 0 => rfl
 | _ :: l, j + 1 => by rw [dl, dl_eq l j]; rfl
/-- How many elements a block has room for; which blocks (with room) lie behind its elements. -/
structure Cp where
 c : Nat
 r : Nat → Option (Nat × Nat)
def noR : Nat → Option (Nat × Nat) := fun _ => none
instance : Coe Nat Cp := ⟨fun n => ⟨n, noR⟩⟩
instance (n : Nat) : OfNat Cp n := ⟨⟨n, noR⟩⟩
/-- Which block a name stands for, and how many elements it has room for. -/
abbrev Nm := Nat → Option (Option (Nat × Cp))
def noN : Nm := fun _ => none
/-- The same block; more of the rows are known. -/
def NmLe (x y : Option (Nat × Cp)) : Prop := x = y ∨ ∃ b cp cp', x = some (b, cp) ∧ y = some (b, cp') ∧ cp.c = cp'.c ∧ ∀ e v, cp.r e = some v → cp'.r e = some v
theorem NmLe.some {b : Nat} {cp : Cp} {y : Option (Nat × Cp)} (h : NmLe (some (b, cp)) y) : ∃ cp', y = some (b, cp') ∧ cp.c = cp'.c ∧ ∀ e v, cp.r e = some v → cp'.r e = some v := by
 rcases h with rfl | ⟨b', c, c', h1, h2, h3⟩
 ·exact ⟨cp, rfl, rfl, fun _ _ h => h⟩
 ·cases h1; exact ⟨c', h2, h3⟩
theorem NmLe.none {y : Option (Nat × Cp)} (h : NmLe none y) : y = none := by
 rcases h with rfl | ⟨b', c, c', h1, _⟩
 ·rfl
 ·cases h1
/-- Which blocks are frozen: those of the call's own making, and all. -/
abbrev Zn := Bool → Nat → Prop
inductive Rep (Z : Zn) (w : World) : Nm → Value → D → Prop where
 | any (i v) : Rep Z w i v .any
 | val (i v) : Rep Z w i v (.val v)
 | eptr (i) {b : Nat} {cap : Cp} (k m e c : Nat) (h : i k = some (some (b, cap))) : Rep Z w i (.pointer (some ⟨b, e * m + c, none⟩)) (.eptr k m e c)
 | sl (i) {b : Nat} (k m len : Nat) (cap : Cp) (h : i k = some (some (b, cap))) (h1 : len ≤ cap.c) (h2 : cap.c ≤ 9223372036854775807) : Rep Z w i (.slice (some ⟨b, 0, none⟩) len cap.c) (.sl k m len)
 | sl0 (i) (k m : Nat) (h : i k = some none) : Rep Z w i (.slice none 0 0) (.sl k m 0)
 | slr (i) {r : Nat} {cp : Cp} (k e m len b cap : Nat) (h : i k = some (some (r, cp))) (hr : cp.r e = some (b, cap)) (h1 : len ≤ cap) (h2 : cap ≤ 9223372036854775807) : Rep Z w i (.slice (some ⟨b, 0, none⟩) len cap) (.slr k e m len)
 | eptrr (i) {r : Nat} {cp : Cp} (k e m x c : Nat) {b cap : Nat} (h : i k = some (some (r, cp))) (hr : cp.r e = some (b, cap)) : Rep Z w i (.pointer (some ⟨b, x * m + c, none⟩)) (.eptrr k e m x c)
 | fz (i) (o : Bool) (ao : Option Addr) (n cap m : Nat) (f : Nat → List D) (vs : Nat → Nat → Value) (h1 : n ≤ cap) (h2 : cap ≤ 9223372036854775807) (hl : ∀ e, e < n → (f e).length = m)
   (ha : ∀ e c, e < n → c < m → ∃ b p, ao = some ⟨b, p, none⟩ ∧ Z o b ∧ w.cell? ⟨b, p + (e * m + c), none⟩ = some (vs e c) ∧ (vs e c).oneCell' = true)
   (hr : ∀ e c, e < n → c < m → Rep Z w noN (vs e c) (dl (f e) c)) : Rep Z w i (.slice ao n cap) (.fz o n m f)
 | fptr (i) (o : Bool) (b p : Nat) (l : List D) (vs : Nat → Value) (ha : ∀ c, c < l.length → Z o b ∧ w.cell? ⟨b, p + c, none⟩ = some (vs c) ∧ (vs c).oneCell' = true)
   (hr : ∀ c, c < l.length → Rep Z w noN (vs c) (dl l c)) : Rep Z w i (.pointer (some ⟨b, p, none⟩)) (.fptr o l)
 | clo (i) (fn : FuncId) (vs : List Value) (l : List D) (hl : vs.length = l.length) (hr : ∀ j, j < l.length → Rep Z w i (vs.getD j undef) (dl l j)) : Rep Z w i (.func (.func fn) #[] vs.toArray) (.clo fn l)
 | agg (i) (vs : List Value) (l : List D) (hl : vs.length = l.length) (h1 : ∀ j, j < l.length → (vs.getD j undef).oneCell' = true) (hr : ∀ j, j < l.length → Rep Z w i (vs.getD j undef) (dl l j)) : Rep Z w i (.agg vs.toArray) (.agg l)
 | tup (i) (vs : List Value) (l : List D) (hl : vs.length = l.length) (hr : ∀ j, j < l.length → Rep Z w i (vs.getD j undef) (dl l j)) : Rep Z w i (.tuple vs.toArray) (.tup l)
/-- Names that hold (p) are the only ones that the data mention. -/
def D.free (p : Nat → Bool) : D → Bool
 | .eptr k _ _ _ => p k
 | .sl k _ _ => p k
 | .slr k _ _ _ => p k
 | .eptrr k _ _ _ _ => p k
 | .clo _ l => freeL p l
 | .agg l => freeL p l
 | .tup l => freeL p l
 | _ => true
where freeL (p : Nat → Bool) : List D → Bool
 | [] => true
 | d :: l => D.free p d && freeL p l
/-- Other names. -/
def D.ren (r : Nat → Nat) : D → D
 | .eptr k m e c => .eptr (r k) m e c
 | .sl k m n => .sl (r k) m n
 | .slr k e m n => .slr (r k) e m n
 | .eptrr k e m x c => .eptrr (r k) e m x c
 | .clo f l => .clo f (renL r l)
 | .agg l => .agg (renL r l)
 | .tup l => .tup (renL r l)
 | d => d
where renL (r : Nat → Nat) : List D → List D
 | [] => []
 | d :: l => D.ren r d :: renL r l
/-- The value fits one cell. -/
def D.one : D → Bool
 | .val v => v.oneCell'
 | .eptr .. | .sl .. | .slr .. | .eptrr .. | .fz .. | .fptr .. | .clo .. => true
 | _ => false
theorem freeL_at {p : Nat → Bool} : ∀ {l : List D}, D.free.freeL p l = true → ∀ j, j < l.length → (dl l j).free p = true
 | [], _, j, hj => by simp at hj
 | d :: l, h, j, hj => by
  simp only [D.free.freeL, Bool.and_eq_true] at h
  cases j with
  | zero => exact h.1
  | succ j => exact freeL_at h.2 j (by simpa using hj)
theorem renL_len {r : Nat → Nat} : ∀ (l : List D), (D.ren.renL r l).length = l.length
 | [] => rfl
 | d :: l => by simp [D.ren.renL, renL_len l]
theorem renL_at {r : Nat → Nat} : ∀ (l : List D) (j : Nat), dl (D.ren.renL r l) j = (dl l j).ren r
 | [], j => rfl
 | d :: l, 0 => rfl
 | d :: l, j + 1 => renL_at l j
theorem D.free_mono {p q : Nat → Bool} (hq : ∀ k, p k = true → q k = true) : ∀ {d : D}, d.free p = true → d.free q = true
 | .any, _ => rfl
 | .val _, _ => rfl
 | .eptr k _ _ _, h => hq k h
 | .sl k _ _, h => hq k h
 | .slr k _ _ _, h => hq k h
 | .eptrr k _ _ _ _, h => hq k h
 | .fz _ _ _ _, _ => rfl
 | .fptr _ _, _ => rfl
 | .clo _ l, h => mono hq l h
 | .agg l, h => mono hq l h
 | .tup l, h => mono hq l h
where mono {p q : Nat → Bool} (hq : ∀ k, p k = true → q k = true) : ∀ (l : List D), D.free.freeL p l = true → D.free.freeL q l = true
 | [], _ => rfl
 | d :: l, h => by
  simp only [D.free.freeL, Bool.and_eq_true] at h ⊢
  exact ⟨D.free_mono hq h.1, mono hq l h.2⟩
section
variable {Z Z' : Zn} {w w' : World} {i i' : Nm} {v : Value} {d : D}
theorem Rep.memC (h : Rep Z w i v d) (hZ : ∀ o b p u, Z o b → w.cell? ⟨b, p, none⟩ = some u → Z' o b ∧ w'.cell? ⟨b, p, none⟩ = some u) : Rep Z' w' i v d := by
 induction h with
 | any i v => exact .any i v
 | val i v => exact .val i v
 | eptr i k m e c h => exact .eptr i k m e c h
 | sl i k m len cap h h1 h2 => exact .sl i k m len cap h h1 h2
 | sl0 i k m h => exact .sl0 i k m h
 | slr i k e m len b cap h hr h1 h2 => exact .slr i k e m len b cap h hr h1 h2
 | eptrr i k e m x c h hr => exact .eptrr i k e m x c h hr
 | fz i o ao n cap m f vs h1 h2 hl ha hr ih =>
  refine .fz i o ao n cap m f vs h1 h2 hl (fun e c he hc => ?_) ih
  obtain ⟨b, p, r1, r2, r3, r4⟩ := ha e c he hc
  exact ⟨b, p, r1, (hZ o b _ _ r2 r3).1, (hZ o b _ _ r2 r3).2, r4⟩
 | fptr i o b p l vs ha hr ih =>
  refine .fptr i o b p l vs (fun c hc => ?_) ih
  obtain ⟨r2, r3, r4⟩ := ha c hc
  exact ⟨(hZ o b _ _ r2 r3).1, (hZ o b _ _ r2 r3).2, r4⟩
 | clo i fn vs l hl hr ih => exact .clo i fn vs l hl ih
 | agg i vs l hl h1 hr ih => exact .agg i vs l hl h1 ih
 | tup i vs l hl hr ih => exact .tup i vs l hl ih
theorem Rep.mem (h : Rep Z w i v d) (hZ : ∀ o b, Z o b → Z' o b ∧ w'.heap[b]? = w.heap[b]?) : Rep Z' w' i v d := h.memC (fun o b p u hz hu => ⟨(hZ o b hz).1, (World.cell?_of_block (w := w) (a := ⟨b, p, none⟩) (hZ o b hz).2).trans hu⟩)
/-- Other names, where those that the data mention stay. -/
theorem Rep.nm (h : Rep Z w i v d) : ∀ {i' : Nm} {p : Nat → Bool}, d.free p = true → (∀ k x, p k = true → i k = some x → i' k = some x) → Rep Z w i' v d := by
 induction h with
 | any i v => intros; exact .any _ _
 | val i v => intros; exact .val _ _
 | eptr i k m e c h => intro i' p hf hi; exact .eptr _ _ _ _ _ (hi k _ hf h)
 | sl i k m len cap h h1 h2 => intro i' p hf hi; exact .sl _ _ _ _ _ (hi k _ hf h) h1 h2
 | sl0 i k m h => intro i' p hf hi; exact .sl0 _ _ _ (hi k _ hf h)
 | slr i k e m len b cap h hr h1 h2 => intro i' p hf hi; exact .slr _ _ _ _ _ _ _ (hi k _ hf h) hr h1 h2
 | eptrr i k e m x c h hr => intro i' p hf hi; exact .eptrr _ _ _ _ _ _ (hi k _ hf h) hr
 | fz i o ao n cap m f vs h1 h2 hl ha hr ih => intros; exact .fz _ o ao n cap m f vs h1 h2 hl ha hr
 | fptr i o b q l vs ha hr ih => intros; exact .fptr _ o b q l vs ha hr
 | clo i fn vs l hl hr ih => intro i' p hf hi; exact .clo _ fn vs l hl (fun j hj => ih j hj (freeL_at hf j hj) hi)
 | agg i vs l hl h1 hr ih => intro i' p hf hi; exact .agg _ vs l hl h1 (fun j hj => ih j hj (freeL_at hf j hj) hi)
 | tup i vs l hl hr ih => intro i' p hf hi; exact .tup _ vs l hl (fun j hj => ih j hj (freeL_at hf j hj) hi)
theorem Rep.ext (h : Rep Z w i v d) (hi : ∀ k x, i k = some x → i' k = some x) : Rep Z w i' v d := by
 induction h with
 | any i v => exact .any _ _
 | val i v => exact .val _ _
 | eptr i k m e c h => exact .eptr _ _ _ _ _ (hi k _ h)
 | sl i k m len cap h h1 h2 => exact .sl _ _ _ _ _ (hi k _ h) h1 h2
 | sl0 i k m h => exact .sl0 _ _ _ (hi k _ h)
 | slr i k e m len b cap h hr h1 h2 => exact .slr _ _ _ _ _ _ _ (hi k _ h) hr h1 h2
 | eptrr i k e m x c h hr => exact .eptrr _ _ _ _ _ _ (hi k _ h) hr
 | fz i o ao n cap m f vs h1 h2 hl ha hr ih => exact .fz _ o ao n cap m f vs h1 h2 hl ha hr
 | fptr i o b q l vs ha hr ih => exact .fptr _ o b q l vs ha hr
 | clo i fn vs l hl hr ih => exact .clo _ fn vs l hl (fun j hj => ih j hj hi)
 | agg i vs l hl h1 hr ih => exact .agg _ vs l hl h1 (fun j hj => ih j hj hi)
 | tup i vs l hl hr ih => exact .tup _ vs l hl (fun j hj => ih j hj hi)
/-- More rows are known. -/
theorem Rep.grow (h : Rep Z w i v d) (hi : ∀ k x, i k = some x → ∃ y, i' k = some y ∧ NmLe x y) : Rep Z w i' v d := by
 induction h with
 | any i v => exact .any _ _
 | val i v => exact .val _ _
 | eptr i k m e c h =>
  obtain ⟨y, h1, h2⟩ := hi k _ h
  obtain ⟨cp', rfl, _⟩ := h2.some
  exact .eptr _ _ _ _ _ h1
 | sl i k m len cap h q1 q2 =>
  obtain ⟨y, h1, h2⟩ := hi k _ h
  obtain ⟨cp', rfl, h3, _⟩ := h2.some
  rw [h3] at q1 q2 ⊢
  exact .sl _ _ _ _ _ h1 q1 q2
 | sl0 i k m h =>
  obtain ⟨y, h1, h2⟩ := hi k _ h
  obtain rfl := h2.none
  exact .sl0 _ _ _ h1
 | slr i k e m len b cap h hr q1 q2 =>
  obtain ⟨y, h1, h2⟩ := hi k _ h
  obtain ⟨cp', rfl, _, h4⟩ := h2.some
  exact .slr _ _ _ _ _ _ _ h1 (h4 _ _ hr) q1 q2
 | eptrr i k e m x c h hr =>
  obtain ⟨y, h1, h2⟩ := hi k _ h
  obtain ⟨cp', rfl, _, h4⟩ := h2.some
  exact .eptrr _ _ _ _ _ _ h1 (h4 _ _ hr)
 | fz i o ao n cap m f vs h1 h2 hl ha hr ih => exact .fz _ o ao n cap m f vs h1 h2 hl ha hr
 | fptr i o b q l vs ha hr ih => exact .fptr _ o b q l vs ha hr
 | clo i fn vs l hl hr ih => exact .clo _ fn vs l hl (fun j hj => ih j hj hi)
 | agg i vs l hl h1 hr ih => exact .agg _ vs l hl h1 (fun j hj => ih j hj hi)
 | tup i vs l hl hr ih => exact .tup _ vs l hl (fun j hj => ih j hj hi)
theorem Rep.of_noN (h : Rep Z w noN v d) : Rep Z w i v d := h.ext (fun k x e => by cases e)
/-- Renamed data. -/
theorem Rep.rename {r : Nat → Nat} (h : Rep Z w i v d) : ∀ {i' : Nm}, (∀ k x, i k = some x → i' (r k) = some x) → Rep Z w i' v (d.ren r) := by
 induction h with
 | any i v => intros; exact .any _ _
 | val i v => intros; exact .val _ _
 | eptr i k m e c h => intro i' hi; exact .eptr _ _ _ _ _ (hi k _ h)
 | sl i k m len cap h h1 h2 => intro i' hi; exact .sl _ _ _ _ _ (hi k _ h) h1 h2
 | sl0 i k m h => intro i' hi; exact .sl0 _ _ _ (hi k _ h)
 | slr i k e m len b cap h hr h1 h2 => intro i' hi; exact .slr _ _ _ _ _ _ _ (hi k _ h) hr h1 h2
 | eptrr i k e m x c h hr => intro i' hi; exact .eptrr _ _ _ _ _ _ (hi k _ h) hr
 | fz i o ao n cap m f vs h1 h2 hl ha hr ih => intros; exact .fz _ o ao n cap m f vs h1 h2 hl ha hr
 | fptr i o b q l vs ha hr ih => intros; exact .fptr _ o b q l vs ha hr
 | clo i fn vs l hl hr ih => intro i' hi; exact .clo _ fn vs _ (hl.trans (renL_len l).symm) (fun j hj => by rw [renL_at]; exact ih j (by rwa [renL_len] at hj) hi)
 | agg i vs l hl h1 hr ih => intro i' hi; exact .agg _ vs _ (hl.trans (renL_len l).symm) (fun j hj => h1 j (by rwa [renL_len] at hj)) (fun j hj => by rw [renL_at]; exact ih j (by rwa [renL_len] at hj) hi)
 | tup i vs l hl hr ih => intro i' hi; exact .tup _ vs _ (hl.trans (renL_len l).symm) (fun j hj => by rw [renL_at]; exact ih j (by rwa [renL_len] at hj) hi)
theorem Rep.one (h : Rep Z w i v d) (h1 : d.one = true) : v.oneCell' = true := by
 cases h <;> first | rfl | exact h1 | (simp [D.one] at h1)
theorem Rep.valEq {x : Value} (h : Rep Z w i v (.val x)) : v = x := by cases h; rfl
end
/-- Data that are other data, too. -/
class Cvt (d d' : D) : Prop where
 cv : ∀ {Z : Zn} {w : World} {i : Nm} {v : Value}, (∀ b, Z false b → Z true b) → Rep Z w i v d → Rep Z w i v d'
instance (d : D) : Cvt d d := ⟨fun _ h => h⟩
theorem Cvt.any (d : D) : Cvt d .any := ⟨fun _ _ => .any _ _⟩
theorem Cvt.of_eq {d d' : D} (h : d = d') : Cvt d d' := h ▸ ⟨fun _ h => h⟩
theorem Cvt.trans {a b c : D} (h : Cvt a b) (k : Cvt b c) : Cvt a c := ⟨fun hz hv => k.cv hz (h.cv hz hv)⟩
theorem Cvt.fz {o o' : Bool} {n m : Nat} {f f' : Nat → List D} (ho : o = o' ∨ o = false ∧ o' = true) (h : ∀ e, e < n → (f' e).length = m ∧ ∀ c, c < m → Cvt (dl (f e) c) (dl (f' e) c)) : Cvt (.fz o n m f) (.fz o' n m f') := ⟨fun {Z w i v} hz hv => by
 cases hv with | fz _ _ ao _ cap _ _ vs h1 h2 hl ha hr =>
 refine .fz _ _ ao n cap m f' vs h1 h2 (fun e he => (h e he).1) (fun e c he hc => ?_) (fun e c he hc => ((h e he).2 c hc).cv hz (hr e c he hc))
 obtain ⟨b, p, r1, r2, r3, r4⟩ := ha e c he hc
 refine ⟨b, p, r1, ?_, r3, r4⟩
 rcases ho with rfl | ⟨rfl, rfl⟩
 ·exact r2
 ·exact hz b r2⟩
theorem Cvt.fptr {o o' : Bool} {l l' : List D} (ho : o = o' ∨ o = false ∧ o' = true) (hl : l'.length ≤ l.length) (h : ∀ c, c < l'.length → Cvt (dl l c) (dl l' c)) : Cvt (.fptr o l) (.fptr o' l') := ⟨fun {Z w i v} hz hv => by
 cases hv with | fptr _ _ b p _ vs ha hr =>
 refine .fptr _ _ b p l' vs (fun c hc => ?_) (fun c hc => (h c hc).cv hz (hr c (by omega)))
 obtain ⟨r2, r3, r4⟩ := ha c (by omega)
 refine ⟨?_, r3, r4⟩
 rcases ho with rfl | ⟨rfl, rfl⟩
 ·exact r2
 ·exact hz b r2⟩
/-- Two lists of data, item by item. -/
inductive CvtL : List D → List D → Prop where
 | nil : CvtL [] []
 | cons {d d' : D} {l l' : List D} (h : Cvt d d') (k : CvtL l l') : CvtL (d :: l) (d' :: l')
theorem CvtL.len {l l' : List D} (h : CvtL l l') : l.length = l'.length := by induction h with | nil => rfl | cons _ _ ih => simp [ih]
theorem CvtL.at {l l' : List D} (h : CvtL l l') : ∀ j, Cvt (dl l j) (dl l' j) := by
 induction h with
 | nil => intro j; exact .of_eq rfl
 | cons h _ ih => intro j; cases j with
  | zero => exact h
  | succ j => exact ih j
theorem CvtL.refl : ∀ (l : List D), CvtL l l
 | [] => .nil
 | d :: l => .cons (.of_eq rfl) (CvtL.refl l)
theorem Cvt.agg {l l' : List D} (h : CvtL l l') : Cvt (.agg l) (.agg l') := ⟨fun {Z w i v} hz hv => by
 cases hv with | agg _ vs _ hl h1 hr => exact .agg _ vs _ (hl.trans h.len) (fun j hj => h1 j (by rw [h.len]; exact hj)) (fun j hj => (h.at j).cv hz (hr j (by rw [h.len]; exact hj)))⟩
theorem Cvt.tup {l l' : List D} (h : CvtL l l') : Cvt (.tup l) (.tup l') := ⟨fun {Z w i v} hz hv => by
 cases hv with | tup _ vs _ hl hr => exact .tup _ vs _ (hl.trans h.len) (fun j hj => (h.at j).cv hz (hr j (by rw [h.len]; exact hj)))⟩
theorem Cvt.clo {fn : FuncId} {l l' : List D} (h : CvtL l l') : Cvt (.clo fn l) (.clo fn l') := ⟨fun {Z w i v} hz hv => by
 cases hv with | clo _ _ vs _ hl hr => exact .clo _ fn vs _ (hl.trans h.len) (fun j hj => (h.at j).cv hz (hr j (by rw [h.len]; exact hj)))⟩
theorem Cvt.nil (o : Bool) (m : Nat) (f : Nat → List D) : Cvt (.val (.slice none 0 0)) (.fz o 0 m f) := ⟨fun {Z w i v} hz hv => by
 cases hv; exact .fz _ o none 0 0 m f (fun _ _ => undef) (Nat.le_refl _) (by omega) (fun e he => by omega) (fun e c he => by omega) (fun e c he => by omega)⟩
open Go.RowKit

def Bk (w : World) (b : Nat) (t : TypeId) (cs : Array Value) : Prop := w.heap[b]? = some (.cells cs t (0, 0))
theorem Bk.lt {w : World} {b : Nat} {t : TypeId} {cs : Array Value} (h : Bk w b t cs) : b < w.heap.size := by unfold Bk at h; exact (Array.getElem?_eq_some_iff.1 h).1
theorem Bk.cell {w : World} {b : Nat} {t : TypeId} {cs : Array Value} (h : Bk w b t cs) (j : Nat) (hj : j < cs.size) : w.cell? ⟨b, j, none⟩ = some (cs.getD j undef) := by
 rw [cell_of_row w b j cs t (0, 0) h, Array.getD_eq_getD_getElem?, Array.getElem?_eq_getElem hj]; rfl
/-- A box: a variable; a row of elements; a row of rows, each in a block of its own (nb: room that is known; n: rows; each of n2 elements of m2 cells); one that nobody turns any more; one of which nothing is said. -/
inductive Box where
 | lit (t : TypeId) (ds : List D)
 | arr (t : TypeId) (n m : Nat) (f : Nat → List D)
 | mat (t t2 : TypeId) (nb n m2 n2 : Nat) (g : Nat → Nat → List D)
 | ice (t : TypeId) (n m : Nat) (f : Nat → List D)
 | gone
def Box.mut : Box → Bool
 | .lit .. => true
 | .arr .. => true
 | .mat .. => true
 | _ => false
def Box.nrows : Box → Nat
 | .mat _ _ _ n _ _ _ => n
 | _ => 0
def Box.isIce : Box → Bool
 | .ice .. => true
 | _ => false
def Box.free (p : Nat → Bool) : Box → Bool
 | .lit _ ds => D.free.freeL p ds
 | _ => true
theorem Box.free_mono {p q : Nat → Bool} (hq : ∀ k, p k = true → q k = true) {B : Box} (h : B.free p = true) : B.free q = true := by
 cases B with
 | lit t ds => exact D.free_mono.mono hq ds h
 | _ => rfl
def ArrAt (Z : Zn) (w : World) (b cap : Nat) (t : TypeId) (n m : Nat) (f : Nat → List D) : Prop :=
 ∃ cs : Array Value, Bk w b t cs ∧ cs.size = cap * m ∧ n ≤ cap ∧ (∀ e, e < n → (f e).length = m) ∧ ∀ e c, e < n → c < m → (cs.getD (e * m + c) undef).oneCell' = true ∧ Rep Z w noN (cs.getD (e * m + c) undef) (dl (f e) c)
def RowAt (Z : Zn) (w : World) (r : Nat → Option (Nat × Nat)) (b : Nat) (v : Value) (e : Nat) (t2 : TypeId) (m2 n2 : Nat) (f : Nat → List D) : Prop :=
 ∃ b' c', r e = some (b', c') ∧ b' ≠ b ∧ v = .slice (some ⟨b', 0, none⟩) n2 c' ∧ c' ≤ 9223372036854775807 ∧ ArrAt Z w b' c' t2 n2 m2 f
def MatAt (Z : Zn) (w : World) (b : Nat) (cp : Cp) (t t2 : TypeId) (nb n m2 n2 : Nat) (g : Nat → Nat → List D) : Prop :=
 ∃ cs : Array Value, Bk w b t cs ∧ cs.size = cp.c ∧ nb ≤ cp.c ∧ n ≤ nb ∧ (∀ e, e < n → RowAt Z w cp.r b (cs.getD e undef) e t2 m2 n2 (g e)) ∧ (∀ e e' x c c', e < n → e' < n → (cp.r e = some (x, c) → cp.r e' = some (x, c') → e = e')) ∧ ∀ e, n ≤ e → cp.r e = none
def BoxAt (Z : Zn) (w : World) (i : Nm) (b : Nat) (cap : Cp) : Box → Prop
 | .lit t ds => ∃ cs : Array Value, Bk w b t cs ∧ cs.size = ds.length ∧ ∀ j, j < ds.length → (cs.getD j undef).oneCell' = true ∧ Rep Z w i (cs.getD j undef) (dl ds j)
 | .arr t n m f => ArrAt Z w b cap.c t n m f
 | .mat t t2 nb n m2 n2 g => MatAt Z w b cap t t2 nb n m2 n2 g
 | .ice t n m f => ∃ cap, ArrAt Z w b cap t n m f
 | .gone => b < w.heap.size
/-- The blocks of a box. -/
def Foot (B : Box) (x : Option (Option (Nat × Cp))) (b : Nat) : Prop := ∃ r cp, x = some (some (r, cp)) ∧ (b = r ∨ ∃ e c, e < B.nrows ∧ cp.r e = some (b, c))
theorem Foot.root {B : Box} {x : Option (Option (Nat × Cp))} {b : Nat} {cp : Cp} (h : x = some (some (b, cp))) : Foot B x b := ⟨b, cp, h, .inl rfl⟩
theorem Foot.flat {B : Box} {x : Option (Option (Nat × Cp))} {b : Nat} (h : Foot B x b) (hB : B.nrows = 0) : ∃ cp, x = some (some (b, cp)) := by
 obtain ⟨r, cp, h1, rfl | ⟨e, c, h2, _⟩⟩ := h
 ·exact ⟨cp, h1⟩
 ·omega
theorem BoxAt.footBk {Z : Zn} {w : World} {i : Nm} {r b : Nat} {cp : Cp} {B : Box} (h : BoxAt Z w i r cp B) (hg : B ≠ .gone) (hf : Foot B (some (some (r, cp))) b) : ∃ t cs, Bk w b t cs := by
 obtain ⟨r', cp', h1, h2⟩ := hf
 cases h1
 cases B with
 | mat t t2 nb n m2 n2 g =>
  obtain ⟨cs, hB, _, _, _, hr, _⟩ := h
  rcases h2 with rfl | ⟨e, c, h3, h4⟩
  ·exact ⟨_, _, hB⟩
  ·obtain ⟨b', c', q, _, _, _, q2⟩ := hr e h3
   rw [h4] at q; cases q
   obtain ⟨cs', q3, _⟩ := q2
   exact ⟨_, _, q3⟩
 | lit => rcases h2 with rfl | ⟨e, c, h3, _⟩; (obtain ⟨cs, hb, _⟩ := h; exact ⟨_, _, hb⟩); exact absurd h3 (Nat.not_lt_zero _)
 | arr => rcases h2 with rfl | ⟨e, c, h3, _⟩; (obtain ⟨cs, hb, _⟩ := h; exact ⟨_, _, hb⟩); exact absurd h3 (Nat.not_lt_zero _)
 | ice => rcases h2 with rfl | ⟨e, c, h3, _⟩; (obtain ⟨_, cs, hb, _⟩ := h; exact ⟨_, _, hb⟩); exact absurd h3 (Nat.not_lt_zero _)
 | gone => exact absurd rfl hg
theorem BoxAt.footLt {Z : Zn} {w : World} {i : Nm} {r b : Nat} {cp : Cp} {B : Box} (h : BoxAt Z w i r cp B) (hf : Foot B (some (some (r, cp))) b) : b < w.heap.size := by
 by_cases hg : B = .gone
 ·subst hg
  obtain ⟨cp', h1⟩ := hf.flat rfl
  cases h1
  exact h
 ·obtain ⟨t, cs, q⟩ := h.footBk hg hf
  exact q.lt
/-- What does not turn in an activation: the world and the frozen memory when it began; the old blocks that it may turn (those of its argument boxes: names below 1000); its slots; what is deferred. -/
structure Cx where
 w0 : World
 Z0 : Nat → Prop
 M : Nat → Prop
 N : Nat
 df : List Deferred
 i0 : Nm
 w1 : World
 M1 : Nat → Prop
 Z1 : Zn
/-- Old memory is kept, but for the blocks of M. -/
structure Kept (M : Nat → Prop) (w w' : World) : Prop where
 os : w'.os = w.os
 tape : w'.tape = w.tape
 output : w'.output = w.output
 size : w.heap.size ≤ w'.heap.size
 block : ∀ b, b < w.heap.size → ¬ M b → w'.heap[b]? = w.heap[b]?
theorem Kept.refl (M : Nat → Prop) (w : World) : Kept M w w := ⟨rfl, rfl, rfl, Nat.le_refl _, fun _ _ _ => rfl⟩
theorem Kept.below {w w' : World} (h : Kept (fun _ => False) w w') : Below w.heap.size w w' := ⟨h.os, h.tape, h.output, h.size, fun b hb => h.block b hb id⟩
theorem Kept.of_below {w w' : World} (h : Below w.heap.size w w') (M : Nat → Prop) : Kept M w w' := ⟨h.os, h.tape, h.output, h.size, fun b hb _ => h.block b hb⟩
def BoxOk (S : Cx) (Z : Zn) (w : World) (i : Nm) (k : Nat) (B : Box) : Prop :=
 (∃ b cap, i k = some (some (b, cap)) ∧ (S.w0.heap.size ≤ b ∨ (k < 1000 ∧ S.M b)) ∧ (B.mut = true → ¬ Z true b ∧ (S.w1.heap.size ≤ b ∨ S.M1 b)) ∧ (B.isIce = true → Z false b) ∧ BoxAt Z w i b cap B) ∨ (i k = some none ∧ (B = .gone ∨ (∃ t m f, B = .arr t 0 m f ∨ B = .ice t 0 m f) ∨ ∃ t t2 m2 n2 g, B = .mat t t2 0 0 m2 n2 g))
def mark (b : Nat) : Deferred := { target := .collected b, args := #[] }
structure Fits (S : Cx) (E : Nat → D) (H : Nat → Option Box) (Z : Zn) (i : Nm) (a : Act) (w : World) : Prop where
 defers : ∃ ms : List Nat, a.defers = ms.map mark ++ S.df ∧ ms.Nodup ∧ ∀ b, b ∈ ms → Z false b ∧ w.heap[b]? = some (.deferred (some []))
 size : a.tmps.size = S.N
 kept : Kept S.M S.w0 w
 kept1 : Kept S.M1 S.w1 w
 zk1 : ∀ o b, S.Z1 o b → Z o b
 zsub : ∀ b, Z false b → Z true b
 zOld : ∀ b, Z true b → b < w.heap.size ∧ (b < S.w0.heap.size → S.Z0 b)
 zNew : ∀ b, Z false b → S.w0.heap.size ≤ b
 env : ∀ t, Rep Z w i (a.tmps.getD t undef) (E t)
 box : ∀ k B, H k = some B → BoxOk S Z w i k B
 foot : ∀ k B b, H k = some B → B.mut = true → Foot B (i k) b → b < w.heap.size ∧ (S.w0.heap.size ≤ b ∨ (k < 1000 ∧ S.M b ∧ ∃ c, i k = some (some (b, c)))) ∧ ¬ Z true b ∧ (S.w1.heap.size ≤ b ∨ S.M1 b)
 nil : ∀ k, H k = none → i k = none
 low : ∀ k, k < 1000 → i k = S.i0 k
 inj : ∀ k k' B B' b, H k = some B → H k' = some B' → B.mut = true → B'.mut = true → Foot B (i k) b → Foot B' (i k') b → k = k'
theorem Fits.injR {S : Cx} {E : Nat → D} {H : Nat → Option Box} {Z : Zn} {i : Nm} {a : Act} {w : World} (h : Fits S E H Z i a w) (k k' : Nat) (B B' : Box) (b : Nat) (c c' : Cp) (h1 : H k = some B) (h2 : H k' = some B') (m1 : B.mut = true) (m2 : B'.mut = true) (e1 : i k = some (some (b, c))) (e2 : i k' = some (some (b, c'))) : k = k' := h.inj k k' B B' b h1 h2 m1 m2 (.root e1) (.root e2)
def RepS (S : Cx) (E : Nat → D) (H : Nat → Option Box) (a : Act) (w : World) : Prop := ∃ Z i, Fits S E H Z i a w
def updE (E : Nat → D) (dst : Option Nat) (r : D) (t : Nat) : D :=
 match dst with
 | some d => if d = t then r else E t
 | none => E t
def updH (H : Nat → Option Box) : List (Nat × Option Box) → Nat → Option Box
 | [], k => H k
 | (x, B) :: l, k => if x = k then B else updH H l k
theorem BoxAt.lt {Z : Zn} {w : World} {i : Nm} {b : Nat} {cap : Cp} {B : Box} (h : BoxAt Z w i b cap B) : b < w.heap.size := h.footLt (.root rfl)
theorem ArrAt.mem {Z Z' : Zn} {w w' : World} {b cap : Nat} {t : TypeId} {n m : Nat} {f : Nat → List D} (h : ArrAt Z w b cap t n m f) (hb : w'.heap[b]? = w.heap[b]?) (hZ : ∀ o x, Z o x → Z' o x ∧ w'.heap[x]? = w.heap[x]?) : ArrAt Z' w' b cap t n m f := by
 obtain ⟨cs, h1, h2, h3, h4, h5⟩ := h
 exact ⟨cs, hb.trans h1, h2, h3, h4, fun e c he hc => ⟨(h5 e c he hc).1, (h5 e c he hc).2.mem hZ⟩⟩
theorem MatAt.map {Z Z' : Zn} {w w' : World} {b : Nat} {cp : Cp} {t t2 : TypeId} {nb n m2 n2 : Nat} {g g' : Nat → Nat → List D} (h : MatAt Z w b cp t t2 nb n m2 n2 g) (hb : w'.heap[b]? = w.heap[b]?) (hr : ∀ e x c, e < n → cp.r e = some (x, c) → ArrAt Z w x c t2 n2 m2 (g e) → ArrAt Z' w' x c t2 n2 m2 (g' e)) : MatAt Z' w' b cp t t2 nb n m2 n2 g' := by
 obtain ⟨cs, h1, h2, h3, h4, h5, h6⟩ := h
 exact ⟨cs, hb.trans h1, h2, h3, h4, fun e he => (fun ⟨x, c, p1, p2, p3, p4, p5⟩ => ⟨x, c, p1, p2, p3, p4, hr e x c he p1 p5⟩) (h5 e he), h6⟩
theorem BoxAt.mem {Z Z' : Zn} {w w' : World} {i : Nm} {b : Nat} {cap : Cp} {B : Box} (h : BoxAt Z w i b cap B) (hs : w.heap.size ≤ w'.heap.size) (hb : ∀ x, Foot B (some (some (b, cap))) x → w'.heap[x]? = w.heap[x]?) (hZ : ∀ o x, Z o x → Z' o x ∧ w'.heap[x]? = w.heap[x]?) : BoxAt Z' w' i b cap B := by
 have hb0 := hb b (.root rfl)
 cases B with
 | lit t ds => obtain ⟨cs, h1, h2, h3⟩ := h; exact ⟨cs, hb0.trans h1, h2, fun j hj => ⟨(h3 j hj).1, (h3 j hj).2.mem hZ⟩⟩
 | arr t n m f => exact ArrAt.mem h hb0 hZ
 | mat t t2 nb n m2 n2 g => exact MatAt.map h hb0 (fun e x c he hx hA => ArrAt.mem hA (hb x ⟨b, cap, rfl, .inr ⟨e, c, he, hx⟩⟩) hZ)
 | ice t n m f => exact h.imp fun _ h => ArrAt.mem h hb0 hZ
 | gone => exact Nat.lt_of_lt_of_le h hs
theorem BoxAt.nm {Z : Zn} {w : World} {i i' : Nm} {b : Nat} {cap : Cp} {B : Box} {p : Nat → Bool} (h : BoxAt Z w i b cap B) (hf : B.free p = true) (hi : ∀ k x, p k = true → i k = some x → i' k = some x) : BoxAt Z w i' b cap B := by
 cases B with
 | lit t ds => obtain ⟨cs, h1, h2, h3⟩ := h; exact ⟨cs, h1, h2, fun j hj => ⟨(h3 j hj).1, (h3 j hj).2.nm (freeL_at hf j hj) hi⟩⟩
 | _ => exact h
theorem BoxAt.grow {Z : Zn} {w : World} {i i' : Nm} {b : Nat} {cap : Cp} {B : Box} (h : BoxAt Z w i b cap B) (hi : ∀ k x, i k = some x → ∃ y, i' k = some y ∧ NmLe x y) : BoxAt Z w i' b cap B := by
 cases B with
 | lit t ds => obtain ⟨cs, h1, h2, h3⟩ := h; exact ⟨cs, h1, h2, fun j hj => ⟨(h3 j hj).1, (h3 j hj).2.grow hi⟩⟩
 | _ => exact h
theorem BoxAt.ext {Z : Zn} {w : World} {i i' : Nm} {b : Nat} {cap : Cp} {B : Box} (h : BoxAt Z w i b cap B) (hi : ∀ k x, i k = some x → i' k = some x) : BoxAt Z w i' b cap B := by
 cases B with
 | lit t ds => obtain ⟨cs, h1, h2, h3⟩ := h; exact ⟨cs, h1, h2, fun j hj => ⟨(h3 j hj).1, (h3 j hj).2.ext hi⟩⟩
 | _ => exact h
section
variable {S : Cx} {E E' : Nat → D} {H H' : Nat → Option Box} {Z Z' : Zn} {i i' : Nm} {a : Act} {w w' : World}
theorem getD_put {ts : Array Value} {d t : Nat} {v u : Value} (h : d < ts.size) : (ts.setIfInBounds d v).getD t u = if d = t then v else ts.getD t u := by
 simp only [Array.getD_eq_getD_getElem?, Array.getElem?_setIfInBounds]
 split
 ·subst_vars; simp [h]
 ·rfl
theorem Fits.put (h : Fits S E H Z i a w) {dst : Option Nat} {v : Value} {r : D} (hd : ∀ d, dst = some d → d < S.N) (hr : Rep Z w i v r) : Fits S (updE E dst r) H Z i (a.put dst v) w := by
 cases dst with
 | none => exact h
 | some d =>
  have hs := hd d rfl
  refine { h with size := by simp [Act.put, h.size], env := fun t => ?_ }
  show Rep Z w i ((a.tmps.setIfInBounds d v).getD t undef) (if d = t then r else E t)
  rw [getD_put (by rw [h.size]; exact hs)]
  split
  ·exact hr
  ·exact h.env t
/-- One step of the memory: boxes of the names L turn (or are new), all else is kept. -/
theorem Fits.stepG (h : Fits S E H Z i a w) (L : Nat → Prop) (hos : w'.os = w.os ∧ w'.tape = w.tape ∧ w'.output = w.output ∧ w.heap.size ≤ w'.heap.size)
  (hk : ∀ b, b < w.heap.size → (∀ k B, L k → H k = some B → B.mut = true → ¬ Foot B (i k) b) → w'.heap[b]? = w.heap[b]?)
  (hi : ∀ k, H k ≠ none → (¬ L k ∨ k < 1000) → i' k = i k) (hi2 : ∀ k x, i k = some x → ∃ y, i' k = some y ∧ NmLe x y) (hH : ∀ k, ¬ L k → H' k = H k) (hn : ∀ k, L k → H' k = none → i' k = none) (hn' : ∀ k, ¬ L k → H k = none → i' k = none) (hlo : ∀ k, k < 1000 → H k = none → i' k = none)
  (hZ : ∀ o b, Z o b → Z' o b) (hZ2 : ∀ b, Z' true b → Z true b ∨ (b < w'.heap.size ∧ S.w0.heap.size ≤ b ∧ (w.heap.size ≤ b ∨ ∃ k B, L k ∧ H k = some B ∧ B.mut = true ∧ Foot B (i k) b) ∧ ∀ k B, L k → H' k = some B → B.mut = true → ¬ Foot B (i' k) b)) (hZ3 : ∀ b, Z' false b → Z' true b ∧ S.w0.heap.size ≤ b)
  (hB : ∀ k B, L k → H' k = some B → BoxOk S Z' w' i' k B)
  (hO : ∀ k B b, L k → H' k = some B → B.mut = true → Foot B (i' k) b → (w.heap.size ≤ b ∧ b < w'.heap.size) ∨ ∃ k2 B2, L k2 ∧ (k2 < 1000 → (∃ c, i k2 = some (some (b, c))) → k < 1000 ∧ ∃ c, i' k = some (some (b, c))) ∧ H k2 = some B2 ∧ B2.mut = true ∧ Foot B2 (i k2) b)
  (hj : ∀ k k' B B' b, L k → L k' → H' k = some B → H' k' = some B' → B.mut = true → B'.mut = true → Foot B (i' k) b → Foot B' (i' k') b → k = k')
  : Fits S E H' Z' i' a w' := by
 have hsz := h.kept.size
 have hs1 := h.kept1.size
 have hm : ∀ o x, Z o x → Z' o x ∧ w'.heap[x]? = w.heap[x]? := fun o x hx => by
  have hxt : Z true x := by cases o; exact h.zsub x hx; exact hx
  exact ⟨hZ o x hx, hk x (h.zOld x hxt).1 (fun k B _ hB hmu hf => (h.foot k B x hB hmu hf).2.2.1 hxt)⟩
 have old : ∀ k B, ¬ L k → H' k = some B → H k = some B ∧ i' k = i k := fun k B q hB' => by
  have := (hH k q).symm.trans hB'
  exact ⟨this, hi k (by rw [this]; simp) (.inl q)⟩
 have hnw : ∀ k B b, ¬ L k → H k = some B → B.mut = true → Foot B (i k) b → (∀ k2 B2, L k2 → H k2 = some B2 → B2.mut = true → ¬ Foot B2 (i k2) b) := fun k B b q hB' hmu hf k2 B2 q2 hB2 hm2 hf2 => q (h.inj k2 k B2 B b hB2 hB' hm2 hmu hf2 hf ▸ q2)
 have foot' : ∀ k B b, H' k = some B → B.mut = true → Foot B (i' k) b → b < w'.heap.size ∧ (S.w0.heap.size ≤ b ∨ (k < 1000 ∧ S.M b ∧ ∃ c, i' k = some (some (b, c)))) ∧ ¬ Z' true b ∧ (S.w1.heap.size ≤ b ∨ S.M1 b) := fun k B b hB' hmu hf => by
  by_cases q : L k
  ·rcases hO k B b q hB' hmu hf with ⟨p1, p2⟩ | ⟨k2, B2, p1, p2, p3, p4, p5⟩
   ·refine ⟨p2, .inl (by omega), fun hz => ?_, .inl (by omega)⟩
    rcases hZ2 b hz with r | ⟨_, _, _, r⟩
    ·have := (h.zOld b r).1; omega
    ·exact r k B q hB' hmu hf
   ·have f := h.foot k2 B2 b p3 p4 p5
    refine ⟨Nat.lt_of_lt_of_le f.1 hos.2.2.2, f.2.1.imp id (fun ⟨x, y, z⟩ => ⟨(p2 x z).1, y, (p2 x z).2⟩), fun hz => ?_, f.2.2.2⟩
    rcases hZ2 b hz with r | ⟨_, _, _, r⟩
    ·exact f.2.2.1 r
    ·exact r k B q hB' hmu hf
  ·obtain ⟨g1, g2⟩ := old k B q hB'
   rw [g2] at hf
   have f := h.foot k B b g1 hmu hf
   refine ⟨Nat.lt_of_lt_of_le f.1 hos.2.2.2, by rw [g2]; exact f.2.1, fun hz => ?_, f.2.2.2⟩
   rcases hZ2 b hz with r | ⟨_, _, r | ⟨k2, B2, r1, r2, r3, r4⟩, _⟩
   ·exact f.2.2.1 r
   ·have := f.1; omega
   ·exact hnw k B b q g1 hmu hf k2 B2 r1 r2 r3 r4
 refine { defers := ?_, size := h.size, kept := ⟨hos.1.trans h.kept.os, hos.2.1.trans h.kept.tape, hos.2.2.1.trans h.kept.output, Nat.le_trans hsz hos.2.2.2, fun b hb hM => ?_⟩, kept1 := ⟨hos.1.trans h.kept1.os, hos.2.1.trans h.kept1.tape, hos.2.2.1.trans h.kept1.output, Nat.le_trans hs1 hos.2.2.2, fun b hb hM => ?_⟩, zk1 := fun o b hb => hZ o b (h.zk1 o b hb), zsub := fun b hb => (hZ3 b hb).1, zOld := fun b hb => ?_, zNew := fun b hb => (hZ3 b hb).2, env := fun t => ((h.env t).mem hm).grow hi2, box := fun k B hBk => ?_, foot := foot', nil := fun k hk' => ?_, low := fun k hk' => ?_, inj := fun k k' B B' b h1 h2 m1 m2 f1 f2 => ?_ }
 ·obtain ⟨ms, e, hnd, hms⟩ := h.defers
  exact ⟨ms, e, hnd, fun b hb => ⟨(hm _ _ (hms b hb).1).1, (hm _ _ (hms b hb).1).2.trans (hms b hb).2⟩⟩
 ·refine (hk b (by omega) (fun k B _ hB' hmu hf => ?_)).trans (h.kept.block b hb hM)
  rcases (h.foot k B b hB' hmu hf).2.1 with q | ⟨_, q, _⟩
  ·omega
  ·exact hM q
 ·refine (hk b (by omega) (fun k B _ hB' hmu hf => ?_)).trans (h.kept1.block b hb hM)
  rcases (h.foot k B b hB' hmu hf).2.2.2 with q | q
  ·omega
  ·exact hM q
 ·rcases hZ2 b hb with q | ⟨q1, q2, _⟩
  ·exact ⟨Nat.lt_of_lt_of_le (h.zOld b q).1 hos.2.2.2, (h.zOld b q).2⟩
  ·exact ⟨q1, fun e => by omega⟩
 ·by_cases q : L k
  ·exact hB k B q hBk
  ·obtain ⟨hBk', hik⟩ := old k B q hBk
   rcases h.box k B hBk' with ⟨b, c, e1, e2, e3, e4, e5⟩ | ⟨e1, e2⟩
   ·refine .inl ⟨b, c, hik.trans e1, e2, fun hmu => ⟨(foot' k B b hBk hmu (.root (hik.trans e1))).2.2.1, (e3 hmu).2⟩, fun hic => hZ _ _ (e4 hic), ?_⟩
    by_cases hmu : B.mut = true
    ·exact (e5.mem hos.2.2.2 (fun x hx => hk x (e5.footLt hx) (hnw k B x q hBk' hmu (e1 ▸ hx))) hm).grow hi2
    ·cases B with
     | gone => exact Nat.lt_of_lt_of_le e5 hos.2.2.2
     | ice t n m f => exact e5.imp fun _ e5 => ArrAt.mem e5 (hm _ _ (e4 rfl)).2 hm
     | lit => exact absurd rfl hmu
     | arr => exact absurd rfl hmu
     | mat => exact absurd rfl hmu
   ·exact .inr ⟨hik.trans e1, e2⟩
 ·by_cases q : L k
  ·exact hn k q hk'
  ·exact hn' k q ((hH k q).symm.trans hk')
 ·by_cases q : H k = none
  ·rw [hlo k hk' q, ← h.low k hk', h.nil k q]
  ·rw [← h.low k hk']; exact hi k q (.inr hk')
 ·by_cases q : L k
  ·by_cases q' : L k'
   ·exact hj k k' B B' b q q' h1 h2 m1 m2 f1 f2
   ·exfalso
    obtain ⟨g1, g2⟩ := old k' B' q' h2
    rw [g2] at f2
    rcases hO k B b q h1 m1 f1 with ⟨p1, _⟩ | ⟨k2, B2, p1, _, p3, p4, p5⟩
    ·have := (h.foot k' B' b g1 m2 f2).1; omega
    ·exact hnw k' B' b q' g1 m2 f2 k2 B2 p1 p3 p4 p5
  ·obtain ⟨g1, g2⟩ := old k B q h1
   rw [g2] at f1
   by_cases q' : L k'
   ·exfalso
    rcases hO k' B' b q' h2 m2 f2 with ⟨p1, _⟩ | ⟨k2, B2, p1, _, p3, p4, p5⟩
    ·have := (h.foot k B b g1 m1 f1).1; omega
    ·exact hnw k B b q g1 m1 f1 k2 B2 p1 p3 p4 p5
   ·obtain ⟨g1', g2'⟩ := old k' B' q' h2
    rw [g2'] at f2
    exact h.inj k k' B B' b g1 g1' m1 m2 f1 f2
/-- .. where names stand for what they stood for. -/
theorem Fits.step (h : Fits S E H Z i a w) (L : Nat → Prop) (hos : w'.os = w.os ∧ w'.tape = w.tape ∧ w'.output = w.output ∧ w.heap.size ≤ w'.heap.size)
  (hk : ∀ b, b < w.heap.size → (∀ k B, L k → H k = some B → B.mut = true → ¬ Foot B (i k) b) → w'.heap[b]? = w.heap[b]?)
  (hi : ∀ k, H k ≠ none → i' k = i k) (hH : ∀ k, ¬ L k → H' k = H k) (hn : ∀ k, L k → H' k = none → i' k = none) (hn' : ∀ k, ¬ L k → H k = none → i' k = none) (hlo : ∀ k, k < 1000 → H k = none → i' k = none)
  (hZ : ∀ o b, Z o b → Z' o b) (hZ2 : ∀ b, Z' true b → Z true b ∨ (b < w'.heap.size ∧ S.w0.heap.size ≤ b ∧ (w.heap.size ≤ b ∨ ∃ k B, L k ∧ H k = some B ∧ B.mut = true ∧ Foot B (i k) b) ∧ ∀ k B, L k → H' k = some B → B.mut = true → ¬ Foot B (i' k) b)) (hZ3 : ∀ b, Z' false b → Z' true b ∧ S.w0.heap.size ≤ b)
  (hB : ∀ k B, L k → H' k = some B → BoxOk S Z' w' i' k B)
  (hO : ∀ k B b, L k → H' k = some B → B.mut = true → Foot B (i' k) b → (w.heap.size ≤ b ∧ b < w'.heap.size) ∨ ∃ k2 B2, L k2 ∧ (k2 < 1000 → (∃ c, i k2 = some (some (b, c))) → k < 1000 ∧ ∃ c, i' k = some (some (b, c))) ∧ H k2 = some B2 ∧ B2.mut = true ∧ Foot B2 (i k2) b)
  (hj : ∀ k k' B B' b, L k → L k' → H' k = some B → H' k' = some B' → B.mut = true → B'.mut = true → Foot B (i' k) b → Foot B' (i' k') b → k = k')
  : Fits S E H' Z' i' a w' :=
 h.stepG L hos hk (fun k q _ => hi k q) (fun k x e => ⟨x, (hi k (fun q => by rw [h.nil k q] at e; cases e)).trans e, .inl rfl⟩) hH hn hn' hlo hZ hZ2 hZ3 hB hO hj
end
end Go.Proofs.YtmjildbdkecolaaGreat
