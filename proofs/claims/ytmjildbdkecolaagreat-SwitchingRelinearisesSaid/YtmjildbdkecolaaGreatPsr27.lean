/- Renaming, ranges over functions, calls that turn a box: by lists. No walk.
A call that turns a box and whose result names it. No walk.
Rows of rows, by lists: frozen, said otherwise, as results. No walk.
Arguments that were written out. No walk. -/
import Derived.Test.YtmjildbdkecolaaGreatPsr26
set_option linter.unusedSimpArgs false
set_option linter.unusedVariables false
set_option linter.unnecessarySimpa false
namespace Go.Proofs.YtmjildbdkecolaaGreat
open Go.RowKit

def pinN (ps : List Nat) (k : Nat) : Nat := match inN ps k with
 | true => k - 900
 | false => k
def unpN (ps : List Nat) (x : Nat) : Nat := match inN ps (x + 900) with
 | true => x + 900
 | false => x
def toN (a b k : Nat) : Nat := match Nat.beq a k with
 | true => b
 | false => k
theorem pin_y {ps : List Nat} {k : Nat} (h : inN ps k = true) : pinN ps k = k - 900 := by unfold pinN; rw [h]
theorem pin_n {ps : List Nat} {k : Nat} (h : inN ps k = false) : pinN ps k = k := by unfold pinN; rw [h]
theorem unp_y {ps : List Nat} {k : Nat} (h : inN ps (k + 900) = true) : unpN ps k = k + 900 := by unfold unpN; rw [h]
theorem unp_n {ps : List Nat} {k : Nat} (h : inN ps (k + 900) = false) : unpN ps k = k := by unfold unpN; rw [h]
theorem to_y {a b k : Nat} (h : Nat.beq a k = true) : toN a b k = b := by unfold toN; rw [h]
theorem to_n {a b k : Nat} (h : Nat.beq a k = false) : toN a b k = k := by unfold toN; rw [h]
inductive RenLL (r : Nat → Nat) : List D → List D → Prop where
 | nil : RenLL r [] []
 | cons {d d' : D} {l l' : List D} (h : d.ren r = d') (k : RenLL r l l') : RenLL r (d :: l) (d' :: l')
theorem RenLL.eq {r : Nat → Nat} {l l' : List D} (h : RenLL r l l') : D.ren.renL r l = l' := by
 induction h with
 | nil => rfl
 | cons h _ ih => simp only [D.ren.renL]; rw [h, ih]
theorem ren_eptr {r : Nat → Nat} {k k' m e c : Nat} (h : r k = k') : (D.eptr k m e c).ren r = .eptr k' m e c := by simp only [D.ren]; rw [h]
theorem ren_sl {r : Nat → Nat} {k k' m n : Nat} (h : r k = k') : (D.sl k m n).ren r = .sl k' m n := by simp only [D.ren]; rw [h]
theorem ren_clo {r : Nat → Nat} {f : FuncId} {l l' : List D} (h : RenLL r l l') : (D.clo f l).ren r = .clo f l' := by simp only [D.ren]; rw [h.eq]
theorem ren_agg {r : Nat → Nat} {l l' : List D} (h : RenLL r l l') : (D.agg l).ren r = .agg l' := by simp only [D.ren]; rw [h.eq]
theorem ren_tup {r : Nat → Nat} {l l' : List D} (h : RenLL r l l') : (D.tup l).ren r = .tup l' := by simp only [D.ren]; rw [h.eq]
theorem renb_lit {r : Nat → Nat} {t : TypeId} {l l' : List D} (h : RenLL r l l') : (Box.lit t l).ren r = .lit t l' := by simp only [Box.ren]; rw [h.eq]
inductive RenEL (r : Nat → Nat) : List (Nat × D) → List (Nat × D) → Prop where
 | nil : RenEL r [] []
 | cons {t : Nat} {d d' : D} {l l' : List (Nat × D)} (h : d.ren r = d') (k : RenEL r l l') : RenEL r ((t, d) :: l) ((t, d') :: l')
theorem RenEL.eq {r : Nat → Nat} {l l' : List (Nat × D)} (h : RenEL r l l') : renE r l = l' := by
 induction h with
 | nil => rfl
 | cons h _ ih => simp only [renE]; rw [h, ih]
inductive RenBL (r : Nat → Nat) : List (Nat × Option Box) → List (Nat × Option Box) → Prop where
 | nil : RenBL r [] []
 | cons {k k' : Nat} {B B' : Box} {l l' : List (Nat × Option Box)} (h : r k = k') (hB : B.ren r = B') (q : RenBL r l l') : RenBL r ((k, some B) :: l) ((k', some B') :: l')
theorem RenBL.eq {r : Nat → Nat} {l l' : List (Nat × Option Box)} (h : RenBL r l l') : renB r l = l' := by
 induction h with
 | nil => rfl
 | cons h hB _ ih => simp only [renB, Option.map]; rw [h, hB, ih]
inductive ZipL : List Nat → List D → List (Nat × D) → List (Nat × D) → Prop where
 | nil {E : List (Nat × D)} : ZipL [] [] E E
 | cons {t : Nat} {d : D} {ts : List Nat} {ds : List D} {E E' : List (Nat × D)} (h : ZipL ts ds E E') : ZipL (t :: ts) (d :: ds) E ((t, d) :: E')
theorem ZipL.eq {ts : List Nat} {ds : List D} {E E' : List (Nat × D)} (h : ZipL ts ds E E') : zipE ts ds ++ E = E' := by
 induction h with
 | nil => rfl
 | cons _ ih => simp only [zipE, List.cons_append]; rw [ih]
/-- Boxes get other names, here. -/
theorem sub_ren {env : List (Nat × D)} {box : List (Nat × Option Box)} {r s : Nat → Nat} (hr : Two r s box) (hs : ∀ k, k < 1000 → s k = k) : Sub (lk env) (hk box) (lk (renE r env)) (hk (renB r box)) := fun S a w ⟨Z, i, h⟩ => by
 have hat := renB_at (r := r) (s := s) box hr.back
 have hH : ∀ k B, hk (renB r box) k = some B → r (s k) = k ∧ ∃ B0, hk box (s k) = some B0 ∧ B = B0.ren r ∧ nmR r s i k = i (s k) := fun k B hB => by
  rw [hat] at hB
  by_cases q : r (s k) = k
  ·rw [if_pos q] at hB
   cases e : hk box (s k) with
   | none => rw [e] at hB; cases hB
   | some B0 => rw [e] at hB; cases hB; exact ⟨q, B0, rfl, rfl, by unfold nmR; rw [if_pos q]⟩
  ·rw [if_neg q] at hB; cases hB
 refine ⟨Z, nmR r s i, { h with env := fun t => by rw [renE_at]; exact (h.env t).rename (fun k x e => h.nmR_at hr e), box := fun k B hB => ?_, foot := fun k B b hB hm hf => ?_, nil := fun k hk' => ?_, low := fun k hk' => by unfold nmR; rw [hs k hk', hr.low k hk', if_pos rfl]; exact h.low k hk', inj := fun k k' B B' b h1 h2 m1 m2 e1 e2 => ?_ }⟩
 ·obtain ⟨q, B0, g1, rfl, g3⟩ := hH k B hB
  rcases h.box _ B0 g1 with ⟨b, c, e1, e2, e3, e4, e5⟩ | ⟨e1, e2⟩
  ·refine .inl ⟨b, c, g3.trans e1, e2.imp id (fun ⟨p1, p2⟩ => ⟨by rw [← q, hr.low _ p1]; exact p1, p2⟩), fun hm => ?_, fun hi => ?_, e5.ren (fun k x e => h.nmR_at hr e)⟩
   ·rw [Box.ren_mut] at hm; exact e3 hm
   ·rw [Box.ren_ice] at hi; exact e4 hi
  ·exact .inr ⟨g3.trans e1, Box.ren_nil e2⟩
 ·obtain ⟨q, B0, g1, rfl, g3⟩ := hH k B hB
  rw [Box.ren_mut] at hm
  have f := h.foot _ B0 b g1 hm (g3 ▸ hf.unren)
  exact ⟨f.1, f.2.1.imp id (fun ⟨p1, p2, c, p3⟩ => ⟨by rw [← q, hr.low _ p1]; exact p1, p2, c, g3.trans p3⟩), f.2.2⟩
 ·rw [hat] at hk'
  unfold nmR
  by_cases q : r (s k) = k
  ·rw [if_pos q] at hk' ⊢
   cases e : hk box (s k) with
   | none => exact h.nil _ e
   | some B0 => rw [e] at hk'; cases hk'
  ·rw [if_neg q]
 ·obtain ⟨q, B0, g1, rfl, g3⟩ := hH k B h1
  obtain ⟨q', B0', g1', rfl, g3'⟩ := hH k' B' h2
  rw [Box.ren_mut] at m1 m2
  rw [← q, ← q', h.inj _ _ _ _ b g1 g1' m1 m2 (g3 ▸ e1.unren) (g3' ▸ e2.unren)]
theorem two_of {r s : Nat → Nat} {box : List (Nat × Option Box)} (hl : ∀ k, k < 1000 → r k = k) (h : (box.all fun x => Nat.beq (s (r x.1)) x.1) = true) : Two r s box := ⟨hl, fun x hx => by simpa using List.all_eq_true.1 h x hx⟩
theorem pin_low {ps : List Nat} (h : (ps.all fun k => Nat.ble 1000 k) = true) (k : Nat) (hk : k < 1000) : pinN ps k = k := pin_n (by
 cases e : inN ps k with
 | false => rfl
 | true =>
  unfold inN at e
  obtain ⟨x, h1, h2⟩ := List.any_eq_true.1 e
  have := List.all_eq_true.1 h x h1
  simp at h2 this
  omega)
theorem sub_toE (a b : Nat) {env : List (Nat × D)} {box box1 box' : List (Nat × Option Box)} {E2 : Nat → D} {H2 : Nat → Option Box} (h : Sub (lk []) (hk box') E2 H2)
  (hbk : KeepB [b] box box1 := by (repeat (first | exact KeepB.nil | apply KeepB.drop rfl | apply KeepB.keep))) (hB : RenBL (toN a b) box1 box' := by (repeat (first | exact RenBL.nil | (apply RenBL.cons; (focus ((first | exact to_y rfl | exact to_n rfl); done)); (focus ((first | exact renb_free rfl | exact renb_lit (by (repeat (first | exact RenLL.nil | (apply RenLL.cons; (focus ((first | exact D.ren_free _ rfl | exact ren_eptr (by first | exact to_y rfl | exact to_n rfl) | exact ren_sl (by first | exact to_y rfl | exact to_n rfl)); done))))))); done)))))) (h1 : Nat.ble 1000 a = true := by rfl) (h2 : (box1.all fun x => Nat.beq (toN b a (toN a b x.1)) x.1) = true := by kernel_rfl) (h3 : Nat.ble 1000 b = true := by rfl)
  (hs : Sub (lk env) (hk box) (lk []) (hk box1) := by exact sub) : Sub (lk env) (hk box) E2 H2 := by
 refine hs.trans (Sub.trans ?_ h)
 have := sub_ren (env := []) (two_of (r := toN a b) (s := toN b a) (box := box1) (fun k hk => to_n (beq_ne (by have := Nat.le_of_ble_eq_true h1; omega))) h2) (fun k hk => to_n (beq_ne (by have := Nat.le_of_ble_eq_true h3; omega)))
 rw [hB.eq] at this
 exact this
theorem appF_snoc {n : Nat} {f g : Nat → List D} (h : g 0 = f n) : ∀ e, e < n + 1 → appF n f g e = f e := fun e he => by
 unfold appF
 by_cases q : e < n
 ·rw [show Nat.blt e n = true from blt_of q]
 ·obtain rfl : e = n := by omega
  rw [show Nat.blt e e = false by cases hb : Nat.blt e e; rfl; exact absurd (by simpa using hb) (Nat.lt_irrefl e), Nat.sub_self]; exact h
/-- A row, said otherwise. -/
theorem sub_arr (k : Nat) (f' : Nat → List D) {env : List (Nat × D)} {box : List (Nat × Option Box)} {t : TypeId} {n m : Nat} {f : Nat → List D} {E2 : Nat → D} {H2 : Nat → Option Box} (he : ∀ e, e < n → f e = f' e) (hl : ∀ e, (f' e).length = m) (h : Sub (lk env) (hk ((k, some (.arr t n m f')) :: box)) E2 H2) (hb : Bl box k (.arr t n m f) := by (repeat (first | exact Bl.here | apply Bl.there rfl))) : Sub (lk env) (hk box) E2 H2 :=
 Sub.trans (sub_box k (.arr t n m f') (by rw [hb.eq]; exact .arr (Nat.le_refl _) (fun e hn => ⟨hl e, fun c hc => by rw [he e hn]; exact inferInstance⟩)) rfl) h
theorem c_arr (k : Nat) (f' : Nat → List D) {ro : Option Nat} {P : Program} {N : Nat} {Q : Post} {c : Code} {env : List (Nat × D)} {box : List (Nat × Option Box)} {t : TypeId} {n m : Nat} {f : Nat → List D} (he : ∀ e, e < n → f e = f' e) (hl : ∀ e, (f' e).length = m) (h : AWp ro P N c (lk env) (hk ((k, some (.arr t n m f')) :: box)) Q) (hb : Bl box k (.arr t n m f) := by (repeat (first | exact Bl.here | apply Bl.there rfl))) : AWp ro P N c (lk env) (hk box) Q :=
 awp_sub (sub_arr k f' he hl (Sub.refl _ _) hb) h
theorem fin_arr (k : Nat) (f' : Nat → List D) {P : Program} {fn : Func} {r : D} {hs rs : Hs} {env : List (Nat × D)} {box : List (Nat × Option Box)} {t : TypeId} {n m : Nat} {f : Nat → List D} (he : ∀ e, e < n → f e = f' e) (hl : ∀ e, (f' e).length = m) (h : FinS P fn r hs rs (lk env) (hk ((k, some (.arr t n m f')) :: box))) (hb : Bl box k (.arr t n m f) := by (repeat (first | exact Bl.here | apply Bl.there rfl))) : FinS P fn r hs rs (lk env) (hk box) :=
 h.sub (sub_arr k f' he hl (Sub.refl _ _) hb)
section
variable {ro : Option Nat} {P : Program} {N : Nat} {Q : Post} {env env1 : List (Nat × D)} {box : List (Nat × Option Box)}
/-- A RANGE OVER A FUNCTION. pins: the boxes that the loop's slots name (there 900 less); X k: what comes at round k; B k: the boxes when k rounds are over, by the rounds' names; BX y: where a round leaves by ex y. -/
theorem c_range {α : Type} (pins : List Nat) {f : FuncId} {caps : List D} {xs : List (List D)} (hit : ItrD P f caps xs) (n : Nat) (hn : xs.length = n) (X : Nat → List D) (hX : ∀ k, k < n → xs[k]? = some (X k)) (B : Nat → List (Nat × Option Box)) (BX : α → List (Nat × Option Box)) (ok : α → Prop) (ex : α → Code) (F : Nat → Prop)
  {g : Operand} {ps : List Tmp} {assign body : Code} {caps0 : List D} {fn : Func} {EZ ER : Nat → List (Nat × D)} {BS : Nat → List (Nat × Option Box)} {BXS : α → List (Nat × Option Box)} [hf : FI P f fn] [hod : OldDL caps] [hcv : Cvt (.clo f caps0) (.clo f caps)]
  (hF0 : F 0) (hround : ∀ k l, k < n → F k → AWp (some l) P N assign (lk (ER k)) (hk (B k)) (AThen (fun E1 H1 => AWp (some l) P N body E1 H1 (RndP (F (k + 1)) (B (k + 1)) BX ok ex)) (fun _ _ _ => False)))
  (hdone : F n → Q .normal (lk env1) (hk (BS n))) (hstop : ∀ y, ok y → Q (exitOf (ex y)) (lk env1) (hk (BXS y)))
  (he : KeepE [] env env1 := by (repeat (first | exact KeepE.nil | apply KeepE.drop rfl | (with_reducible apply KeepE.whn) | apply KeepE.keep))) (hBS : ∀ k, RenBL (unpN pins) (B k) (BS k) := by (intro k; (repeat (first | exact RenBL.nil | (apply RenBL.cons; (focus ((first | exact unp_y rfl | exact unp_n rfl); done)); (focus ((first | exact renb_free rfl | exact renb_lit (by (repeat (first | exact RenLL.nil | (apply RenLL.cons; (focus ((first | exact D.ren_free _ rfl | exact ren_eptr (by first | exact unp_y rfl | exact unp_n rfl) | exact ren_sl (by first | exact unp_y rfl | exact unp_n rfl)); done))))))); done))))))) (hBX : ∀ y, RenBL (unpN pins) (BX y) (BXS y) := by (intro k; (repeat (first | exact RenBL.nil | (apply RenBL.cons; (focus ((first | exact unp_y rfl | exact unp_n rfl); done)); (focus ((first | exact renb_free rfl | exact renb_lit (by (repeat (first | exact RenLL.nil | (apply RenLL.cons; (focus ((first | exact D.ren_free _ rfl | exact ren_eptr (by first | exact unp_y rfl | exact unp_n rfl) | exact ren_sl (by first | exact unp_y rfl | exact unp_n rfl)); done))))))); done))))))) (hEZ : ∀ k, ZipL ps (X k) env1 (EZ k) := by (intro k; (repeat (first | exact ZipL.nil | apply ZipL.cons)))) (hER : ∀ k, RenEL (pinN pins) (EZ k) (ER k) := by (intro k; (repeat (first | exact RenEL.nil | (apply RenEL.cons; (focus ((first | exact D.ren_free _ rfl | exact ren_eptr (by first | exact pin_y rfl | exact pin_n rfl) | exact ren_sl (by first | exact pin_y rfl | exact pin_n rfl) | exact ren_clo (by (repeat (first | exact RenLL.nil | (apply RenLL.cons; (focus ((first | exact D.ren_free _ rfl | exact ren_eptr (by first | exact pin_y rfl | exact pin_n rfl) | exact ren_sl (by first | exact pin_y rfl | exact pin_n rfl)); done)))))) | exact ren_agg (by (repeat (first | exact RenLL.nil | (apply RenLL.cons; (focus ((first | exact D.ren_free _ rfl | exact ren_eptr (by first | exact pin_y rfl | exact pin_n rfl) | exact ren_sl (by first | exact pin_y rfl | exact pin_n rfl)); done)))))) | exact ren_tup (by (repeat (first | exact RenLL.nil | (apply RenLL.cons; (focus ((first | exact D.ren_free _ rfl | exact ren_eptr (by first | exact pin_y rfl | exact pin_n rfl) | exact ren_sl (by first | exact pin_y rfl | exact pin_n rfl)); done))))))); done)))))))
  (hg : Op1 env1 g (.clo f caps0) := by first | (constructor; (repeat constructor); done) | (apply o2; (focus ((repeat constructor); done)); assumption) | (apply o3; (focus ((repeat constructor); done)); assumption; assumption)) (h0 : Sub (lk env) (hk box) (lk env1) (hk (BS 0)) := by exact sub)
  (hex : ∀ y, ok y → ex y = .ret ∨ ∃ id, ex y = .exit id := by (intro y _; first | exact .inl rfl | exact .inr ⟨_, rfl⟩ | exact y.elim)) (hno : D.free.freeL (fun _ => false) caps0 = true := by rfl) (hps : (ps.all fun t => Nat.blt t N) = true := by rfl) (hnd : ps.Nodup := by decide) (hlen : ∀ k, (X k).length = ps.length := by (intro k; rfl))
  (h1 : ∀ k, ((B k).all fun x => Nat.beq (pinN pins (unpN pins x.1)) x.1) = true := by (intro k; kernel_rfl)) (h2 : ∀ y, ((BX y).all fun x => Nat.beq (pinN pins (unpN pins x.1)) x.1) = true := by (intro k; kernel_rfl)) (h3 : ∀ k, RenBL (pinN pins) (BS k) (B k) := by (intro k; (repeat (first | exact RenBL.nil | (apply RenBL.cons; (focus ((first | exact pin_y rfl | exact pin_n rfl); done)); (focus ((first | exact renb_free rfl | exact renb_lit (by (repeat (first | exact RenLL.nil | (apply RenLL.cons; (focus ((first | exact D.ren_free _ rfl | exact ren_eptr (by first | exact pin_y rfl | exact pin_n rfl) | exact ren_sl (by first | exact pin_y rfl | exact pin_n rfl)); done))))))); done))))))) (h4 : (pins.all fun k => Nat.ble 1000 k) = true := by rfl)
  (hfr : envFree (fun k => Nat.blt (pinN pins k) 1000 && Nat.beq (unpN pins (pinN pins k)) k) env1 = true := by kernel_rfl) : AWp none P N (.rangeFunc g ps.toArray assign body) (lk env) (hk box) Q := by
 have hB : ∀ k x, x ∈ B k → pinN pins (unpN pins x.1) = x.1 := fun k x hx => by simpa using List.all_eq_true.1 (h1 k) x hx
 have hB' : ∀ y x, x ∈ BX y → pinN pins (unpN pins x.1) = x.1 := fun k x hx => by simpa using List.all_eq_true.1 (h2 k) x hx
 refine awp_sub h0 ?_
 rw [← (hBS 0).eq]
 refine awp_range (r := pinN pins) (s := unpN pins) hit hg.opd hcv hno B BX ok ex F hF0 hex hps hnd (fun x hx => ?_) ⟨fun k hk => pin_low h4 k hk, fun x hx => ?_⟩ hB hB' (fun k => by rw [(hBS k).eq, (h3 k).eq]) hfr (Sub.refl _ _) (fun k x l hFk hx => ?_) (by rw [hn, (hBS n).eq]; exact hdone) (fun y hy => by rw [(hBX y).eq]; exact hstop y hy)
 ·obtain ⟨k, hk, rfl⟩ := List.getElem_of_mem hx
  have := hX k (by omega)
  rw [List.getElem?_eq_getElem hk] at this
  rw [Option.some.inj this]
  simpa using hlen k
 ·obtain ⟨y, y1, y2⟩ := renB_mem hx
  rw [y2, hB 0 y y1]
 ·have hk : k < n := by rw [← hn]; exact (List.getElem?_eq_some_iff.1 hx).1
  rw [hX k hk] at hx
  cases hx
  have := hround k l hk hFk
  rw [← (hER k).eq, ← (hEZ k).eq] at this
  simpa using this
end
section
variable {ro : Option Nat} {P : Program} {N : Nat} {Q : Post} {ops : Array Oper} {rest : List Oper} {env : List (Nat × D)} {box : List (Nat × Option Box)} {done : List Rec} {K : List Rec → List (Nat × D) → List (Nat × Option Box) → Prop} {d : Nat} {ty : TypeId} {pos : String} {aft : Array Edge}
theorem r_callM (k : Nat) {x : Operand} {xs : List Operand} {ts : Array TypeId} {f : FuncId} {fn : Func} {ds ads caps : List D} {r d0 : D} {B B' : Box} [hf : FI P f fn] [hod : OldDL ds] [hob : AllOld [(0, B)]] [hnew : NewD r] [hnb : AllNew [(0, B')]] (hden : DenH P f ds [(0, B)] r [(0, B')] []) (h : RunK P N ops rest ((d, r) :: env) ((k, some B') :: box) (done ++ [⟨nsOf box (ads ++ caps), some d, r, [(k, some B')], []⟩]) K) (hx : Op1 env x d0 := by first | (constructor; (repeat constructor); done) | (apply o2; (focus ((repeat constructor); done)); assumption) | (apply o3; (focus ((repeat constructor); done)); assumption; assumption)) (hcl : (d0 = .val (.func (.func f) #[] #[]) ∧ caps = []) ∨ d0 = .clo f caps := by first | exact .inl ⟨rfl, rfl⟩ | exact .inr rfl) (ha : Op1L env xs ads := by (repeat (first | exact Op1L.nil | apply Op1L.cons (by first | exact Op1.const _ | exact Op1.fn _ | exact Op1.gl _ | (apply Op1.whn; (focus (apply Op1.tmp; (repeat (first | exact Lk.here | apply Lk.there rfl)); done)); assumption) | (apply Op1.tmp; (repeat (first | exact Lk.here | apply Lk.there rfl)); done))))) (hb : Bl box k B := by (repeat (first | exact Bl.here | apply Bl.there rfl))) (hm : memB k (nsOf box (ads ++ caps)) = true := by kernel_rfl) (hv : ArgVL true [k] (nsOf box (ads ++ caps)) [0] (fun _ => k) (hk box) (ads ++ caps) ds := by (repeat' (first | exact ArgVL.nil | refine ArgVL.cons ?_ ?_ | exact CvVL.nil | refine CvVL.cons ?_ ?_ | exact ArgV.sl rfl rfl | exact ArgV.eptr rfl rfl | refine ArgV.cv ?_ | exact CvV.id rfl | exact CvV.cvt (CvV.id rfl) inferInstance | refine CvV.clo ?_ | refine CvV.agg ?_ | exact CvV.cvt (CvV.sl (Ba.is (by (first | (apply Ba.arr; (repeat (first | exact Bl.here | apply Bl.there rfl)); done) | (apply Ba.ice; (repeat (first | exact Bl.here | apply Bl.there rfl)))))) (by omega) rfl (by kernel_rfl)) inferInstance | exact CvV.cvt (CvV.slm (Bl.eq (by (repeat (first | exact Bl.here | apply Bl.there rfl)))) (by omega) rfl (by kernel_rfl)) inferInstance | exact CvV.cvt (CvV.slr (Bl.eq (by (repeat (first | exact Bl.here | apply Bl.there rfl)))) (by omega) (by omega) rfl (by kernel_rfl)) inferInstance | refine CvV.lit (c := 0) (Bl.eq (by (repeat (first | exact Bl.here | apply Bl.there rfl)))) rfl ?_ rfl (by kernel_rfl) | exact CvV.cvt (CvV.icep (Bl.eq (by (repeat (first | exact Bl.here | apply Bl.there rfl)))) (by omega) (by kernel_rfl)) inferInstance))) (hr : r.free (fun _ => false) = true := by rfl) (hbf : B'.free (fun _ => false) = true := by rfl) (hd : Nat.blt d N = true := by rfl) : RunK P N ops (⟨some d, .call { callee := .value x, args := xs.toArray, argTypes := ts }, ty, pos, aft, none⟩ :: rest) env box done K :=
 run_put (ws := [(k, some B')]) (fresh := []) (by have := loc_call (lend := true) (ρ := fun _ => k) (P := P) (N := N) (o := ⟨some d, .call { callee := .value x, args := xs.toArray, argTypes := ts }, ty, pos, aft, none⟩) rfl hd hx.opd hcl ha.opd hden hv (fun x C hm => by cases hm with | head => exact hb.eq | tail _ h => cases h) (fun x hx => memB_spec hm) rfl rfl (fun h => ⟨hnew, hnb⟩); rw [D.ren_free _ hr] at this; simp only [outL, List.append_nil, renb_free hbf] at this; exact this) rfl h
end
theorem c_cut0 (I : List (Nat × D)) {ro : Option Nat} {P : Program} {N : Nat} {Q : Post} {c y : Code} {env env1 env2 : List (Nat × D)} {box box1 : List (Nat × Option Box)} (h1 : AWp ro P N c (lk env) (hk box) (AThen (fun E H => Sub E H (lk env2) (hk box1)) Q)) (h2 : AWp ro P N y (lk env2) (hk box1) Q) (he : KeepE (dstsOf c ++ I.map (·.1)) env env1 := by (repeat (first | exact KeepE.nil | apply KeepE.drop rfl | (with_reducible apply KeepE.whn) | apply KeepE.keep))) (ha : AppL I env1 env2 := by (repeat (first | exact AppL.nil | apply AppL.cons))) (hb : KeepB [] box box1 := by (repeat (first | exact KeepB.nil | apply KeepB.drop rfl | apply KeepB.keep))) : AWp ro P N c (lk env) (hk box) (AThen (fun E H => AWp ro P N y E H Q) Q) :=
 h1.mono (fun e E H h => by
  cases e with
  | normal => exact awp_sub h h2
  | _ => exact h)
open Go.RowKit
set_option maxRecDepth 20000
section
variable {ro : Option Nat} {P : Program} {N : Nat} {Q : Post} {ops : Array Oper} {rest : List Oper} {env : List (Nat × D)} {box : List (Nat × Option Box)} {done : List Rec} {K : List Rec → List (Nat × D) → List (Nat × Option Box) → Prop} {d : Nat} {ty : TypeId} {pos : String} {aft : Array Edge}
theorem c_no {c : Operand} {b : Bool} {x y : Code} (h : AWp ro P N y (lk env) (hk box) Q) (hc : Op1 env c (.val (.bool b)) := by first | (constructor; (repeat constructor); done) | (apply o2; (focus ((repeat constructor); done)); assumption) | (apply o3; (focus ((repeat constructor); done)); assumption; assumption)) (hb : b = false := by rfl) : AWp ro P N (.cond c x y) (lk env) (hk box) Q := c_ifB (fun e => by rw [hb] at e; cases e) (fun _ => h) hc
end
open Go.RowKit
set_option maxRecDepth 20000
section
variable {ro : Option Nat} {P : Program} {N : Nat} {Q : Post} {c : Code} {env : List (Nat × D)} {box : List (Nat × Option Box)} {fn : Func} {r : D} {hs rs : Hs} {E2 : Nat → D} {H2 : Nat → Option Box}
theorem fin_freezeM (k : Nat) {t t2 : TypeId} {nb n m2 n2 : Nat} {g : Nat → Nat → List D} (h : FinS P fn r hs rs (lk env) (hk ((k, some (.ice t n 1 (fun e => [.fz false n2 m2 (g e)]))) :: box))) (hb : Bl box k (.mat t t2 nb n m2 n2 g) := by (repeat (first | exact Bl.here | apply Bl.there rfl))) (h100 : Nat.ble 1000 k = true := by rfl) : FinS P fn r hs rs (lk env) (hk box) := h.sub (sub_freezeM k hb.eq h100)
/-- The rows, said otherwise. -/
theorem sub_mat (k : Nat) (g' : Nat → Nat → List D) {t t2 : TypeId} {nb n m2 n2 : Nat} {g : Nat → Nat → List D} (he : ∀ e x, e < n → x < n2 → g e x = g' e x) (hl : ∀ e x, (g' e x).length = m2) (h : Sub (lk env) (hk ((k, some (.mat t t2 nb n m2 n2 g')) :: box)) E2 H2) (hb : Bl box k (.mat t t2 nb n m2 n2 g) := by (repeat (first | exact Bl.here | apply Bl.there rfl))) : Sub (lk env) (hk box) E2 H2 :=
 Sub.trans (sub_box k _ (by rw [hb.eq]; exact .mat (fun e he' x hx => ⟨hl e x, fun c hc => by rw [he e x he' hx]; exact inferInstance⟩)) rfl) h
theorem c_mat (k : Nat) (g' : Nat → Nat → List D) {t t2 : TypeId} {nb n m2 n2 : Nat} {g : Nat → Nat → List D} (he : ∀ e x, e < n → x < n2 → g e x = g' e x) (hl : ∀ e x, (g' e x).length = m2) (h : AWp ro P N c (lk env) (hk ((k, some (.mat t t2 nb n m2 n2 g')) :: box)) Q) (hb : Bl box k (.mat t t2 nb n m2 n2 g) := by (repeat (first | exact Bl.here | apply Bl.there rfl))) : AWp ro P N c (lk env) (hk box) Q := awp_sub (sub_mat k g' he hl (Sub.refl _ _) hb) h
theorem fin_mat (k : Nat) (g' : Nat → Nat → List D) {t t2 : TypeId} {nb n m2 n2 : Nat} {g : Nat → Nat → List D} (he : ∀ e x, e < n → x < n2 → g e x = g' e x) (hl : ∀ e x, (g' e x).length = m2) (h : FinS P fn r hs rs (lk env) (hk ((k, some (.mat t t2 nb n m2 n2 g')) :: box))) (hb : Bl box k (.mat t t2 nb n m2 n2 g) := by (repeat (first | exact Bl.here | apply Bl.there rfl))) : FinS P fn r hs rs (lk env) (hk box) := h.sub (sub_mat k g' he hl (Sub.refl _ _) hb)
theorem putG_at {n e : Nat} {g : Nat → Nat → List D} {f : Nat → List D} (h : e < n) : putG n g f e = g e := by unfold putG; rw [show Nat.blt e n = true by simpa using h]
theorem putG_new {n : Nat} {g : Nat → Nat → List D} {f : Nat → List D} : putG n g f n = f := by unfold putG; rw [blt_self]
/-- Rows that came in as they should. -/
theorem putG_snoc {n n2 : Nat} {g : Nat → Nat → List D} {f : Nat → List D} (h : ∀ x, x < n2 → f x = g n x) : ∀ e x, e < n + 1 → x < n2 → putG n g f e x = g e x := fun e x he hx => by
 by_cases q : e = n
 ·subst q; rw [putG_new]; exact h x hx
 ·rw [putG_at (by omega)]
/-- A nil slice in a variable gets a name: no rows. -/
theorem c_nilcellM (kb cc k : Nat) (tt t2 : TypeId) (m2 n2 : Nat) (g : Nat → Nat → List D) {tb : TypeId} {ds ds' : List D} (h : AWp ro P N c (lk env) (hk ((kb, some (.lit tb ds')) :: (k, some (.mat tt t2 0 0 m2 n2 g)) :: box)) Q) (hl : Bl box kb (.lit tb ds) := by (repeat (first | exact Bl.here | apply Bl.there rfl))) (hds : At ds cc (.val (.slice none 0 0)) := by (repeat (first | exact At.here | apply At.there))) (hp : PutL ds cc [.sl k 1 0] ds' := by (repeat (first | exact PutL.nil | apply PutL.cons | apply PutL.skip))) (hb : hk box k = none := by rfl) (h100 : Nat.ble 1000 k = true := by rfl) : AWp ro P N c (lk env) (hk box) Q :=
 awp_sub (sub_nilcellB kb cc k 1 _ (.inr ⟨_, _, _, _, _, rfl⟩) hl.eq hds.spec.2 hp.set.1 (blt_of hds.spec.1) hb h100) h
end
section
variable {ro : Option Nat} {P : Program} {N : Nat} {Q : Post} {c : Code} {env : List (Nat × D)} {box : List (Nat × Option Box)} {fn : Func} {r : D} {hs rs : Hs}
end
/-- Boxes that are results: they may name each other. -/
inductive BoxAllN (ks : List Nat) (box : List (Nat × Option Box)) : Hs → Prop where
 | nil : BoxAllN ks box []
 | cons {k : Nat} {B : Box} {hs : Hs} (h : Bl box k B) (hm : B.mut = true) (hf : B.free (fun x => memB x ks) = true) (r : BoxAllN ks box hs) : BoxAllN ks box ((k, B) :: hs)
theorem BoxAllN.at {ks : List Nat} {box : List (Nat × Option Box)} {hs : Hs} (h : BoxAllN ks box hs) : ∀ k B, (k, B) ∈ hs → hk box k = some B ∧ B.mut = true ∧ B.free (fun x => memB x ks) = true := by
 induction h with
 | nil => intro k B h; cases h
 | cons h hm hf _ ih =>
  intro k B hkB
  rcases List.mem_cons.1 hkB with e | e
  ·cases e; exact ⟨h.eq, hm, hf⟩
  ·exact ih k B e
/-- TO THE RESULT: boxes of the call's own. -/
theorem finN {P : Program} {env : List (Nat × D)} {box : List (Nat × Option Box)} {fn : Func} {r : D} {ds : List D} {rs : Hs}
  (hr : Res1 P env box fn.results.toList ds := by (repeat (first | exact Res1.nil | (apply Res1.tmp; (focus ((repeat (first | exact Lk.here | apply Lk.there rfl)); done))) | (apply Res1.one; (focus ((repeat (first | exact Lk.here | apply Lk.there rfl)); done)); (focus (rfl)); (focus ((repeat (first | exact Bl.here | apply Bl.there rfl)); done)); (focus (rfl)); (focus ((repeat (first | exact At.here | apply At.there)); done))) | (apply Res1.agg; (focus ((repeat (first | exact Lk.here | apply Lk.there rfl)); done)); (focus (rfl)); (focus ((repeat (first | exact Bl.here | apply Bl.there rfl)); done)); (focus (rfl)); (focus ((repeat (first | exact Sg.nil | apply Sg.take | apply Sg.drop)); done))))))
  (hd : resD ds = r := by rfl) (hf : r.free (fun k => memB k rs.keys) = true := by rfl) (hb : BoxAllN rs.keys box rs := by (repeat (first | exact BoxAllN.nil | (apply BoxAllN.cons; (focus ((repeat (first | exact Bl.here | apply Bl.there rfl)); done)); (focus (rfl)); (focus (rfl)))))) : FinS P fn r [] rs (lk env) (hk box) := by
 refine ⟨_, _, Sub.refl _ _, ds, hr.is, fun S a w Z i v hF hv => ?_, fun k B hm => hb.at k B hm⟩
 subst hd
 refine hv.nm hf (fun k x hk e => ?_)
 show (if k ∈ ([] ++ rs).map (fun y : Nat × Box => y.1) then i k else none) = some x
 have hm : k ∈ ([] ++ rs).map (fun y : Nat × Box => y.1) := memB_spec hk
 rw [if_pos hm]
 exact e
section
variable {ro : Option Nat} {P : Program} {N : Nat} {Q : Post} {ops : Array Oper} {rest : List Oper} {env : List (Nat × D)} {box : List (Nat × Option Box)} {done : List Rec} {K : List Rec → List (Nat × D) → List (Nat × Option Box) → Prop} {d : Nat} {ty : TypeId} {pos : String} {aft : Array Edge}
/-- A call whose result is rows of its own. -/
theorem r_callN {x : Operand} {xs : List Operand} {ts : Array TypeId} {f : FuncId} {fn : Func} {ds ads caps : List D} {r r' d0 : D} {k0 : Nat} {t t2 : TypeId} {nb n m2 n2 : Nat} {g : Nat → Nat → List D} [hf : FI P f fn] [hod : OldDL ds] [hnew : NewD r] [hnb : AllNew [(k0, (.mat t t2 nb n m2 n2 g))]] (hden : DenH P f ds [] r [] [(k0, (.mat t t2 nb n m2 n2 g))]) (hr : r.ren (fun _ => 1000 + d) = r') (h : RunK P N ops rest ((d, r') :: env) ((1000 + d, some (.mat t t2 nb n m2 n2 g)) :: box) (done ++ [⟨nsOf box (ads ++ caps), some d, r', [(1000 + d, some (.mat t t2 nb n m2 n2 g))], [1000 + d]⟩]) K) (hx : Op1 env x d0 := by first | (constructor; (repeat constructor); done) | (apply o2; (focus ((repeat constructor); done)); assumption) | (apply o3; (focus ((repeat constructor); done)); assumption; assumption)) (hcl : (d0 = .val (.func (.func f) #[] #[]) ∧ caps = []) ∨ d0 = .clo f caps := by first | exact .inl ⟨rfl, rfl⟩ | exact .inr rfl) (ha : Op1L env xs ads := by (repeat (first | exact Op1L.nil | apply Op1L.cons (by first | exact Op1.const _ | exact Op1.fn _ | exact Op1.gl _ | (apply Op1.whn; (focus (apply Op1.tmp; (repeat (first | exact Lk.here | apply Lk.there rfl)); done)); assumption) | (apply Op1.tmp; (repeat (first | exact Lk.here | apply Lk.there rfl)); done))))) (hv : ArgVL true [] (nsOf box (ads ++ caps)) [] (fun _ => 1000 + d) (hk box) (ads ++ caps) ds := by (repeat' (first | exact ArgVL.nil | refine ArgVL.cons ?_ ?_ | exact CvVL.nil | refine CvVL.cons ?_ ?_ | refine ArgV.cv ?_ | exact CvV.id rfl | exact CvV.cvt (CvV.id rfl) inferInstance | refine CvV.clo ?_ | refine CvV.agg ?_ | exact CvV.cvt (CvV.sl (Ba.is (by (first | (apply Ba.arr; (repeat (first | exact Bl.here | apply Bl.there rfl)); done) | (apply Ba.ice; (repeat (first | exact Bl.here | apply Bl.there rfl)))))) (by omega) rfl (by kernel_rfl)) inferInstance | exact CvV.cvt (CvV.ice (Bl.eq (by (repeat (first | exact Bl.here | apply Bl.there rfl)))) (by omega) (by kernel_rfl)) inferInstance | exact CvV.cvt (CvV.slm (Bl.eq (by (repeat (first | exact Bl.here | apply Bl.there rfl)))) (by omega) rfl (by kernel_rfl)) inferInstance | exact CvV.cvt (CvV.slr (Bl.eq (by (repeat (first | exact Bl.here | apply Bl.there rfl)))) (by omega) (by omega) rfl (by kernel_rfl)) inferInstance | refine CvV.lit (c := 0) (Bl.eq (by (repeat (first | exact Bl.here | apply Bl.there rfl)))) rfl ?_ rfl (by kernel_rfl) | exact CvV.icel (Bl.eq (by (repeat (first | exact Bl.here | apply Bl.there rfl)))) rfl (by kernel_rfl) (by rfl) | exact CvV.iceT (Bl.eq (by (repeat (first | exact Bl.here | apply Bl.there rfl)))) rfl (by kernel_rfl) (by rfl) | exact CvV.cvt (CvV.icep (Bl.eq (by (repeat (first | exact Bl.here | apply Bl.there rfl)))) (by omega) (by kernel_rfl)) inferInstance))) (hd : Nat.blt d N = true := by rfl) : RunK P N ops (⟨some d, .call { callee := .value x, args := xs.toArray, argTypes := ts }, ty, pos, aft, none⟩ :: rest) env box done K :=
 run_put (ws := [(1000 + d, some (.mat t t2 nb n m2 n2 g))]) (fresh := [1000 + d]) (by have := loc_call (lend := true) (ρ := fun _ => 1000 + d) (P := P) (N := N) (o := ⟨some d, .call { callee := .value x, args := xs.toArray, argTypes := ts }, ty, pos, aft, none⟩) rfl hd hx.opd hcl ha.opd hden hv (fun k B hm => by cases hm) (fun k hk => by cases hk) rfl rfl (fun h => ⟨hnew, hnb⟩); rw [hr] at this; exact this) rfl h
end
/-- Data of which a box's rows are frozen. -/
inductive FrD (k n : Nat) (F : Nat → List D) : D → D → Prop where
 | id {d : D} (h : d.free (fun _ => false) = true) : FrD k n F d d
 | sl {len : Nat} (h : len ≤ n) : FrD k n F (.sl k 1 len) (.fz false len 1 F)
 | agg1 {d d' : D} {l l' : List D} (h : FrD k n F d d') (t : FrD k n F (.agg l) (.agg l')) : FrD k n F (.agg (d :: l)) (.agg (d' :: l'))
 | agg0 : FrD k n F (.agg []) (.agg [])
 | tup1 {d d' : D} {l l' : List D} (h : FrD k n F d d') (t : FrD k n F (.tup l) (.tup l')) : FrD k n F (.tup (d :: l)) (.tup (d' :: l'))
 | tup0 : FrD k n F (.tup []) (.tup [])
theorem FrD.rep {k n m2 n2 nb : Nat} {t t2 : TypeId} {g : Nat → Nat → List D} {Z Z' : Zn} {w : World} {i : Nm} {b : Nat} {cp : Cp} (hi : i k = some (some (b, cp))) (hM : MatAt Z w b cp t t2 nb n m2 n2 g) (hz : ∀ o x, Z o x → Z' o x) (hf : ∀ x, Foot (.mat t t2 nb n m2 n2 g) (i k) x → Z' false x) {d d' : D} (h : FrD k n (fun e => [.fz false n2 m2 (g e)]) d d') : ∀ v, Rep Z w i v d → Rep Z' w noN v d' := by
 have mm : ∀ {v : Value} {d : D} {j : Nm}, Rep Z w j v d → Rep Z' w j v d := fun h => h.mem (fun o x hx => ⟨hz o x hx, rfl⟩)
 induction h with
 | id h => exact fun v hv => mm (hv.nm h (fun k x hk => by cases hk))
 | @sl len h =>
  intro v hv
  cases hv with
  | sl0 _ _ _ h' => rw [hi] at h'; cases h'
  | @sl _ b' _ _ _ cap hib h1 h2 =>
   rw [hi] at hib; cases hib
   obtain ⟨cs, hB, hcs, hnb, hnn, hrw, _⟩ := hM
   refine .fz _ _ _ len cp.c 1 _ (fun e _ => cs.getD e undef) h1 h2 (fun _ _ => rfl) (fun e c he hc => ⟨b, 0, rfl, hf b (.root hi), ?_, ?_⟩) (fun e c he hc => ?_)
   ·obtain rfl : c = 0 := by omega
    rw [Nat.mul_one, Nat.add_zero, Nat.zero_add]
    exact hB.cell _ (by omega)
   ·obtain ⟨b2, c2, p1, p2, p3, p4, p5⟩ := hrw e (by omega)
    rw [p3]; rfl
   ·obtain rfl : c = 0 := by omega
    obtain ⟨b2, c2, p1, p2, p3, p4, cs2, hB2, hs2, hnc2, hfl2, hall2⟩ := hrw e (by omega)
    have hf2 : Foot (.mat t t2 nb n m2 n2 g) (i k) b2 := ⟨b, cp, hi, .inr ⟨e, c2, by show e < n; omega, p1⟩⟩
    rw [p3]
    refine .fz _ _ _ n2 c2 m2 (g e) (fun y c => cs2.getD (y * m2 + c) undef) hnc2 p4 hfl2 (fun y c hy hc => ⟨b2, 0, rfl, hf b2 hf2, ?_, (hall2 y c hy hc).1⟩) (fun y c hy hc => mm (hall2 y c hy hc).2)
    have hlt : y * m2 + c < cs2.size := by
     have : (y + 1) * m2 ≤ c2 * m2 := Nat.mul_le_mul_right _ (by omega)
     rw [Nat.add_mul] at this; omega
    rw [Nat.zero_add]; exact hB2.cell _ hlt
 | agg0 => intro v hv; cases hv with | agg _ vs _ hl h1 hr => exact .agg _ vs _ hl h1 (fun j hj => by simp at hj)
 | tup0 => intro v hv; cases hv with | tup _ vs _ hl hr => exact .tup _ vs _ hl (fun j hj => by simp at hj)
 | agg1 h t ih1 ih2 =>
  intro v hv
  cases hv with | agg _ vs _ hl h1 hr =>
  match vs, hl with
  | v0 :: vs, hl =>
   have r0 := ih1 v0 (hr 0 (by simp))
   have r1 := ih2 _ (.agg i vs _ (by simpa using hl) (fun j hj => by have := h1 (j + 1) (by simpa using hj); simpa using this) (fun j hj => by have := hr (j + 1) (by simpa using hj); simpa [dl] using this))
   generalize hq : Value.agg vs.toArray = q at r1
   cases r1 with | agg _ us _ hl' h1' hr' =>
   obtain rfl : vs = us := by simpa using hq
   refine .agg _ (v0 :: vs) _ (by simpa using hl') (fun j hj => ?_) (fun j hj => ?_)
   ·cases j with
    | zero => exact h1 0 (by simp)
    | succ j => have := h1' j (by simpa using hj); simpa using this
   ·cases j with
    | zero => exact r0
    | succ j => have := hr' j (by simpa using hj); simpa [dl] using this
 | tup1 h t ih1 ih2 =>
  intro v hv
  cases hv with | tup _ vs _ hl hr =>
  match vs, hl with
  | v0 :: vs, hl =>
   have r0 := ih1 v0 (hr 0 (by simp))
   have r1 := ih2 _ (.tup i vs _ (by simpa using hl) (fun j hj => by have := hr (j + 1) (by simpa using hj); simpa [dl] using this))
   generalize hq : Value.tuple vs.toArray = q at r1
   cases r1 with | tup _ us _ hl' hr' =>
   obtain rfl : vs = us := by simpa using hq
   refine .tup _ (v0 :: vs) _ (by simpa using hl') (fun j hj => ?_)
   ·cases j with
    | zero => exact r0
    | succ j => have := hr' j (by simpa using hj); simpa [dl] using this
/-- A contract whose rows are frozen. -/
theorem DenH.frozen {P : Program} {f : FuncId} {ds : List D} {r r2 : D} {k0 nb n m2 n2 : Nat} {t t2 : TypeId} {g : Nat → Nat → List D} (h : DenH P f ds [] r [] [(k0, .mat t t2 nb n m2 n2 g)]) (hn : 0 < n) (hc : FrD k0 n (fun e => [.fz false n2 m2 (g e)]) r r2) : Den P f ds r2 := fun Zc w i args hZ hi hH ha => by
 refine (h Zc w i args hZ hi hH ha).mono (fun e w' ⟨v, i', Zn', p0, p1, p2, p3, p4, p5, pfl, p6, p7⟩ => ?_)
 obtain ⟨_, ⟨b, cp, q1, q2, q3⟩ | ⟨q1, q2⟩⟩ := p6.1 k0 (.mat t t2 nb n m2 n2 g) (by simp)
 ·have hft : ∀ x, Foot (.mat t t2 nb n m2 n2 g) (i' k0) x → w.heap.size ≤ x ∧ x < w'.heap.size := fun x hx => ⟨p5 k0 (.mat t t2 nb n m2 n2 g) x (by simp) hx, q3.footLt (q1 ▸ hx)⟩
  refine ⟨v, fun _ => none, fun x => Zn' x ∨ Foot (.mat t t2 nb n m2 n2 g) (i' k0) x, p0, p1, fun x hx => hx.elim (p2 x) (hft x), fun k hk => by simp [Hs.keys] at hk, fun _ _ _ => rfl, fun k B b hm => by simp at hm, fun k B hm => by simp at hm, ⟨fun k B hm => by simp at hm, fun k k' B B' b hm => by simp at hm⟩, ?_⟩
  exact (hc.rep (Z' := Z2 Zc fun x => Zn' x ∨ Foot (.mat t t2 nb n m2 n2 g) (i' k0) x) q1 q3 (fun o x hx => by
   cases o with
   | false => exact .inl hx
   | true => exact hx.imp id .inl) (fun x hx => .inr hx) v p7).of_noN
 ·rcases q2 with ⟨_, _, _, e⟩ | ⟨_, _, _, _, _, e⟩
  ·cases e
  ·cases e; omega
section
variable {P : Program} {N : Nat} {o : Oper} {E : Nat → D} {H : Nat → Option Box}
/-- What the data say of a value's form. -/
def Shp (d : D) (v : Value) : Prop := match d with
 | .val u => v = u
 | .sl .. => ∃ ao n c, v = .slice ao n c
 | .slr .. => ∃ ao n c, v = .slice ao n c
 | .fz .. => ∃ ao n c, v = .slice ao n c
 | _ => True
theorem Shp.of {Z : Zn} {w : World} {i : Nm} {v : Value} {d : D} (h : Rep Z w i v d) : Shp d v := by
 cases h with
 | val => rfl
 | sl => exact ⟨_, _, _, rfl⟩
 | sl0 => exact ⟨_, _, _, rfl⟩
 | slr => exact ⟨_, _, _, rfl⟩
 | fz => exact ⟨_, _, _, rfl⟩
 | _ => trivial
end
section
variable {P : Program} {N : Nat} {ops : Array Oper} {rest : List Oper} {env : List (Nat × D)} {box : List (Nat × Option Box)} {done : List Rec} {K : List Rec → List (Nat × D) → List (Nat × Option Box) → Prop} {d : Nat} {ty : TypeId} {pos : String} {aft : Array Edge}
end
open Go.RowKit
/-- Arguments said otherwise. -/
theorem DenH.arg {P : Program} {f : FuncId} {ds ds' : List D} {hs hs' rs : Hs} {r : D} (h : DenH P f ds' hs r hs' rs) (hc : CvtL ds ds') : DenH P f ds hs r hs' rs := fun Zc w i args hZ hi hH ha =>
 h Zc w i args hZ hi hH ⟨ha.1.trans hc.len, fun j hj => (hc.at j).cv (fun b hb => by cases hb.1) (ha.2 j (by rw [hc.len]; exact hj))⟩
theorem dl_any : ∀ {l : List D} {j : Nat}, l.length ≤ j → dl l j = .any
 | [], _, _ => rfl
 | _ :: _, 0, h => by simp at h
 | _ :: l, j + 1, h => dl_any (l := l) (by simpa using h)
theorem dl_seg' {l : List D} {c n j : Nat} : dl (takeL n (dropL c l)) j = if j < n then dl l (c + j) else .any := by
 by_cases q : j < n
 ·rw [if_pos q, dl_seg q]
 ·rw [if_neg q]
  refine dl_any ?_
  rw [takeL_eq]; simp; omega
instance (l : List D) (c n : Nat) [h : OldDL l] : OldDL (takeL n (dropL c l)) := ⟨fun j => by
 rw [dl_seg']
 split
 ·exact h.od _
 ·exact (inferInstance : OldD .any)⟩
instance (l : List D) (c n : Nat) [h : NewDL l] : NewDL (takeL n (dropL c l)) := ⟨fun j => by
 rw [dl_seg']
 split
 ·exact h.nw _
 ·exact (inferInstance : NewD .any)⟩
theorem CvtL.seg {l l' : List D} (h : CvtL l l') (s c : Nat) : CvtL (takeL s (dropL c l)) (takeL s (dropL c l')) := by
 induction h generalizing s c with
 | nil => cases c <;> cases s <;> exact .nil
 | cons h k ih =>
  cases c with
  | zero =>
   cases s with
   | zero => exact .nil
   | succ s => exact .cons h (ih s 0)
  | succ c => exact ih s c
instance (s c : Nat) (l l' : List D) [h : CvtLI l l'] : CvtLI (takeL s (dropL c l)) (takeL s (dropL c l')) := ⟨h.cv.seg s c⟩
instance (f : Nat → D) : CvtLI (List.map f []) [] := ⟨.nil⟩
/-- A list that was written out, as an argument. -/
abbrev litA (s n : Nat) (l : List D) : D := .fz true n s (fun e => takeL s (dropL (e * s) l))
theorem Cvt.litA {s n : Nat} {l : List D} {f : Nat → List D} (h : ∀ e, e < n → takeL s (dropL (e * s) l) = f e) (hl : ∀ e, e < n → (f e).length = s) : Cvt (litA s n l) (.fz true n s f) := Cvt.fz (.inl rfl) (fun e he => ⟨hl e he, fun c _ => by rw [h e he]; exact inferInstance⟩)
end Go.Proofs.YtmjildbdkecolaaGreat
