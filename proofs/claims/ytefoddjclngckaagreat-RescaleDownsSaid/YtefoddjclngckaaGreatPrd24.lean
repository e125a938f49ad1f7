/- Renaming, ranges over functions, calls that turn a box: by lists. No walk.
A call that turns a box and whose result names it. No walk. -/
import Derived.Test.YtefoddjclngckaaGreatPrd23
set_option linter.unusedSimpArgs false
set_option linter.unusedVariables false
set_option linter.unnecessarySimpa false
namespace Go.Proofs.YtefoddjclngckaaGreat
open Go.RowKit

def pinN (ps : List Nat) (k : Nat) : Nat := match inN ps k with
  | true => k - 900
  | false => k
def unpN (ps : List Nat) (x : Nat) : Nat := match inN ps (x + 900) with
  | true => x + 900
  | false => x
def toN (a b k : Nat) : Nat := match Nat.beq a k with
  | true => b
  | false => k
theorem pin_y {ps : List Nat} {k : Nat} (h : inN ps k = true) : pinN ps k = k - 900 := by unfold pinN; rw [h]
theorem pin_n {ps : List Nat} {k : Nat} (h : inN ps k = false) : pinN ps k = k := by unfold pinN; rw [h]
theorem unp_y {ps : List Nat} {k : Nat} (h : inN ps (k + 900) = true) : unpN ps k = k + 900 := by unfold unpN; rw [h]
theorem unp_n {ps : List Nat} {k : Nat} (h : inN ps (k + 900) = false) : unpN ps k = k := by unfold unpN; rw [h]
theorem to_y {a b k : Nat} (h : Nat.beq a k = true) : toN a b k = b := by unfold toN; rw [h]
theorem to_n {a b k : Nat} (h : Nat.beq a k = false) : toN a b k = k := by unfold toN; rw [h]
inductive RenLL (r : Nat → Nat) : List D → List D → Prop where
  | nil : RenLL r [] []
  | cons {d d' : D} {l l' : List D} (h : d.ren r = d') (k : RenLL r l l') : RenLL r (d :: l) (d' :: l')
theorem RenLL.eq {r : Nat → Nat} {l l' : List D} (h : RenLL r l l') : D.ren.renL r l = l' := by
  induction h with
  | nil => rfl
  | cons h _ ih => simp only [D.ren.renL]; rw [h, ih]
theorem ren_eptr {r : Nat → Nat} {k k' m e c : Nat} (h : r k = k') : (D.eptr k m e c).ren r = .eptr k' m e c := by simp only [D.ren]; rw [h]
theorem ren_sl {r : Nat → Nat} {k k' m n : Nat} (h : r k = k') : (D.sl k m n).ren r = .sl k' m n := by simp only [D.ren]; rw [h]
theorem ren_clo {r : Nat → Nat} {f : FuncId} {l l' : List D} (h : RenLL r l l') : (D.clo f l).ren r = .clo f l' := by simp only [D.ren]; rw [h.eq]
theorem ren_agg {r : Nat → Nat} {l l' : List D} (h : RenLL r l l') : (D.agg l).ren r = .agg l' := by simp only [D.ren]; rw [h.eq]
theorem ren_tup {r : Nat → Nat} {l l' : List D} (h : RenLL r l l') : (D.tup l).ren r = .tup l' := by simp only [D.ren]; rw [h.eq]
theorem renb_lit {r : Nat → Nat} {t : TypeId} {l l' : List D} (h : RenLL r l l') : (Box.lit t l).ren r = .lit t l' := by simp only [Box.ren]; rw [h.eq]
inductive RenEL (r : Nat → Nat) : List (Nat × D) → List (Nat × D) → Prop where
  | nil : RenEL r [] []
  | cons {t : Nat} {d d' : D} {l l' : List (Nat × D)} (h : d.ren r = d') (k : RenEL r l l') : RenEL r ((t, d) :: l) ((t, d') :: l')
theorem RenEL.eq {r : Nat → Nat} {l l' : List (Nat × D)} (h : RenEL r l l') : renE r l = l' := by
  induction h with
  | nil => rfl
  | cons h _ ih => simp only [renE]; rw [h, ih]
inductive RenBL (r : Nat → Nat) : List (Nat × Option Box) → List (Nat × Option Box) → Prop where
  | nil : RenBL r [] []
  | cons {k k' : Nat} {B B' : Box} {l l' : List (Nat × Option Box)} (h : r k = k') (hB : B.ren r = B') (q : RenBL r l l') : RenBL r ((k, some B) :: l) ((k', some B') :: l')
theorem RenBL.eq {r : Nat → Nat} {l l' : List (Nat × Option Box)} (h : RenBL r l l') : renB r l = l' := by
  induction h with
  | nil => rfl
  | cons h hB _ ih => simp only [renB, Option.map]; rw [h, hB, ih]
inductive ZipL : List Nat → List D → List (Nat × D) → List (Nat × D) → Prop where
  | nil {E : List (Nat × D)} : ZipL [] [] E E
  | cons {t : Nat} {d : D} {ts : List Nat} {ds : List D} {E E' : List (Nat × D)} (h : ZipL ts ds E E') : ZipL (t :: ts) (d :: ds) E ((t, d) :: E')
theorem ZipL.eq {ts : List Nat} {ds : List D} {E E' : List (Nat × D)} (h : ZipL ts ds E E') : zipE ts ds ++ E = E' := by
  induction h with
  | nil => rfl
  | cons _ ih => simp only [zipE, List.cons_append]; rw [ih]
/-- Boxes get other names, here. -/
theorem sub_ren {env : List (Nat × D)} {box : List (Nat × Option Box)} {r s : Nat → Nat} (hr : Two r s box) (hs : ∀ k, k < 1000 → s k = k) : Sub (lk env) (hk box) (lk (renE r env)) (hk (renB r box)) := fun S a w ⟨Z, i, h⟩ => by
  have hat := renB_at (r := r) (s := s) box hr.back
  have hH : ∀ k B, hk (renB r box) k = some B → r (s k) = k ∧ ∃ B0, hk box (s k) = some B0 ∧ B = B0.ren r ∧ nmR r s i k = i (s k) := fun k B hB => by
    rw [hat] at hB
    by_cases q : r (s k) = k
    · rw [if_pos q] at hB
      cases e : hk box (s k) with
      | none => rw [e] at hB; cases hB
      | some B0 => rw [e] at hB; cases hB; exact ⟨q, B0, rfl, rfl, by unfold nmR; rw [if_pos q]⟩
    · rw [if_neg q] at hB; cases hB
  refine ⟨Z, nmR r s i, { h with env := fun t => by rw [renE_at]; exact (h.env t).rename (fun k x e => h.nmR_at hr e), box := fun k B hB => ?_, foot := fun k B b hB hm hf => ?_, nil := fun k hk' => ?_, low := fun k hk' => by unfold nmR; rw [hs k hk', hr.low k hk', if_pos rfl]; exact h.low k hk', inj := fun k k' B B' b h1 h2 m1 m2 e1 e2 => ?_ }⟩
  · obtain ⟨q, B0, g1, rfl, g3⟩ := hH k B hB
    rcases h.box _ B0 g1 with ⟨b, c, e1, e2, e3, e4, e5⟩ | ⟨e1, e2⟩
    · refine .inl ⟨b, c, g3.trans e1, e2.imp id (fun ⟨p1, p2⟩ => ⟨by rw [← q, hr.low _ p1]; exact p1, p2⟩), fun hm => ?_, fun hi => ?_, e5.ren (fun k x e => h.nmR_at hr e)⟩
      · rw [Box.ren_mut] at hm; exact e3 hm
      · rw [Box.ren_ice] at hi; exact e4 hi
    · exact .inr ⟨g3.trans e1, Box.ren_nil e2⟩
  · obtain ⟨q, B0, g1, rfl, g3⟩ := hH k B hB
    rw [Box.ren_mut] at hm
    have f := h.foot _ B0 b g1 hm (g3 ▸ hf.unren)
    exact ⟨f.1, f.2.1.imp id (fun ⟨p1, p2, c, p3⟩ => ⟨by rw [← q, hr.low _ p1]; exact p1, p2, c, g3.trans p3⟩), f.2.2⟩
  · rw [hat] at hk'
    unfold nmR
    by_cases q : r (s k) = k
    · rw [if_pos q] at hk' ⊢
      cases e : hk box (s k) with
      | none => exact h.nil _ e
      | some B0 => rw [e] at hk'; cases hk'
    · rw [if_neg q]
  · obtain ⟨q, B0, g1, rfl, g3⟩ := hH k B h1
    obtain ⟨q', B0', g1', rfl, g3'⟩ := hH k' B' h2
    rw [Box.ren_mut] at m1 m2
    rw [← q, ← q', h.inj _ _ _ _ b g1 g1' m1 m2 (g3 ▸ e1.unren) (g3' ▸ e2.unren)]
theorem two_of {r s : Nat → Nat} {box : List (Nat × Option Box)} (hl : ∀ k, k < 1000 → r k = k) (h : (box.all fun x => Nat.beq (s (r x.1)) x.1) = true) : Two r s box := ⟨hl, fun x hx => by simpa using List.all_eq_true.1 h x hx⟩
theorem pin_low {ps : List Nat} (h : (ps.all fun k => Nat.ble 1000 k) = true) (k : Nat) (hk : k < 1000) : pinN ps k = k := pin_n (by
  cases e : inN ps k with
  | false => rfl
  | true =>
    unfold inN at e
    obtain ⟨x, h1, h2⟩ := List.any_eq_true.1 e
    have := List.all_eq_true.1 h x h1
    simp at h2 this
    omega)
/-- Box a is called b from here on. -/
theorem sub_to (a b : Nat) {env env1 env' : List (Nat × D)} {box box1 box' : List (Nat × Option Box)} {E2 : Nat → D} {H2 : Nat → Option Box} (h : Sub (lk env') (hk box') E2 H2)
    (he : KeepE [] env env1 := by (repeat (first | exact KeepE.nil | apply KeepE.drop rfl | (with_reducible apply KeepE.whn) | apply KeepE.keep))) (hE : RenEL (toN a b) env1 env' := by (repeat (first | exact RenEL.nil | (apply RenEL.cons; (focus ((first | exact D.ren_free _ rfl | exact ren_eptr (by first | exact to_y rfl | exact to_n rfl) | exact ren_sl (by first | exact to_y rfl | exact to_n rfl) | exact ren_clo (by (repeat (first | exact RenLL.nil | (apply RenLL.cons; (focus ((first | exact D.ren_free _ rfl | exact ren_eptr (by first | exact to_y rfl | exact to_n rfl) | exact ren_sl (by first | exact to_y rfl | exact to_n rfl)); done)))))) | exact ren_agg (by (repeat (first | exact RenLL.nil | (apply RenLL.cons; (focus ((first | exact D.ren_free _ rfl | exact ren_eptr (by first | exact to_y rfl | exact to_n rfl) | exact ren_sl (by first | exact to_y rfl | exact to_n rfl)); done)))))) | exact ren_tup (by (repeat (first | exact RenLL.nil | (apply RenLL.cons; (focus ((first | exact D.ren_free _ rfl | exact ren_eptr (by first | exact to_y rfl | exact to_n rfl) | exact ren_sl (by first | exact to_y rfl | exact to_n rfl)); done))))))); done)))))) (hbk : KeepB [] box box1 := by (repeat (first | exact KeepB.nil | apply KeepB.drop rfl | apply KeepB.keep))) (hB : RenBL (toN a b) box1 box' := by (repeat (first | exact RenBL.nil | (apply RenBL.cons; (focus ((first | exact to_y rfl | exact to_n rfl); done)); (focus ((first | exact renb_free rfl | exact renb_lit (by (repeat (first | exact RenLL.nil | (apply RenLL.cons; (focus ((first | exact D.ren_free _ rfl | exact ren_eptr (by first | exact to_y rfl | exact to_n rfl) | exact ren_sl (by first | exact to_y rfl | exact to_n rfl)); done))))))); done)))))) (h1 : Nat.ble 1000 a = true := by rfl) (h2 : (box1.all fun x => Nat.beq (toN b a (toN a b x.1)) x.1) = true := by kernel_rfl) (h3 : Nat.ble 1000 b = true := by rfl)
    (hs : Sub (lk env) (hk box) (lk env1) (hk box1) := by exact sub) : Sub (lk env) (hk box) E2 H2 := by
  refine hs.trans (Sub.trans ?_ h)
  have := sub_ren (env := env1) (two_of (r := toN a b) (s := toN b a) (box := box1) (fun k hk => to_n (beq_ne (by have := Nat.le_of_ble_eq_true h1; omega))) h2) (fun k hk => to_n (beq_ne (by have := Nat.le_of_ble_eq_true h3; omega)))
  rw [hE.eq, hB.eq] at this
  exact this
theorem sub_toE (a b : Nat) {env : List (Nat × D)} {box box1 box' : List (Nat × Option Box)} {E2 : Nat → D} {H2 : Nat → Option Box} (h : Sub (lk []) (hk box') E2 H2)
    (hbk : KeepB [b] box box1 := by (repeat (first | exact KeepB.nil | apply KeepB.drop rfl | apply KeepB.keep))) (hB : RenBL (toN a b) box1 box' := by (repeat (first | exact RenBL.nil | (apply RenBL.cons; (focus ((first | exact to_y rfl | exact to_n rfl); done)); (focus ((first | exact renb_free rfl | exact renb_lit (by (repeat (first | exact RenLL.nil | (apply RenLL.cons; (focus ((first | exact D.ren_free _ rfl | exact ren_eptr (by first | exact to_y rfl | exact to_n rfl) | exact ren_sl (by first | exact to_y rfl | exact to_n rfl)); done))))))); done)))))) (h1 : Nat.ble 1000 a = true := by rfl) (h2 : (box1.all fun x => Nat.beq (toN b a (toN a b x.1)) x.1) = true := by kernel_rfl) (h3 : Nat.ble 1000 b = true := by rfl)
    (hs : Sub (lk env) (hk box) (lk []) (hk box1) := by exact sub) : Sub (lk env) (hk box) E2 H2 := by
  refine hs.trans (Sub.trans ?_ h)
  have := sub_ren (env := []) (two_of (r := toN a b) (s := toN b a) (box := box1) (fun k hk => to_n (beq_ne (by have := Nat.le_of_ble_eq_true h1; omega))) h2) (fun k hk => to_n (beq_ne (by have := Nat.le_of_ble_eq_true h3; omega)))
  rw [hB.eq] at this
  exact this
theorem appF_snoc {n : Nat} {f g : Nat → List D} (h : g 0 = f n) : ∀ e, e < n + 1 → appF n f g e = f e := fun e he => by
  unfold appF
  by_cases q : e < n
  · rw [show Nat.blt e n = true from blt_of q]
  · obtain rfl : e = n := by omega
    rw [show Nat.blt e e = false by cases hb : Nat.blt e e; rfl; exact absurd (by simpa using hb) (Nat.lt_irrefl e), Nat.sub_self]; exact h
/-- A row, said otherwise. -/
theorem sub_arr (k : Nat) (f' : Nat → List D) {env : List (Nat × D)} {box : List (Nat × Option Box)} {t : TypeId} {n m : Nat} {f : Nat → List D} {E2 : Nat → D} {H2 : Nat → Option Box} (he : ∀ e, e < n → f e = f' e) (hl : ∀ e, (f' e).length = m) (h : Sub (lk env) (hk ((k, some (.arr t n m f')) :: box)) E2 H2) (hb : Bl box k (.arr t n m f) := by (repeat (first | exact Bl.here | apply Bl.there rfl))) : Sub (lk env) (hk box) E2 H2 :=
  Sub.trans (sub_box k (.arr t n m f') (by rw [hb.eq]; exact .arr (Nat.le_refl _) (fun e hn => ⟨hl e, fun c hc => by rw [he e hn]; exact inferInstance⟩)) rfl) h
theorem c_arr (k : Nat) (f' : Nat → List D) {ro : Option Nat} {P : Program} {N : Nat} {Q : Post} {c : Code} {env : List (Nat × D)} {box : List (Nat × Option Box)} {t : TypeId} {n m : Nat} {f : Nat → List D} (he : ∀ e, e < n → f e = f' e) (hl : ∀ e, (f' e).length = m) (h : AWp ro P N c (lk env) (hk ((k, some (.arr t n m f')) :: box)) Q) (hb : Bl box k (.arr t n m f) := by (repeat (first | exact Bl.here | apply Bl.there rfl))) : AWp ro P N c (lk env) (hk box) Q :=
  awp_sub (sub_arr k f' he hl (Sub.refl _ _) hb) h
theorem fin_arr (k : Nat) (f' : Nat → List D) {P : Program} {fn : Func} {r : D} {hs rs : Hs} {env : List (Nat × D)} {box : List (Nat × Option Box)} {t : TypeId} {n m : Nat} {f : Nat → List D} (he : ∀ e, e < n → f e = f' e) (hl : ∀ e, (f' e).length = m) (h : FinS P fn r hs rs (lk env) (hk ((k, some (.arr t n m f')) :: box))) (hb : Bl box k (.arr t n m f) := by (repeat (first | exact Bl.here | apply Bl.there rfl))) : FinS P fn r hs rs (lk env) (hk box) :=
  h.sub (sub_arr k f' he hl (Sub.refl _ _) hb)
section
variable {ro : Option Nat} {P : Program} {N : Nat} {Q : Post} {env env1 : List (Nat × D)} {box : List (Nat × Option Box)}
/-- A RANGE OVER A FUNCTION. pins: the boxes that the loop's slots name (there 900 less); X k: what comes at round k; B k: the boxes when k rounds are over, by the rounds' names; BX y: where a round leaves by ex y. -/
theorem c_range {α : Type} (pins : List Nat) {f : FuncId} {caps : List D} {xs : List (List D)} (hit : ItrD P f caps xs) (n : Nat) (hn : xs.length = n) (X : Nat → List D) (hX : ∀ k, k < n → xs[k]? = some (X k)) (B : Nat → List (Nat × Option Box)) (BX : α → List (Nat × Option Box)) (ok : α → Prop) (ex : α → Code) (F : Nat → Prop)
    {g : Operand} {ps : List Tmp} {assign body : Code} {caps0 : List D} {fn : Func} {EZ ER : Nat → List (Nat × D)} {BS : Nat → List (Nat × Option Box)} {BXS : α → List (Nat × Option Box)} [hf : FI P f fn] [hod : OldDL caps] [hcv : Cvt (.clo f caps0) (.clo f caps)]
    (hF0 : F 0) (hround : ∀ k l, k < n → F k → AWp (some l) P N assign (lk (ER k)) (hk (B k)) (AThen (fun E1 H1 => AWp (some l) P N body E1 H1 (RndP (F (k + 1)) (B (k + 1)) BX ok ex)) (fun _ _ _ => False)))
    (hdone : F n → Q .normal (lk env1) (hk (BS n))) (hstop : ∀ y, ok y → Q (exitOf (ex y)) (lk env1) (hk (BXS y)))
    (he : KeepE [] env env1 := by (repeat (first | exact KeepE.nil | apply KeepE.drop rfl | (with_reducible apply KeepE.whn) | apply KeepE.keep))) (hBS : ∀ k, RenBL (unpN pins) (B k) (BS k) := by (intro k; (repeat (first | exact RenBL.nil | (apply RenBL.cons; (focus ((first | exact unp_y rfl | exact unp_n rfl); done)); (focus ((first | exact renb_free rfl | exact renb_lit (by (repeat (first | exact RenLL.nil | (apply RenLL.cons; (focus ((first | exact D.ren_free _ rfl | exact ren_eptr (by first | exact unp_y rfl | exact unp_n rfl) | exact ren_sl (by first | exact unp_y rfl | exact unp_n rfl)); done))))))); done))))))) (hBX : ∀ y, RenBL (unpN pins) (BX y) (BXS y) := by (intro k; (repeat (first | exact RenBL.nil | (apply RenBL.cons; (focus ((first | exact unp_y rfl | exact unp_n rfl); done)); (focus ((first | exact renb_free rfl | exact renb_lit (by (repeat (first | exact RenLL.nil | (apply RenLL.cons; (focus ((first | exact D.ren_free _ rfl | exact ren_eptr (by first | exact unp_y rfl | exact unp_n rfl) | exact ren_sl (by first | exact unp_y rfl | exact unp_n rfl)); done))))))); done))))))) (hEZ : ∀ k, ZipL ps (X k) env1 (EZ k) := by (intro k; (repeat (first | exact ZipL.nil | apply ZipL.cons)))) (hER : ∀ k, RenEL (pinN pins) (EZ k) (ER k) := by (intro k; (repeat (first | exact RenEL.nil | (apply RenEL.cons; (focus ((first | exact D.ren_free _ rfl | exact ren_eptr (by first | exact pin_y rfl | exact pin_n rfl) | exact ren_sl (by first | exact pin_y rfl | exact pin_n rfl) | exact ren_clo (by (repeat (first | exact RenLL.nil | (apply RenLL.cons; (focus ((first | exact D.ren_free _ rfl | exact ren_eptr (by first | exact pin_y rfl | exact pin_n rfl) | exact ren_sl (by first | exact pin_y rfl | exact pin_n rfl)); done)))))) | exact ren_agg (by (repeat (first | exact RenLL.nil | (apply RenLL.cons; (focus ((first | exact D.ren_free _ rfl | exact ren_eptr (by first | exact pin_y rfl | exact pin_n rfl) | exact ren_sl (by first | exact pin_y rfl | exact pin_n rfl)); done)))))) | exact ren_tup (by (repeat (first | exact RenLL.nil | (apply RenLL.cons; (focus ((first | exact D.ren_free _ rfl | exact ren_eptr (by first | exact pin_y rfl | exact pin_n rfl) | exact ren_sl (by first | exact pin_y rfl | exact pin_n rfl)); done))))))); done)))))))
    (hg : Op1 env1 g (.clo f caps0) := by first | exact Op1.const _ | exact Op1.fn _ | exact Op1.gl _ | (apply Op1.tmp; (repeat (first | exact Lk.here | apply Lk.there rfl)); done) | (apply Op1.whn; (focus (apply Op1.tmp; (repeat (first | exact Lk.here | apply Lk.there rfl)); done)); assumption) | (apply Op1.whn; (focus (apply Op1.whn; (focus (apply Op1.tmp; (repeat (first | exact Lk.here | apply Lk.there rfl)); done)); assumption)); assumption)) (h0 : Sub (lk env) (hk box) (lk env1) (hk (BS 0)) := by exact sub)
    (hex : ∀ y, ok y → ex y = .ret ∨ ∃ id, ex y = .exit id := by (intro y _; first | exact .inl rfl | exact .inr ⟨_, rfl⟩ | exact y.elim)) (hno : D.free.freeL (fun _ => false) caps0 = true := by rfl) (hps : (ps.all fun t => Nat.blt t N) = true := by rfl) (hnd : ps.Nodup := by decide) (hlen : ∀ k, (X k).length = ps.length := by (intro k; rfl))
    (h1 : ∀ k, ((B k).all fun x => Nat.beq (pinN pins (unpN pins x.1)) x.1) = true := by (intro k; kernel_rfl)) (h2 : ∀ y, ((BX y).all fun x => Nat.beq (pinN pins (unpN pins x.1)) x.1) = true := by (intro k; kernel_rfl)) (h3 : ∀ k, RenBL (pinN pins) (BS k) (B k) := by (intro k; (repeat (first | exact RenBL.nil | (apply RenBL.cons; (focus ((first | exact pin_y rfl | exact pin_n rfl); done)); (focus ((first | exact renb_free rfl | exact renb_lit (by (repeat (first | exact RenLL.nil | (apply RenLL.cons; (focus ((first | exact D.ren_free _ rfl | exact ren_eptr (by first | exact pin_y rfl | exact pin_n rfl) | exact ren_sl (by first | exact pin_y rfl | exact pin_n rfl)); done))))))); done))))))) (h4 : (pins.all fun k => Nat.ble 1000 k) = true := by rfl)
    (hfr : envFree (fun k => Nat.blt (pinN pins k) 1000 && Nat.beq (unpN pins (pinN pins k)) k) env1 = true := by kernel_rfl) : AWp none P N (.rangeFunc g ps.toArray assign body) (lk env) (hk box) Q := by
  have hB : ∀ k x, x ∈ B k → pinN pins (unpN pins x.1) = x.1 := fun k x hx => by simpa using List.all_eq_true.1 (h1 k) x hx
  have hB' : ∀ y x, x ∈ BX y → pinN pins (unpN pins x.1) = x.1 := fun k x hx => by simpa using List.all_eq_true.1 (h2 k) x hx
  refine awp_sub h0 ?_
  rw [← (hBS 0).eq]
  refine awp_range (r := pinN pins) (s := unpN pins) hit hg.opd hcv hno B BX ok ex F hF0 hex hps hnd (fun x hx => ?_) ⟨fun k hk => pin_low h4 k hk, fun x hx => ?_⟩ hB hB' (fun k => by rw [(hBS k).eq, (h3 k).eq]) hfr (Sub.refl _ _) (fun k x l hFk hx => ?_) (by rw [hn, (hBS n).eq]; exact hdone) (fun y hy => by rw [(hBX y).eq]; exact hstop y hy)
  · obtain ⟨k, hk, rfl⟩ := List.getElem_of_mem hx
    have := hX k (by omega)
    rw [List.getElem?_eq_getElem hk] at this
    rw [Option.some.inj this]
    simpa using hlen k
  · obtain ⟨y, y1, y2⟩ := renB_mem hx
    rw [y2, hB 0 y y1]
  · have hk : k < n := by rw [← hn]; exact (List.getElem?_eq_some_iff.1 hx).1
    rw [hX k hk] at hx
    cases hx
    have := hround k l hk hFk
    rw [← (hER k).eq, ← (hEZ k).eq] at this
    simpa using this
end
section
variable {ro : Option Nat} {P : Program} {N : Nat} {Q : Post} {ops : Array Oper} {rest : List Oper} {env : List (Nat × D)} {box : List (Nat × Option Box)} {done : List Rec} {K : List Rec → List (Nat × D) → List (Nat × Option Box) → Prop} {d : Nat} {ty : TypeId} {pos : String} {aft : Array Edge}
theorem r_callM (k : Nat) {x : Operand} {xs : List Operand} {ts : Array TypeId} {f : FuncId} {fn : Func} {ds ads caps : List D} {r d0 : D} {B B' : Box} [hf : FI P f fn] [hod : OldDL ds] [hob : AllOld [(0, B)]] [hnew : NewD r] [hnb : AllNew [(0, B')]] (hden : DenH P f ds [(0, B)] r [(0, B')] []) (h : RunK P N ops rest ((d, r) :: env) ((k, some B') :: box) (done ++ [⟨nsOf box (ads ++ caps), some d, r, [(k, some B')], []⟩]) K) (hx : Op1 env x d0 := by first | exact Op1.const _ | exact Op1.fn _ | exact Op1.gl _ | (apply Op1.tmp; (repeat (first | exact Lk.here | apply Lk.there rfl)); done) | (apply Op1.whn; (focus (apply Op1.tmp; (repeat (first | exact Lk.here | apply Lk.there rfl)); done)); assumption) | (apply Op1.whn; (focus (apply Op1.whn; (focus (apply Op1.tmp; (repeat (first | exact Lk.here | apply Lk.there rfl)); done)); assumption)); assumption)) (hcl : (d0 = .val (.func (.func f) #[] #[]) ∧ caps = []) ∨ d0 = .clo f caps := by first | exact .inl ⟨rfl, rfl⟩ | exact .inr rfl) (ha : Op1L env xs ads := by (repeat (first | exact Op1L.nil | apply Op1L.cons (by first | exact Op1.const _ | exact Op1.fn _ | exact Op1.gl _ | (apply Op1.whn; (focus (apply Op1.tmp; (repeat (first | exact Lk.here | apply Lk.there rfl)); done)); assumption) | (apply Op1.tmp; (repeat (first | exact Lk.here | apply Lk.there rfl)); done))))) (hb : Bl box k B := by (repeat (first | exact Bl.here | apply Bl.there rfl))) (hm : memB k (nsOf box (ads ++ caps)) = true := by kernel_rfl) (hv : ArgVL true [k] (nsOf box (ads ++ caps)) [0] (fun _ => k) (hk box) (ads ++ caps) ds := by (repeat' (first | exact ArgVL.nil | refine ArgVL.cons ?_ ?_ | exact CvVL.nil | refine CvVL.cons ?_ ?_ | exact ArgV.sl rfl rfl | exact ArgV.eptr rfl rfl | refine ArgV.cv ?_ | exact CvV.id rfl | exact CvV.cvt (CvV.id rfl) inferInstance | refine CvV.clo ?_ | refine CvV.agg ?_ | exact CvV.cvt (CvV.sl (Ba.is (by (first | (apply Ba.arr; (repeat (first | exact Bl.here | apply Bl.there rfl)); done) | (apply Ba.ice; (repeat (first | exact Bl.here | apply Bl.there rfl)))))) (by omega) rfl (by kernel_rfl)) inferInstance | exact CvV.cvt (CvV.slm (Bl.eq (by (repeat (first | exact Bl.here | apply Bl.there rfl)))) (by omega) rfl (by kernel_rfl)) inferInstance | exact CvV.cvt (CvV.slr (Bl.eq (by (repeat (first | exact Bl.here | apply Bl.there rfl)))) (by omega) (by omega) rfl (by kernel_rfl)) inferInstance | refine CvV.lit (c := 0) (Bl.eq (by (repeat (first | exact Bl.here | apply Bl.there rfl)))) rfl ?_ rfl (by kernel_rfl) | exact CvV.cvt (CvV.icep (Bl.eq (by (repeat (first | exact Bl.here | apply Bl.there rfl)))) (by omega) (by kernel_rfl)) inferInstance))) (hr : r.free (fun _ => false) = true := by rfl) (hbf : B'.free (fun _ => false) = true := by rfl) (hd : Nat.blt d N = true := by rfl) : RunK P N ops (⟨some d, .call { callee := .value x, args := xs.toArray, argTypes := ts }, ty, pos, aft, none⟩ :: rest) env box done K :=
  run_put (ws := [(k, some B')]) (fresh := []) (by have := loc_call (lend := true) (ρ := fun _ => k) (P := P) (N := N) (o := ⟨some d, .call { callee := .value x, args := xs.toArray, argTypes := ts }, ty, pos, aft, none⟩) rfl hd hx.opd hcl ha.opd hden hv (fun x C hm => by cases hm with | head => exact hb.eq | tail _ h => cases h) (fun x hx => memB_spec hm) rfl rfl (fun h => ⟨hnew, hnb⟩); rw [D.ren_free _ hr] at this; simp only [outL, List.append_nil, renb_free hbf] at this; exact this) rfl h
theorem r_callMO (k : Nat) {x : Operand} {xs : List Operand} {ts : Array TypeId} {f : FuncId} {fn : Func} {ds ads caps : List D} {r d0 : D} {B B' : Box} [hf : FI P f fn] [hod : OldDL ds] [hob : AllOld [(0, B)]]  (hden : DenH P f ds [(0, B)] r [(0, B')] []) (h : RunK P N ops rest ((d, r) :: env) ((k, some B') :: box) (done ++ [⟨nsOf box (ads ++ caps), some d, r, [(k, some B')], []⟩]) K) (hx : Op1 env x d0 := by first | exact Op1.const _ | exact Op1.fn _ | exact Op1.gl _ | (apply Op1.tmp; (repeat (first | exact Lk.here | apply Lk.there rfl)); done) | (apply Op1.whn; (focus (apply Op1.tmp; (repeat (first | exact Lk.here | apply Lk.there rfl)); done)); assumption) | (apply Op1.whn; (focus (apply Op1.whn; (focus (apply Op1.tmp; (repeat (first | exact Lk.here | apply Lk.there rfl)); done)); assumption)); assumption)) (hcl : (d0 = .val (.func (.func f) #[] #[]) ∧ caps = []) ∨ d0 = .clo f caps := by first | exact .inl ⟨rfl, rfl⟩ | exact .inr rfl) (ha : Op1L env xs ads := by (repeat (first | exact Op1L.nil | apply Op1L.cons (by first | exact Op1.const _ | exact Op1.fn _ | exact Op1.gl _ | (apply Op1.whn; (focus (apply Op1.tmp; (repeat (first | exact Lk.here | apply Lk.there rfl)); done)); assumption) | (apply Op1.tmp; (repeat (first | exact Lk.here | apply Lk.there rfl)); done))))) (hb : Bl box k B := by (repeat (first | exact Bl.here | apply Bl.there rfl))) (hm : memB k (nsOf box (ads ++ caps)) = true := by kernel_rfl) (hv : ArgVL false [k] (nsOf box (ads ++ caps)) [0] (fun _ => k) (hk box) (ads ++ caps) ds := by (repeat' (first | exact ArgVL.nil | refine ArgVL.cons ?_ ?_ | exact CvVL.nil | refine CvVL.cons ?_ ?_ | exact ArgV.sl rfl rfl | exact ArgV.eptr rfl rfl | refine ArgV.cv ?_ | exact CvV.id rfl | exact CvV.cvt (CvV.id rfl) inferInstance | refine CvV.clo ?_ | refine CvV.agg ?_ | exact CvV.cvt (CvV.sl (Ba.is (by (first | (apply Ba.arr; (repeat (first | exact Bl.here | apply Bl.there rfl)); done) | (apply Ba.ice; (repeat (first | exact Bl.here | apply Bl.there rfl)))))) (by omega) rfl (by kernel_rfl)) inferInstance | exact CvV.cvt (CvV.slm (Bl.eq (by (repeat (first | exact Bl.here | apply Bl.there rfl)))) (by omega) rfl (by kernel_rfl)) inferInstance | exact CvV.cvt (CvV.slr (Bl.eq (by (repeat (first | exact Bl.here | apply Bl.there rfl)))) (by omega) (by omega) rfl (by kernel_rfl)) inferInstance | refine CvV.lit (c := 0) (Bl.eq (by (repeat (first | exact Bl.here | apply Bl.there rfl)))) rfl ?_ rfl (by kernel_rfl) | exact CvV.cvt (CvV.icep (Bl.eq (by (repeat (first | exact Bl.here | apply Bl.there rfl)))) (by omega) (by kernel_rfl)) inferInstance))) (hr : r.free (fun _ => false) = true := by rfl) (hbf : B'.free (fun _ => false) = true := by rfl) (hd : Nat.blt d N = true := by rfl) : RunK P N ops (⟨some d, .call { callee := .value x, args := xs.toArray, argTypes := ts }, ty, pos, aft, none⟩ :: rest) env box done K :=
  run_put (ws := [(k, some B')]) (fresh := []) (by have := loc_call (lend := false) (ρ := fun _ => k) (P := P) (N := N) (o := ⟨some d, .call { callee := .value x, args := xs.toArray, argTypes := ts }, ty, pos, aft, none⟩) rfl hd hx.opd hcl ha.opd hden hv (fun x C hm => by cases hm with | head => exact hb.eq | tail _ h => cases h) (fun x hx => memB_spec hm) rfl rfl (fun h => by cases h); rw [D.ren_free _ hr] at this; simp only [outL, List.append_nil, renb_free hbf] at this; exact this) rfl h
end
/-- Ways that meet again: behind the block, what it does not assign is as it was. -/
theorem c_cut (I : List (Nat × D)) {ro : Option Nat} {P : Program} {N : Nat} {Q : Post} {c y : Code} {k : Nat} {env env1 env2 : List (Nat × D)} {box box1 : List (Nat × Option Box)} (h1 : AWp ro P N c (lk env) (hk box) (AInBlock k (AThen (fun E H => Sub E H (lk env2) (hk box1)) Q))) (h2 : AWp ro P N y (lk env2) (hk box1) Q) (he : KeepE (dstsOf c ++ I.map (·.1)) env env1 := by (repeat (first | exact KeepE.nil | apply KeepE.drop rfl | (with_reducible apply KeepE.whn) | apply KeepE.keep))) (ha : AppL I env1 env2 := by (repeat (first | exact AppL.nil | apply AppL.cons))) (hb : KeepB [] box box1 := by (repeat (first | exact KeepB.nil | apply KeepB.drop rfl | apply KeepB.keep))) : AWp ro P N c (lk env) (hk box) (AInBlock k (AThen (fun E H => AWp ro P N y E H Q) Q)) :=
  h1.mono (fun e E H h => by
    cases e with
    | exit id =>
      simp only [AInBlock] at h ⊢
      cases hb : Nat.beq id k with
      | true => rw [hb] at h; exact awp_sub h h2
      | false => rw [hb] at h; exact h
    | normal => exact awp_sub h h2
    | _ => exact h)
theorem c_cut0 (I : List (Nat × D)) {ro : Option Nat} {P : Program} {N : Nat} {Q : Post} {c y : Code} {env env1 env2 : List (Nat × D)} {box box1 : List (Nat × Option Box)} (h1 : AWp ro P N c (lk env) (hk box) (AThen (fun E H => Sub E H (lk env2) (hk box1)) Q)) (h2 : AWp ro P N y (lk env2) (hk box1) Q) (he : KeepE (dstsOf c ++ I.map (·.1)) env env1 := by (repeat (first | exact KeepE.nil | apply KeepE.drop rfl | (with_reducible apply KeepE.whn) | apply KeepE.keep))) (ha : AppL I env1 env2 := by (repeat (first | exact AppL.nil | apply AppL.cons))) (hb : KeepB [] box box1 := by (repeat (first | exact KeepB.nil | apply KeepB.drop rfl | apply KeepB.keep))) : AWp ro P N c (lk env) (hk box) (AThen (fun E H => AWp ro P N y E H Q) Q) :=
  h1.mono (fun e E H h => by
    cases e with
    | normal => exact awp_sub h h2
    | _ => exact h)
/-- A slot's value, said otherwise. -/
theorem c_eq (t : Nat) (d' : D) {ro : Option Nat} {P : Program} {N : Nat} {Q : Post} {c : Code} {env : List (Nat × D)} {box : List (Nat × Option Box)} {d : D} (he : d = d') (h : AWp ro P N c (lk ((t, d') :: env)) (hk box) Q) (ht : Lk env t d := by (repeat (first | exact Lk.here | apply Lk.there rfl))) : AWp ro P N c (lk env) (hk box) Q := awp_sub (sub_conv t d' ht.eq (.eq he)) h
end Go.Proofs.YtefoddjclngckaaGreat

namespace Go.Proofs.YtefoddjclngckaaGreat
open Go.RowKit
set_option maxRecDepth 20000
section
variable {ro : Option Nat} {P : Program} {N : Nat} {Q : Post} {ops : Array Oper} {rest : List Oper} {env : List (Nat × D)} {box : List (Nat × Option Box)} {done : List Rec} {K : List Rec → List (Nat × D) → List (Nat × Option Box) → Prop} {d : Nat} {ty : TypeId} {pos : String} {aft : Array Edge}
theorem r_callR (k : Nat) {x : Operand} {xs : List Operand} {ts : Array TypeId} {f : FuncId} {fn : Func} {ds ads caps : List D} {r r' d0 : D} {B B' : Box} [hf : FI P f fn] [hod : OldDL ds] [hob : AllOld [(0, B)]] [hnew : NewD r] [hnb : AllNew [(0, B')]] (hden : DenH P f ds [(0, B)] r [(0, B')] []) (hr : r.ren (fun _ => k) = r') (h : RunK P N ops rest ((d, r') :: env) ((k, some B') :: box) (done ++ [⟨nsOf box (ads ++ caps), some d, r', [(k, some B')], []⟩]) K) (hx : Op1 env x d0 := by first | exact Op1.const _ | exact Op1.fn _ | exact Op1.gl _ | (apply Op1.tmp; (repeat (first | exact Lk.here | apply Lk.there rfl)); done) | (apply Op1.whn; (focus (apply Op1.tmp; (repeat (first | exact Lk.here | apply Lk.there rfl)); done)); assumption) | (apply Op1.whn; (focus (apply Op1.whn; (focus (apply Op1.tmp; (repeat (first | exact Lk.here | apply Lk.there rfl)); done)); assumption)); assumption)) (hcl : (d0 = .val (.func (.func f) #[] #[]) ∧ caps = []) ∨ d0 = .clo f caps := by first | exact .inl ⟨rfl, rfl⟩ | exact .inr rfl) (ha : Op1L env xs ads := by (repeat (first | exact Op1L.nil | apply Op1L.cons (by first | exact Op1.const _ | exact Op1.fn _ | exact Op1.gl _ | (apply Op1.whn; (focus (apply Op1.tmp; (repeat (first | exact Lk.here | apply Lk.there rfl)); done)); assumption) | (apply Op1.tmp; (repeat (first | exact Lk.here | apply Lk.there rfl)); done))))) (hb : Bl box k B := by (repeat (first | exact Bl.here | apply Bl.there rfl))) (hm : memB k (nsOf box (ads ++ caps)) = true := by kernel_rfl) (hv : ArgVL true [k] (nsOf box (ads ++ caps)) [0] (fun _ => k) (hk box) (ads ++ caps) ds := by (repeat' (first | exact ArgVL.nil | refine ArgVL.cons ?_ ?_ | exact CvVL.nil | refine CvVL.cons ?_ ?_ | exact ArgV.sl rfl rfl | exact ArgV.eptr rfl rfl | refine ArgV.cv ?_ | exact CvV.id rfl | exact CvV.cvt (CvV.id rfl) inferInstance | refine CvV.clo ?_ | refine CvV.agg ?_ | exact CvV.cvt (CvV.sl (Ba.is (by (first | (apply Ba.arr; (repeat (first | exact Bl.here | apply Bl.there rfl)); done) | (apply Ba.ice; (repeat (first | exact Bl.here | apply Bl.there rfl)))))) (by omega) rfl (by kernel_rfl)) inferInstance | exact CvV.cvt (CvV.slm (Bl.eq (by (repeat (first | exact Bl.here | apply Bl.there rfl)))) (by omega) rfl (by kernel_rfl)) inferInstance | exact CvV.cvt (CvV.slr (Bl.eq (by (repeat (first | exact Bl.here | apply Bl.there rfl)))) (by omega) (by omega) rfl (by kernel_rfl)) inferInstance | refine CvV.lit (c := 0) (Bl.eq (by (repeat (first | exact Bl.here | apply Bl.there rfl)))) rfl ?_ rfl (by kernel_rfl) | exact CvV.cvt (CvV.icep (Bl.eq (by (repeat (first | exact Bl.here | apply Bl.there rfl)))) (by omega) (by kernel_rfl)) inferInstance))) (hbf : B'.free (fun _ => false) = true := by rfl) (hd : Nat.blt d N = true := by rfl) : RunK P N ops (⟨some d, .call { callee := .value x, args := xs.toArray, argTypes := ts }, ty, pos, aft, none⟩ :: rest) env box done K :=
  run_put (ws := [(k, some B')]) (fresh := []) (by have := loc_call (lend := true) (ρ := fun _ => k) (P := P) (N := N) (o := ⟨some d, .call { callee := .value x, args := xs.toArray, argTypes := ts }, ty, pos, aft, none⟩) rfl hd hx.opd hcl ha.opd hden hv (fun x C hm => by cases hm with | head => exact hb.eq | tail _ h => cases h) (fun x hx => memB_spec hm) rfl rfl (fun h => ⟨hnew, hnb⟩); rw [hr] at this; simp only [outL, List.append_nil, renb_free hbf] at this; exact this) rfl h
theorem c_no {c : Operand} {b : Bool} {x y : Code} (h : AWp ro P N y (lk env) (hk box) Q) (hc : Op1 env c (.val (.bool b)) := by first | exact Op1.const _ | exact Op1.fn _ | exact Op1.gl _ | (apply Op1.tmp; (repeat (first | exact Lk.here | apply Lk.there rfl)); done) | (apply Op1.whn; (focus (apply Op1.tmp; (repeat (first | exact Lk.here | apply Lk.there rfl)); done)); assumption) | (apply Op1.whn; (focus (apply Op1.whn; (focus (apply Op1.tmp; (repeat (first | exact Lk.here | apply Lk.there rfl)); done)); assumption)); assumption)) (hb : b = false := by rfl) : AWp ro P N (.cond c x y) (lk env) (hk box) Q := c_ifB (fun e => by rw [hb] at e; cases e) (fun _ => h) hc
theorem c_yes {c : Operand} {b : Bool} {x y : Code} (h : AWp ro P N x (lk env) (hk box) Q) (hc : Op1 env c (.val (.bool b)) := by first | exact Op1.const _ | exact Op1.fn _ | exact Op1.gl _ | (apply Op1.tmp; (repeat (first | exact Lk.here | apply Lk.there rfl)); done) | (apply Op1.whn; (focus (apply Op1.tmp; (repeat (first | exact Lk.here | apply Lk.there rfl)); done)); assumption) | (apply Op1.whn; (focus (apply Op1.whn; (focus (apply Op1.tmp; (repeat (first | exact Lk.here | apply Lk.there rfl)); done)); assumption)); assumption)) (hb : b = true := by rfl) : AWp ro P N (.cond c x y) (lk env) (hk box) Q := c_ifB (fun _ => h) (fun e => by rw [hb] at e; cases e) hc
end
/-- Results that name the boxes as they are left. -/
theorem finR {P : Program} {env : List (Nat × D)} {box : List (Nat × Option Box)} {fn : Func} {r : D} {ds : List D} {hs : Hs} 
    (hr : Res1 P env box fn.results.toList ds := by (repeat (first | exact Res1.nil | (apply Res1.tmp; (focus ((repeat (first | exact Lk.here | apply Lk.there rfl)); done))) | (apply Res1.one; (focus ((repeat (first | exact Lk.here | apply Lk.there rfl)); done)); (focus (rfl)); (focus ((repeat (first | exact Bl.here | apply Bl.there rfl)); done)); (focus (rfl)); (focus ((repeat (first | exact At.here | apply At.there)); done))) | (apply Res1.agg; (focus ((repeat (first | exact Lk.here | apply Lk.there rfl)); done)); (focus (rfl)); (focus ((repeat (first | exact Bl.here | apply Bl.there rfl)); done)); (focus (rfl)); (focus ((repeat (first | exact Sg.nil | apply Sg.take | apply Sg.drop)); done))))))
    (hd : resD ds = r := by rfl) (hf : r.free (fun k => memB k hs.keys) = true := by rfl) (hb : BoxAll box hs := by (repeat (first | exact BoxAll.nil | (apply BoxAll.cons; (focus ((repeat (first | exact Bl.here | apply Bl.there rfl)); done)); (focus (rfl)); (focus (rfl)))))) : FinS P fn r hs [] (lk env) (hk box) := by
  refine ⟨_, _, Sub.refl _ _, ds, hr.is, fun S a w Z i v hF hv => ?_, fun k B hm => ?_⟩
  · subst hd
    refine hv.nm hf (fun k x hk e => ?_)
    have hm := memB_spec hk
    show (if k ∈ (hs ++ []).map (fun y : Nat × Box => y.1) then i k else none) = some x
    rw [if_pos (by rw [List.append_nil]; exact hm)]
    exact e
  · rw [List.append_nil] at hm
    exact (fun ⟨a, b, c⟩ => ⟨a, b, Box.free_mono (fun _ h => by cases h) c⟩) (hb.at k B hm)

end Go.Proofs.YtefoddjclngckaaGreat
