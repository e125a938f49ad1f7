/- Ends and loops, by lists. No walk.
Boxes under other names: for the rounds of a range over a function. No walk. -/
import Derived.Test.YtmjildbdkecolaaGreatPsr24
set_option linter.unusedSimpArgs false
set_option linter.unusedVariables false
set_option linter.unnecessarySimpa false
namespace Go.Proofs.YtmjildbdkecolaaGreat
open Go.RowKit

inductive EnvL (H : Nat → Option Box) (env : List (Nat × D)) : List (Nat × D) → Prop where
 | nil : EnvL H env []
 | cons {t : Nat} {d0 d : D} {l : List (Nat × D)} (hl : Lk env t d0) (h : SlotCv H d0 d) (k : EnvL H env l) : EnvL H env ((t, d) :: l)
inductive BoxL (H : Nat → Option Box) (box : List (Nat × Option Box)) : List (Nat × Option Box) → Prop where
 | nil : BoxL H box []
 | cons {k : Nat} {B0 B : Box} {l : List (Nat × Option Box)} (hb : Bl box k B0) (h : BoxCv H (some B0) B) (r : BoxL H box l) : BoxL H box ((k, some B) :: l)
theorem EnvL.cv {H : Nat → Option Box} {env l : List (Nat × D)} (h : EnvL H env l) : EnvCv H env l := by
 induction h with
 | nil => exact .nil
 | cons hl h _ ih => exact .cons (by rw [hl.eq]; exact h) ih
theorem BoxL.cv {H : Nat → Option Box} {box l : List (Nat × Option Box)} (h : BoxL H box l) : BoxesCv H box l := by
 induction h with
 | nil => exact .nil
 | cons hl h _ ih => exact .cons (by rw [hl.eq]; exact h) ih
def freeOk (env' : List (Nat × D)) (box box' : List (Nat × Option Box)) : Bool :=
 (envFree (fun k => (hk box' k).isSome) env' && boxFree (fun k => (hk box' k).isSome) box') && (box.all fun x => Nat.ble 1000 x.1 || (hk box' x.1).isSome)
section
variable {ro : Option Nat} {P : Program} {N : Nat} {Q : Post} {c : Code} {env env' : List (Nat × D)} {box box' : List (Nat × Option Box)} {E : Nat → D} {H : Nat → Option Box}
theorem sub_weak (hE : EnvL (hk box) env env') (hB : BoxL (hk box) box box') (hf : freeOk env' box box' = true) : Sub (lk env) (hk box) (lk env') (hk box') := fun S a w hR => by
 unfold freeOk at hf
 rw [Bool.and_eq_true] at hf
 exact repS_weak env' box' hE.cv hB.cv hf.1 hf.2 hR
/-- A loop that goes up to n. -/
theorem c_for (n : Nat) (I : Nat → List (Nat × D)) (B : Nat → List (Nat × Option Box)) (h0 : Sub (lk env) (hk box) (lk (I 0)) (hk (B 0)))
  (hr : ∀ j, j ≤ n → AWp ro P N c (lk (I j)) (hk (B j)) (AThen (fun E H => j < n ∧ Sub E H (lk (I (j + 1))) (hk (B (j + 1)))) Q)) : AWp ro P N (.loop c) (lk env) (hk box) Q := by
 refine awp_loop (fun m E H => ∃ j, m = n - j ∧ j ≤ n ∧ Sub E H (lk (I j)) (hk (B j))) n ⟨0, by omega, by omega, h0⟩ (fun m E H ⟨j, hm, hj, hs⟩ S a w hN hR => ?_)
 refine wpIn_mono (hr j hj S a w hN (hs S a w hR)) (fun e a' w' ⟨E', H', h1, h2⟩ => ?_)
 cases e with
 | normal => obtain ⟨g1, g2⟩ := h1; exact ⟨E', H', ⟨n - (j + 1), by omega, j + 1, rfl, by omega, g2⟩, h2⟩
 | _ => exact ⟨E', H', h1, h2⟩
/-- A loop whose measure falls. -/
theorem c_while {α : Type} (μ : α → Nat) (ok : α → Prop) (I : α → List (Nat × D)) (B : α → List (Nat × Option Box)) (x0 : α) (hx : ok x0) (h0 : Sub (lk env) (hk box) (lk (I x0)) (hk (B x0)))
  (hr : ∀ x, ok x → AWp ro P N c (lk (I x)) (hk (B x)) (AThen (fun E H => ∃ y, ok y ∧ μ y < μ x ∧ Sub E H (lk (I y)) (hk (B y))) Q)) : AWp ro P N (.loop c) (lk env) (hk box) Q := by
 refine awp_loop (fun m E H => ∃ x, m = μ x ∧ ok x ∧ Sub E H (lk (I x)) (hk (B x))) (μ x0) ⟨x0, rfl, hx, h0⟩ (fun m E H ⟨x, hm, hj, hs⟩ S a w hN hR => ?_)
 refine wpIn_mono (hr x hj S a w hN (hs S a w hR)) (fun e a' w' ⟨E', H', h1, h2⟩ => ?_)
 cases e with
 | normal => obtain ⟨y, k1, k2, k3⟩ := h1; exact ⟨E', H', ⟨μ y, by omega, y, rfl, k1, k3⟩, h2⟩
 | _ => exact ⟨E', H', h1, h2⟩
/-- What a loop leaves as it is. -/
def dstsOf : Code → List Nat
 | .region _ ops _ => ops.toList.filterMap (·.dst)
 | .seq a b => dstsOf a ++ dstsOf b
 | .cond _ a b => dstsOf a ++ dstsOf b
 | .block _ b => dstsOf b
 | .loop b => dstsOf b
 | .scope b => dstsOf b
 | .rangeFunc _ ps a b => ps.toList ++ dstsOf a ++ dstsOf b
 | _ => []
def inN (l : List Nat) (t : Nat) : Bool := l.any (Nat.beq t)
inductive KeepE : List Nat → List (Nat × D) → List (Nat × D) → Prop where
 | nil {ts : List Nat} : KeepE ts [] []
 | drop {ts : List Nat} {t : Nat} {d : D} {l l' : List (Nat × D)} (h : inN ts t = true) (k : KeepE ts l l') : KeepE ts ((t, d) :: l) l'
 | whn {ts : List Nat} {t : Nat} {b : Bool} {d : D} {l l' : List (Nat × D)} (k : KeepE (t :: ts) l l') : KeepE ts ((t, when b d) :: l) l'
 | keep {ts : List Nat} {t : Nat} {d : D} {l l' : List (Nat × D)} (k : KeepE (t :: ts) l l') : KeepE ts ((t, d) :: l) ((t, d) :: l')
inductive KeepB : List Nat → List (Nat × Option Box) → List (Nat × Option Box) → Prop where
 | nil {ts : List Nat} : KeepB ts [] []
 | drop {ts : List Nat} {t : Nat} {d : Option Box} {l l' : List (Nat × Option Box)} (h : inN ts t = true) (k : KeepB ts l l') : KeepB ts ((t, d) :: l) l'
 | keep {ts : List Nat} {t : Nat} {d : Option Box} {l l' : List (Nat × Option Box)} (k : KeepB (t :: ts) l l') : KeepB ts ((t, d) :: l) ((t, d) :: l')
inductive AppL {α : Type} : List α → List α → List α → Prop where
 | nil {l : List α} : AppL [] l l
 | cons {x : α} {l k m : List α} (h : AppL l k m) : AppL (x :: l) k (x :: m)
theorem sub {env env' : List (Nat × D)} {box box' : List (Nat × Option Box)} (hE : EnvL (hk box) env env' := by (repeat (first | exact EnvL.nil | (apply EnvL.cons; (focus ((repeat (first | exact Lk.here | apply Lk.there rfl)); done)); (focus ((first | (with_reducible exact SlotCv.refl _) | (with_reducible exact SlotCv.any _) | exact SlotCv.cvt inferInstance | exact SlotCv.eq (by first | rfl | (congr 2; omega) | (congr 3; omega) | simp [*])); done)))))) (hB : BoxL (hk box) box box' := by (repeat (first | exact BoxL.nil | (apply BoxL.cons; (focus ((repeat (first | exact Bl.here | apply Bl.there rfl)); done)); (focus (first | exact BoxCv.refl _ | exact BoxCv.gone _)))))) (hf : freeOk env' box box' = true := by kernel_rfl) : Sub (lk env) (hk box) (lk env') (hk box') := sub_weak hE hB hf
section
variable {ro : Option Nat} {P : Program} {N : Nat} {Q : Post} {c : Code} {env env1 : List (Nat × D)} {box box1 : List (Nat × Option Box)}
/-- A loop that goes up to n; what changes is said, the rest stays. -/
theorem c_up (n : Nat) (I : Nat → List (Nat × D)) (B : Nat → List (Nat × Option Box)) {EE : Nat → List (Nat × D)} {BB : Nat → List (Nat × Option Box)}
  (hr : ∀ j, j ≤ n → AWp ro P N c (lk (EE j)) (hk (BB j)) (AThen (fun E H => j < n ∧ Sub E H (lk (EE (j + 1))) (hk (BB (j + 1)))) Q))
  (h1 : KeepE (dstsOf c ++ (I 0).map (·.1)) env env1 := by (repeat (first | exact KeepE.nil | apply KeepE.drop rfl | (with_reducible apply KeepE.whn) | apply KeepE.keep))) (h2 : KeepB ((B 0).map (·.1)) box box1 := by (repeat (first | exact KeepB.nil | apply KeepB.drop rfl | apply KeepB.keep)))
  (h3 : ∀ j, AppL (I j) env1 (EE j) := by (intro j; (repeat (first | exact AppL.nil | apply AppL.cons)))) (h4 : ∀ j, AppL (B j) box1 (BB j) := by (intro j; (repeat (first | exact AppL.nil | apply AppL.cons))))
  (h0 : Sub (lk env) (hk box) (lk (EE 0)) (hk (BB 0)) := by exact sub) : AWp ro P N (.loop c) (lk env) (hk box) Q := c_for n EE BB h0 hr
/-- A loop whose measure falls. -/
theorem c_down {α : Type} (μ : α → Nat) (ok : α → Prop) (I : α → List (Nat × D)) (B : α → List (Nat × Option Box)) (x0 : α) {EE : α → List (Nat × D)} {BB : α → List (Nat × Option Box)}
  (hr : ∀ x, ok x → AWp ro P N c (lk (EE x)) (hk (BB x)) (AThen (fun E H => ∃ y, ok y ∧ μ y < μ x ∧ Sub E H (lk (EE y)) (hk (BB y))) Q)) (hx : ok x0)
  (h1 : KeepE (dstsOf c ++ (I x0).map (·.1)) env env1 := by (repeat (first | exact KeepE.nil | apply KeepE.drop rfl | (with_reducible apply KeepE.whn) | apply KeepE.keep))) (h2 : KeepB ((B x0).map (·.1)) box box1 := by (repeat (first | exact KeepB.nil | apply KeepB.drop rfl | apply KeepB.keep)))
  (h3 : ∀ x, AppL (I x) env1 (EE x) := by (intro j; (repeat (first | exact AppL.nil | apply AppL.cons)))) (h4 : ∀ x, AppL (B x) box1 (BB x) := by (intro j; (repeat (first | exact AppL.nil | apply AppL.cons))))
  (h0 : Sub (lk env) (hk box) (lk (EE x0)) (hk (BB x0)) := by exact sub) : AWp ro P N (.loop c) (lk env) (hk box) Q := c_while μ ok EE BB x0 hx h0 hr
end
/-! Results -/
inductive Res1 (P : Program) (env : List (Nat × D)) (box : List (Nat × Option Box)) : List ResultVar → List D → Prop where
 | nil : Res1 P env box [] []
 | tmp {t : Nat} {d : D} {xs : List ResultVar} {ds : List D} (h : Lk env t d) (k : Res1 P env box xs ds) : Res1 P env box (.tmp t :: xs) (d :: ds)
 | one {t k m e c : Nat} {ty t' : TypeId} {l : List D} {d : D} {xs : List ResultVar} {ds : List D} {i : TypeInfo} {dsc : TypeDesc} [hT : TI P ty i dsc] (h : Lk env t (.eptr k m e c)) (he : e * m = 0) (hb : Bl box k (.lit t' l)) (hg : isAggD dsc = false) (ha : At l c d) (r : Res1 P env box xs ds) : Res1 P env box (.cell t ty :: xs) (d :: ds)
 | agg {t k m e c : Nat} {ty t' : TypeId} {l l' : List D} {xs : List ResultVar} {ds : List D} {i : TypeInfo} {dsc : TypeDesc} [hT : TI P ty i dsc] (h : Lk env t (.eptr k m e c)) (he : e * m = 0) (hb : Bl box k (.lit t' l)) (hg : isAggD dsc = true) (ha : Sg l c i.size l') (r : Res1 P env box xs ds) : Res1 P env box (.cell t ty :: xs) (.agg l' :: ds)
theorem Res1.is {xs : List ResultVar} {ds : List D} (h : Res1 P env box xs ds) : ResL P (lk env) (hk box) xs ds := by
 induction h with
 | nil => trivial
 | tmp h _ ih => exact ⟨h.eq, ih⟩
 | one h he hb hg ha _ ih => exact ⟨⟨_, _, _, _, _, _, _, _, h.eq, he, hb.eq, ld_one hg, ble_of (by have := ha.spec.1; omega), (ldD_at ha).symm⟩, ih⟩
 | agg h he hb hg ha _ ih => exact ⟨⟨_, _, _, _, _, _, _, _, h.eq, he, hb.eq, ld_agg hg, ble_of ha.seg.2, (ldD_sg ha).symm⟩, ih⟩
/-- The end of a function whose result is frozen. -/
theorem p_fin {fn : Func} {r d : D} {ds : List D} (hr : Res1 P env box fn.results.toList ds) (hd : resD ds = d) (hc : CvV false [] (box.map (·.1)) (hk box) d r) : Fin P fn r [] [] (lk env) (hk box) := by
 refine ⟨ds, hr.is, fun S a w Z i v hF hv => ?_, fun k B hm => by cases hm⟩
 subst hd
 refine ((hc _ (fun _ _ => rfl) S _ a w Z i v hF (fun k hk => by cases hk) hv).mem (Z' := Z) (fun o b hz => ⟨?_, rfl⟩)).of_noN
 rcases hz with q | ⟨q, _⟩
 ·exact q
 ·cases q
end
/-- What the data are, by what is frozen. -/
theorem cv {lend : Bool} {L ns : List Nat} {box : List (Nat × Option Box)} {d d' : D} (h : CvV lend L ns (hk box) d d' := by (repeat' (first | exact CvVL.nil | refine CvVL.cons ?_ ?_ | exact CvV.id rfl | refine CvV.clo ?_ | refine CvV.agg ?_ | refine CvV.tup ?_ | exact CvV.icel (Bl.eq (by (repeat (first | exact Bl.here | apply Bl.there rfl)))) rfl (by kernel_rfl) (by rfl) | exact CvV.ice (Bl.eq (by (repeat (first | exact Bl.here | apply Bl.there rfl)))) (by omega) (by kernel_rfl) | exact CvV.cvt (CvV.ice (Bl.eq (by (repeat (first | exact Bl.here | apply Bl.there rfl)))) (by omega) (by kernel_rfl)) inferInstance | exact CvV.icep (Bl.eq (by (repeat (first | exact Bl.here | apply Bl.there rfl)))) (by omega) (by kernel_rfl) | exact CvV.cvt (CvV.id rfl) inferInstance))) : CvV lend L ns (hk box) d d' := h
section
variable {ro : Option Nat} {P : Program} {N : Nat} {Q : Post} {c : Code} {env : List (Nat × D)} {box : List (Nat × Option Box)} {fn : Func} {r : D} {hs rs : Hs} {E2 : Nat → D} {H2 : Nat → Option Box}
theorem fin_frz (k : Nat) {t : TypeId} {l : List D} (h : FinS P fn r hs rs (lk env) (hk ((k, some (.ice t 1 l.length (fun _ => l))) :: box))) (hb : Bl box k (.lit t l) := by (repeat (first | exact Bl.here | apply Bl.there rfl))) (h100 : Nat.ble 1000 k = true := by rfl) (hfr : D.free.freeL (fun _ => false) l = true := by rfl) : FinS P fn r hs rs (lk env) (hk box) := h.sub (sub_frz k hb.eq h100 hfr)
theorem c_frz (k : Nat) {t : TypeId} {l : List D} (h : AWp ro P N c (lk env) (hk ((k, some (.ice t 1 l.length (fun _ => l))) :: box)) Q) (hb : Bl box k (.lit t l) := by (repeat (first | exact Bl.here | apply Bl.there rfl))) (h100 : Nat.ble 1000 k = true := by rfl) (hfr : D.free.freeL (fun _ => false) l = true := by rfl) : AWp ro P N c (lk env) (hk box) Q := awp_sub (sub_frz k hb.eq h100 hfr) h
theorem fin_freeze (k : Nat) {t : TypeId} {n m : Nat} {f : Nat → List D} (h : FinS P fn r hs rs (lk env) (hk ((k, some (.ice t n m f)) :: box))) (hb : Bl box k (.arr t n m f) := by (repeat (first | exact Bl.here | apply Bl.there rfl))) (h100 : Nat.ble 1000 k = true := by rfl) : FinS P fn r hs rs (lk env) (hk box) := h.sub (sub_freeze k hb.eq h100)
theorem c_freeze (k : Nat) {t : TypeId} {n m : Nat} {f : Nat → List D} (h : AWp ro P N c (lk env) (hk ((k, some (.ice t n m f)) :: box)) Q) (hb : Bl box k (.arr t n m f) := by (repeat (first | exact Bl.here | apply Bl.there rfl))) (h100 : Nat.ble 1000 k = true := by rfl) : AWp ro P N c (lk env) (hk box) Q := awp_sub (sub_freeze k hb.eq h100) h
/-- A nil slice in a variable gets a name. -/
theorem c_nilcell (kb cc k : Nat) (tt : TypeId) (m : Nat) (f : Nat → List D) {tb : TypeId} {ds ds' : List D} (h : AWp ro P N c (lk env) (hk ((kb, some (.lit tb ds')) :: (k, some (.arr tt 0 m f)) :: box)) Q) (hl : Bl box kb (.lit tb ds) := by (repeat (first | exact Bl.here | apply Bl.there rfl))) (hds : At ds cc (.val (.slice none 0 0)) := by (repeat (first | exact At.here | apply At.there))) (hp : PutL ds cc [.sl k m 0] ds' := by (repeat (first | exact PutL.nil | apply PutL.cons | apply PutL.skip))) (hb : hk box k = none := by rfl) (h100 : Nat.ble 1000 k = true := by rfl) : AWp ro P N c (lk env) (hk box) Q :=
 awp_sub (sub_nilcell kb cc k tt m f hl.eq hds.spec.2 hp.set.1 (blt_of hds.spec.1) hb h100) h
theorem c_nil (t k : Nat) (tt : TypeId) (m : Nat) (f : Nat → List D) (h : AWp ro P N c (lk ((t, .sl k m 0) :: env)) (hk ((k, some (.arr tt 0 m f)) :: box)) Q) (ht : Lk env t (.val (.slice none 0 0)) := by (repeat (first | exact Lk.here | apply Lk.there rfl))) (hb : hk box k = none := by rfl) (h100 : Nat.ble 1000 k = true := by rfl) : AWp ro P N c (lk env) (hk box) Q := awp_sub (sub_nil t k tt m f ht.eq hb h100) h
/-- A slot is said otherwise: by what is frozen. -/
theorem c_slot (t : Nat) (d : D) {d0 : D} (h : AWp ro P N c (lk ((t, d) :: env)) (hk box) Q) (ht : Lk env t d0 := by (repeat (first | exact Lk.here | apply Lk.there rfl))) (hc : CvV false [] (box.map (·.1)) (hk box) d0 d := by (repeat' (first | exact CvVL.nil | refine CvVL.cons ?_ ?_ | exact CvV.id rfl | refine CvV.clo ?_ | refine CvV.agg ?_ | refine CvV.tup ?_ | exact CvV.icel (Bl.eq (by (repeat (first | exact Bl.here | apply Bl.there rfl)))) rfl (by kernel_rfl) (by rfl) | exact CvV.ice (Bl.eq (by (repeat (first | exact Bl.here | apply Bl.there rfl)))) (by omega) (by kernel_rfl) | exact CvV.cvt (CvV.ice (Bl.eq (by (repeat (first | exact Bl.here | apply Bl.there rfl)))) (by omega) (by kernel_rfl)) inferInstance | exact CvV.icep (Bl.eq (by (repeat (first | exact Bl.here | apply Bl.there rfl)))) (by omega) (by kernel_rfl) | exact CvV.cvt (CvV.id rfl) inferInstance))) : AWp ro P N c (lk env) (hk box) Q := awp_sub (sub_conv t d ht.eq (.ice hc)) h
end
/-- TO THE RESULT. -/
theorem fin {P : Program} {env : List (Nat × D)} {box : List (Nat × Option Box)} {fn : Func} {r d : D} {ds : List D} (hc : CvV false [] (box.map (·.1)) (hk box) d r)
  (hr : Res1 P env box fn.results.toList ds := by (repeat (first | exact Res1.nil | (apply Res1.tmp; (focus ((repeat (first | exact Lk.here | apply Lk.there rfl)); done))) | (apply Res1.one; (focus ((repeat (first | exact Lk.here | apply Lk.there rfl)); done)); (focus (rfl)); (focus ((repeat (first | exact Bl.here | apply Bl.there rfl)); done)); (focus (rfl)); (focus ((repeat (first | exact At.here | apply At.there)); done))) | (apply Res1.agg; (focus ((repeat (first | exact Lk.here | apply Lk.there rfl)); done)); (focus (rfl)); (focus ((repeat (first | exact Bl.here | apply Bl.there rfl)); done)); (focus (rfl)); (focus ((repeat (first | exact Sg.nil | apply Sg.take | apply Sg.drop)); done))))))
  (hd : resD ds = d := by rfl) : FinS P fn r [] [] (lk env) (hk box) := ⟨_, _, Sub.refl _ _, p_fin hr hd hc⟩
/-- Boxes as they are left. -/
inductive BoxAll (box : List (Nat × Option Box)) : Hs → Prop where
 | nil : BoxAll box []
 | cons {k : Nat} {B : Box} {hs : Hs} (h : Bl box k B) (hm : B.mut = true) (hf : B.free (fun _ => false) = true) (r : BoxAll box hs) : BoxAll box ((k, B) :: hs)
theorem BoxAll.at {box : List (Nat × Option Box)} {hs : Hs} (h : BoxAll box hs) : ∀ k B, (k, B) ∈ hs → hk box k = some B ∧ B.mut = true ∧ B.free (fun _ => false) = true := by
 induction h with
 | nil => intro k B h; cases h
 | cons h hm hf _ ih =>
  intro k B hkB
  rcases List.mem_cons.1 hkB with e | e
  ·cases e; exact ⟨h.eq, hm, hf⟩
  ·exact ih k B e
/-- TO THE RESULT, where argument boxes were turned. -/
theorem finH {P : Program} {env : List (Nat × D)} {box : List (Nat × Option Box)} {fn : Func} {r d : D} {ds : List D} {hs : Hs} (hc : CvV false [] (box.map (·.1)) (hk box) d r)
  (hr : Res1 P env box fn.results.toList ds := by (repeat (first | exact Res1.nil | (apply Res1.tmp; (focus ((repeat (first | exact Lk.here | apply Lk.there rfl)); done))) | (apply Res1.one; (focus ((repeat (first | exact Lk.here | apply Lk.there rfl)); done)); (focus (rfl)); (focus ((repeat (first | exact Bl.here | apply Bl.there rfl)); done)); (focus (rfl)); (focus ((repeat (first | exact At.here | apply At.there)); done))) | (apply Res1.agg; (focus ((repeat (first | exact Lk.here | apply Lk.there rfl)); done)); (focus (rfl)); (focus ((repeat (first | exact Bl.here | apply Bl.there rfl)); done)); (focus (rfl)); (focus ((repeat (first | exact Sg.nil | apply Sg.take | apply Sg.drop)); done))))))
  (hd : resD ds = d := by rfl) (hb : BoxAll box hs := by (repeat (first | exact BoxAll.nil | (apply BoxAll.cons; (focus ((repeat (first | exact Bl.here | apply Bl.there rfl)); done)); (focus (rfl)); (focus (rfl)))))) : FinS P fn r hs [] (lk env) (hk box) := by
 refine ⟨_, _, Sub.refl _ _, ds, hr.is, fun S a w Z i v hF hv => ?_, fun k B hm => ?_⟩
 ·subst hd
  refine ((hc _ (fun _ _ => rfl) S _ a w Z i v hF (fun k hk => by cases hk) hv).mem (Z' := Z) (fun o b hz => ⟨?_, rfl⟩)).of_noN
  rcases hz with q | ⟨q, _⟩
  ·exact q
  ·cases q
 ·rw [List.append_nil] at hm
  exact (fun ⟨a, b, c⟩ => ⟨a, b, Box.free_mono (fun _ h => by cases h) c⟩) (hb.at k B hm)
open Go.RowKit

def renE (r : Nat → Nat) : List (Nat × D) → List (Nat × D)
 | [] => []
 | (t, d) :: l => (t, d.ren r) :: renE r l
def renB (r : Nat → Nat) : List (Nat × Option Box) → List (Nat × Option Box)
 | [] => []
 | (k, B) :: l => (r k, B.map (Box.ren r)) :: renB r l
theorem renE_at {r : Nat → Nat} : ∀ (l : List (Nat × D)) (t : Nat), lk (renE r l) t = (lk l t).ren r
 | [], _ => rfl
 | (s, d) :: l, t => by
  simp only [renE, lk]
  cases Nat.beq s t
  ·exact renE_at l t
  ·rfl
theorem renB_at {r s : Nat → Nat} : ∀ (l : List (Nat × Option Box)), (∀ x, x ∈ l → s (r x.1) = x.1) → ∀ k, hk (renB r l) k = if r (s k) = k then (hk l (s k)).map (Box.ren r) else none
 | [], _, k => by simp [renB, hk]
 | (x, B) :: l, h, k => by
  have hx : s (r x) = x := h (x, B) (by simp)
  have ih := renB_at l (fun y hy => h y (by simp [hy])) k
  simp only [renB, hk]
  by_cases q : r x = k
  ·subst q
   have e1 : Nat.beq (r x) (r x) = true := by simp
   have e2 : Nat.beq x x = true := by simp
   simp only [e1, hx, e2, if_true]
  ·rw [beq_ne q]
   simp only []
   rw [ih]
   by_cases q2 : r (s k) = k
   ·rw [if_pos q2, if_pos q2]
    have : x ≠ s k := fun e => q (by rw [e]; exact q2)
    rw [beq_ne this]
   ·rw [if_neg q2, if_neg q2]
open Classical in
/-- Names, as the round has them. -/
noncomputable def nmR (r s : Nat → Nat) (i : Nm) : Nm := fun x => if r (s x) = x then i (s x) else none
theorem Box.ren_nil {r : Nat → Nat} {B : Box} (h : B = .gone ∨ (∃ t m f, B = .arr t 0 m f ∨ B = .ice t 0 m f) ∨ ∃ t t2 m2 n2 g, B = .mat t t2 0 0 m2 n2 g) : B.ren r = .gone ∨ (∃ t m f, B.ren r = .arr t 0 m f ∨ B.ren r = .ice t 0 m f) ∨ ∃ t t2 m2 n2 g, B.ren r = .mat t t2 0 0 m2 n2 g := by
 rcases h with rfl | ⟨t, m, f, rfl | rfl⟩ | ⟨t, t2, m2, n2, g, rfl⟩
 ·exact .inl rfl
 ·exact .inr (.inl ⟨t, m, f, .inl rfl⟩)
 ·exact .inr (.inl ⟨t, m, f, .inr rfl⟩)
 ·exact .inr (.inr ⟨t, t2, m2, n2, g, rfl⟩)
section
variable {S : Cx} {env : List (Nat × D)} {box : List (Nat × Option Box)} {Z : Zn} {i : Nm} {a : Act} {w : World} {r s : Nat → Nat}
/-- Names of boxes, there and back. -/
structure Two (r s : Nat → Nat) (box : List (Nat × Option Box)) : Prop where
 low : ∀ k, k < 1000 → r k = k
 back : ∀ x, x ∈ box → s (r x.1) = x.1
theorem hk_mem : ∀ {box : List (Nat × Option Box)} {k : Nat}, hk box k ≠ none → ∃ x, x ∈ box ∧ x.1 = k
 | [], k, h => absurd rfl h
 | (x, B) :: l, k, h => by
  simp only [hk] at h
  by_cases q : x = k
  ·exact ⟨(x, B), by simp, q⟩
  ·rw [beq_ne q] at h
   obtain ⟨y, h1, h2⟩ := hk_mem h
   exact ⟨y, by simp [h1], h2⟩
theorem Two.at (h : Two r s box) {k : Nat} (hk' : hk box k ≠ none) : s (r k) = k := by
 obtain ⟨x, h1, rfl⟩ := hk_mem hk'
 exact h.back x h1
theorem Fits.alive (h : Fits S (lk env) (hk box) Z i a w) {k : Nat} {x : Option (Nat × Cp)} (e : i k = some x) : hk box k ≠ none := fun q => by rw [h.nil k q] at e; cases e
theorem Fits.nmR_at (h : Fits S (lk env) (hk box) Z i a w) (hr : Two r s box) {k : Nat} {x : Option (Nat × Cp)} (e : i k = some x) : nmR r s i (r k) = some x := by
 have := hr.at (h.alive e)
 unfold nmR
 rw [this, if_pos rfl]; exact e
/-- Blocks of boxes that may be turned. -/
def mutsOf (H : Nat → Option Box) (i : Nm) (b : Nat) : Prop := ∃ k B, H k = some B ∧ B.mut = true ∧ Foot B (i k) b
/-- The world now is what is kept. -/
theorem Fits.now {E : Nat → D} {H : Nat → Option Box} (h : Fits S E H Z i a w) : Fits { S with w1 := w, M1 := mutsOf H i, Z1 := Z } E H Z i a w :=
 { h with kept1 := Kept.refl _ _, zk1 := fun _ _ h => h, box := fun k B hB => (h.box k B hB).imp (fun ⟨b, c, e1, e2, e3, e4, e5⟩ => ⟨b, c, e1, e2, fun hm => ⟨(e3 hm).1, .inr ⟨k, B, hB, hm, .root e1⟩⟩, e4, e5⟩) id, foot := fun k B b hB hm hf => (fun f => ⟨f.1, f.2.1, f.2.2.1, .inr ⟨k, B, hB, hm, hf⟩⟩) (h.foot k B b hB hm hf) }
/-- A round begins. -/
theorem Fits.round (h : Fits S (lk env) (hk box) Z i a w) (hr : Two r s box) {a2 : Act} {E2 : Nat → D} (hd : a2.defers = []) (hs : a2.tmps.size = S.N) (he : ∀ t, Rep Z w i (a2.tmps.getD t undef) (E2 t)) :
  Fits { S with df := [], i0 := nmR r s i, w1 := w, M1 := mutsOf (hk box) i, Z1 := Z } (fun t => (E2 t).ren r) (hk (renB r box)) Z (nmR r s i) a2 w := by
 have hat := renB_at (r := r) (s := s) box hr.back
 have hH : ∀ k B, hk (renB r box) k = some B → r (s k) = k ∧ ∃ B0, hk box (s k) = some B0 ∧ B = B0.ren r ∧ nmR r s i k = i (s k) := fun k B hB => by
  rw [hat] at hB
  by_cases q : r (s k) = k
  ·rw [if_pos q] at hB
   cases e : hk box (s k) with
   | none => rw [e] at hB; cases hB
   | some B0 => rw [e] at hB; cases hB; exact ⟨q, B0, rfl, rfl, by unfold nmR; rw [if_pos q]⟩
  ·rw [if_neg q] at hB; cases hB
 refine { defers := ⟨[], hd, List.nodup_nil, fun b hb => by cases hb⟩, size := hs, kept := h.kept, kept1 := Kept.refl _ _, zk1 := fun _ _ h => h, zsub := h.zsub, zOld := h.zOld, zNew := h.zNew, env := fun t => (he t).rename (fun k x e => h.nmR_at hr e), box := fun k B hB => ?_, foot := fun k B b hB hm hf => ?_, nil := fun k hk' => ?_, low := fun k _ => rfl, inj := fun k k' B B' b h1 h2 m1 m2 e1 e2 => ?_ }
 ·obtain ⟨q, B0, g1, rfl, g3⟩ := hH k B hB
  rcases h.box _ B0 g1 with ⟨b, c, e1, e2, e3, e4, e5⟩ | ⟨e1, e2⟩
  ·refine .inl ⟨b, c, g3.trans e1, e2.imp id (fun ⟨p1, p2⟩ => ⟨by rw [← q, hr.low _ p1]; exact p1, p2⟩), fun hm => ?_, fun hi => ?_, e5.ren (fun k x e => h.nmR_at hr e)⟩
   ·rw [Box.ren_mut] at hm
    exact ⟨(e3 hm).1, .inr ⟨_, _, g1, hm, .root e1⟩⟩
   ·rw [Box.ren_ice] at hi; exact e4 hi
  ·exact .inr ⟨g3.trans e1, Box.ren_nil e2⟩
 ·obtain ⟨q, B0, g1, rfl, g3⟩ := hH k B hB
  rw [Box.ren_mut] at hm
  have hf0 : Foot B0 (i (s k)) b := g3 ▸ hf.unren
  have f := h.foot _ B0 b g1 hm hf0
  exact ⟨f.1, f.2.1.imp id (fun ⟨p1, p2, c, p3⟩ => ⟨by rw [← q, hr.low _ p1]; exact p1, p2, c, g3.trans p3⟩), f.2.2.1, .inr ⟨_, _, g1, hm, hf0⟩⟩
 ·rw [hat] at hk'
  unfold nmR
  by_cases q : r (s k) = k
  ·rw [if_pos q] at hk' ⊢
   cases e : hk box (s k) with
   | none => exact h.nil _ e
   | some B0 => rw [e] at hk'; cases hk'
  ·rw [if_neg q]
 ·obtain ⟨q, B0, g1, rfl, g3⟩ := hH k B h1
  obtain ⟨q', B0', g1', rfl, g3'⟩ := hH k' B' h2
  rw [Box.ren_mut] at m1 m2
  rw [← q, ← q', h.inj _ _ _ _ b g1 g1' m1 m2 (g3 ▸ e1.unren) (g3' ▸ e2.unren)]
/-- A block that holds no cells turns, and is not frozen. -/
theorem Fits.other {E : Nat → D} {H : Nat → Option Box} (h : Fits S E H Z i a w) {l : Nat} {o : Obj} {w' : World} (hl : w.heap[l]? = some o) (ho : ∀ cs t f, o ≠ .cells cs t f) (hos : w'.os = w.os ∧ w'.tape = w.tape ∧ w'.output = w.output ∧ w'.heap.size = w.heap.size) (hoth : ∀ b, b ≠ l → w'.heap[b]? = w.heap[b]?)
  (h0 : S.w0.heap.size ≤ l) (h1 : S.w1.heap.size ≤ l ∨ S.M1 l) (hz : ∀ q, ¬ S.Z1 q l) (hm : ∀ ms : List Nat, a.defers = ms.map mark ++ S.df → (∀ b, b ∈ ms → Z false b ∧ w.heap[b]? = some (.deferred (some []))) → l ∉ ms) :
  Fits S E H (fun q b => Z q b ∧ b ≠ l) i a w' := by
 obtain ⟨hos1, hos2, hos3, hos4⟩ := hos
 have hcl : ∀ {b : Nat} {t : TypeId} {cs : Array Value}, Bk w b t cs → b ≠ l := fun hB e => by subst e; unfold Bk at hB; rw [hl] at hB; cases hB; exact ho _ _ _ rfl
 have hmm : ∀ q b p u, Z q b → w.cell? ⟨b, p, none⟩ = some u → (Z q b ∧ b ≠ l) ∧ w'.cell? ⟨b, p, none⟩ = some u := fun q b p u hz hu => by
  have : b ≠ l := fun e => by
   subst e
   simp only [World.cell?, hl] at hu
   cases o with
   | cells cs t f => exact ho _ _ _ rfl
   | _ => cases hu
  exact ⟨⟨hz, this⟩, (World.cell?_of_block (w := w) (a := ⟨b, p, none⟩) (hoth b this)).trans hu⟩
 obtain ⟨ms, d1, d2, d3⟩ := h.defers
 refine { defers := ⟨ms, d1, d2, fun b hb => ?_⟩, size := h.size, kept := ⟨hos1.trans h.kept.os, hos2.trans h.kept.tape, hos3.trans h.kept.output, by rw [hos4]; exact h.kept.size, fun b hb hM => (hoth b (by omega)).trans (h.kept.block b hb hM)⟩, kept1 := ⟨hos1.trans h.kept1.os, hos2.trans h.kept1.tape, hos3.trans h.kept1.output, by rw [hos4]; exact h.kept1.size, fun b hb hM => (hoth b (fun e => by subst e; rcases h1 with q | q; omega; exact hM q)).trans (h.kept1.block b hb hM)⟩, zk1 := fun q b hb => ⟨h.zk1 q b hb, fun e => hz q (e ▸ hb)⟩, zsub := fun b hb => ⟨h.zsub b hb.1, hb.2⟩, zOld := fun b hb => ⟨by rw [hos4]; exact (h.zOld b hb.1).1, (h.zOld b hb.1).2⟩, zNew := fun b hb => h.zNew b hb.1, env := fun t => (h.env t).memC hmm, box := fun k B hB => ?_, foot := fun k B b hB hm' hf => (fun f => ⟨by rw [hos4]; exact f.1, f.2.1, fun hz' => f.2.2.1 hz'.1, f.2.2.2⟩) (h.foot k B b hB hm' hf), nil := h.nil, low := h.low, inj := h.inj }
 ·have hne : b ≠ l := fun e => hm ms d1 d3 (e ▸ hb)
  exact ⟨⟨(d3 b hb).1, hne⟩, (hoth b hne).trans (d3 b hb).2⟩
 ·rcases h.box k B hB with ⟨b, c, e1, e2, e3, e4, e5⟩ | q
  ·refine .inl ⟨b, c, e1, e2, fun hmu => ⟨fun hzz => (e3 hmu).1 hzz.1, (e3 hmu).2⟩, fun hic => ⟨e4 hic, ?_⟩, e5.memC (by rw [hos4]; exact Nat.le_refl _) (fun hg => ?_) hmm⟩
   ·cases B <;> simp [Box.isIce] at hic
    obtain ⟨_, cs, hB, _⟩ := e5
    exact hcl hB
   ·intro x hf
    obtain ⟨t, cs, q⟩ := e5.footBk hg hf
    exact hoth x (hcl q)
  ·exact .inr q
/-- Memory turns that is none of this activation's, and was not there at n0. -/
theorem Fits.apart {E : Nat → D} {H : Nat → Option Box} (h : Fits S E H Z i a w) {n0 : Nat} {w' : World} (hos : w'.os = w.os ∧ w'.tape = w.tape ∧ w'.output = w.output ∧ w.heap.size ≤ w'.heap.size) (hk' : ∀ b, b < w.heap.size → mutsOf H i b ∨ Z true b ∨ b < n0 → w'.heap[b]? = w.heap[b]?) (h0 : S.w0.heap.size ≤ n0) (h1 : S.w1.heap.size ≤ n0) : Fits S E H Z i a w' := by
 have hz : ∀ q b, Z q b → w'.heap[b]? = w.heap[b]? := fun q b hb => by
  have hbt : Z true b := by cases q; exact h.zsub b hb; exact hb
  exact hk' b (h.zOld b hbt).1 (.inr (.inl hbt))
 have hs0 := h.kept.size
 have hs1 := h.kept1.size
 obtain ⟨ms, d1, d2, d3⟩ := h.defers
 refine { defers := ⟨ms, d1, d2, fun b hb => ⟨(d3 b hb).1, (hz _ b (d3 b hb).1).trans (d3 b hb).2⟩⟩, size := h.size, kept := ⟨hos.1.trans h.kept.os, hos.2.1.trans h.kept.tape, hos.2.2.1.trans h.kept.output, Nat.le_trans hs0 hos.2.2.2, fun b hb hM => (hk' b (by omega) (.inr (.inr (by omega)))).trans (h.kept.block b hb hM)⟩, kept1 := ⟨hos.1.trans h.kept1.os, hos.2.1.trans h.kept1.tape, hos.2.2.1.trans h.kept1.output, Nat.le_trans hs1 hos.2.2.2, fun b hb hM => (hk' b (by omega) (.inr (.inr (by omega)))).trans (h.kept1.block b hb hM)⟩, zk1 := h.zk1, zsub := h.zsub, zOld := fun b hb => ⟨Nat.lt_of_lt_of_le (h.zOld b hb).1 hos.2.2.2, (h.zOld b hb).2⟩, zNew := h.zNew, env := fun t => (h.env t).mem (fun q b hb => ⟨hb, hz q b hb⟩), box := fun k B hB => ?_, foot := fun k B b hB hm hf => (fun f => ⟨Nat.lt_of_lt_of_le f.1 hos.2.2.2, f.2⟩) (h.foot k B b hB hm hf), nil := h.nil, low := h.low, inj := h.inj }
 rcases h.box k B hB with ⟨b, c, e1, e2, e3, e4, e5⟩ | q
 ·refine .inl ⟨b, c, e1, e2, e3, e4, ?_⟩
  by_cases hm : B.mut = true
  ·exact e5.mem hos.2.2.2 (fun x hx => hk' x (e5.footLt hx) (.inl ⟨k, B, hB, hm, e1 ▸ hx⟩)) (fun q b hb => ⟨hb, hz q b hb⟩)
  ·cases B with
   | gone => exact Nat.lt_of_lt_of_le e5 hos.2.2.2
   | ice t n m f => exact e5.imp fun _ e5 => ArrAt.mem e5 (hz _ _ (e4 rfl)) (fun q b hb => ⟨hb, hz q b hb⟩)
   | lit => exact absurd rfl hm
   | arr => exact absurd rfl hm
   | mat => exact absurd rfl hm
 ·exact .inr q
/-- More is frozen. -/
theorem Fits.more {E : Nat → D} {H : Nat → Option Box} (h : Fits S E H Z i a w) {Zx : Nat → Prop} (hx : ∀ b, Zx b → S.w0.heap.size ≤ b ∧ b < w.heap.size ∧ ¬ mutsOf H i b) : Fits S E H (fun q b => Z q b ∨ Zx b) i a w := by
 have hm : ∀ o x, Z o x → (Z o x ∨ Zx x) ∧ w.heap[x]? = w.heap[x]? := fun o x hz => ⟨.inl hz, rfl⟩
 have hf' : ∀ k B b, H k = some B → B.mut = true → Foot B (i k) b → b < w.heap.size ∧ (S.w0.heap.size ≤ b ∨ (k < 1000 ∧ S.M b ∧ ∃ c, i k = some (some (b, c)))) ∧ ¬ (Z true b ∨ Zx b) ∧ (S.w1.heap.size ≤ b ∨ S.M1 b) := fun k B b hB hmu hf => by
  have f := h.foot k B b hB hmu hf
  exact ⟨f.1, f.2.1, fun hz => hz.elim f.2.2.1 (fun q => (hx b q).2.2 ⟨k, B, hB, hmu, hf⟩), f.2.2.2⟩
 obtain ⟨ms, d1, d2, d3⟩ := h.defers
 refine { h with defers := ⟨ms, d1, d2, fun b hb => ⟨.inl (d3 b hb).1, (d3 b hb).2⟩⟩, zk1 := fun o b hb => .inl (h.zk1 o b hb), zsub := fun b hb => hb.imp (h.zsub b) id, zOld := fun b hb => ?_, zNew := fun b hb => hb.elim (h.zNew b) (fun q => (hx b q).1), env := fun t => (h.env t).mem hm, box := fun k B hB => (h.box k B hB).imp (fun ⟨b, c, e1, e2, e3, e4, e5⟩ => ⟨b, c, e1, e2, fun hmu => ⟨(hf' k B b hB hmu (.root e1)).2.2.1, (e3 hmu).2⟩, fun hi => .inl (e4 hi), e5.mem (Nat.le_refl _) (fun _ _ => rfl) hm⟩) id, foot := hf' }
 rcases hb with hb | hb
 ·exact h.zOld b hb
 ·exact ⟨(hx b hb).2.1, fun q => by have := (hx b hb).1; omega⟩
/-- A round is over: back to the loop's own slots and names. -/
theorem Fits.over (h : Fits S (lk env) (hk box) Z i a w) (hr : Two r s box) {S3 : Cx} {E3 : Nat → D} {boxR : List (Nat × Option Box)} {Z3 : Zn} {i3 : Nm} {a3 : Act} {w3 : World} (h3 : Fits S3 E3 (hk boxR) Z3 i3 a3 w3)
  (c0 : S3.w0 = S.w0) (cM : S3.M = S.M) (cZ : S3.Z0 = S.Z0) (ci : S3.i0 = nmR r s i) (hz : ∀ q b, Z q b → Z3 q b) {M2 : Nat → Prop} (hK : Kept M2 w w3) (hM2 : ∀ b, M2 b → mutsOf (hk box) i b ∨ (S.w1.heap.size ≤ b ∧ ¬ Z true b)) (h1 : S.w1.heap.size ≤ S3.w1.heap.size) (hM1 : ∀ b, S3.M1 b → S.w1.heap.size ≤ b ∨ S.M1 b)
  (hB : ∀ x, x ∈ boxR → r (s x.1) = x.1) (hfr : envFree (fun k => Nat.blt (r k) 1000 && Nat.beq (s (r k)) k) env = true) : Fits S (lk env) (hk (renB s boxR)) Z3 (nmR s r i3) a w3 := by
 have hat := renB_at (r := s) (s := r) boxR hB
 have hH : ∀ k B, hk (renB s boxR) k = some B → s (r k) = k ∧ ∃ B0, hk boxR (r k) = some B0 ∧ B = B0.ren s ∧ nmR s r i3 k = i3 (r k) := fun k B hB => by
  rw [hat] at hB
  by_cases q : s (r k) = k
  ·rw [if_pos q] at hB
   cases e : hk boxR (r k) with
   | none => rw [e] at hB; cases hB
   | some B0 => rw [e] at hB; cases hB; exact ⟨q, B0, rfl, rfl, by unfold nmR; rw [if_pos q]⟩
  ·rw [if_neg q] at hB; cases hB
 have hi3 : ∀ k x, i3 k = some x → nmR s r i3 (s k) = some x := fun k x e => by
  have : hk boxR k ≠ none := fun q => by rw [h3.nil k q] at e; cases e
  obtain ⟨y, y1, rfl⟩ := hk_mem this
  have := hB y y1
  unfold nmR
  rw [this, if_pos rfl]; exact e
 have hlow3 : ∀ k, k < 1000 → i3 k = nmR r s i k := fun k hk' => by rw [h3.low k hk', ci]
 have hold : ∀ q b, Z q b → w3.heap[b]? = w.heap[b]? := fun q b hb => by
  have hbt : Z true b := by cases q; exact h.zsub b hb; exact hb
  refine hK.block b (h.zOld b hbt).1 (fun hM => ?_)
  rcases hM2 b hM with ⟨k, B, g1, g2, g3⟩ | q
  ·exact (h.foot k B b g1 g2 g3).2.2.1 hbt
  ·exact q.2 hbt
 obtain ⟨ms, d1, d2, d3⟩ := h.defers
 refine { defers := ⟨ms, d1, d2, fun b hb => ⟨hz _ _ (d3 b hb).1, (hold _ b (d3 b hb).1).trans (d3 b hb).2⟩⟩, size := h.size, kept := by rw [← c0, ← cM]; exact h3.kept, kept1 := ⟨hK.os.trans h.kept1.os, hK.tape.trans h.kept1.tape, hK.output.trans h.kept1.output, Nat.le_trans h.kept1.size hK.size, fun b hb hM => ?_⟩, zk1 := fun q b hb => hz q b (h.zk1 q b hb), zsub := h3.zsub, zOld := fun b hb => ⟨(h3.zOld b hb).1, fun q => by rw [← cZ]; exact (h3.zOld b hb).2 (by rw [c0]; exact q)⟩, zNew := fun b hb => by rw [← c0]; exact h3.zNew b hb, env := fun t => ?_, box := fun k B hB' => ?_, foot := fun k B b hB' hm hf => ?_, nil := fun k hk' => ?_, low := fun k hk' => ?_, inj := fun k k' B B' b h1 h2 m1 m2 e1 e2 => ?_ }
 ·have hs1 := h.kept1.size
  refine (hK.block b (by omega) (fun hM' => ?_)).trans (h.kept1.block b hb hM)
  rcases hM2 b hM' with ⟨k, B, g1, g2, g3⟩ | q
  ·rcases (h.foot k B b g1 g2 g3).2.2.2 with q | q
   ·omega
   ·exact hM q
  ·omega
 ·refine ((h.env t).mem (Z' := Z3) (w' := w3) (fun q b hb => ⟨hz q b hb, hold q b hb⟩)).nm (envFree_at hfr t) (fun k x hp e => ?_)
  simp only [Bool.and_eq_true] at hp
  have hp1 : r k < 1000 := by simpa using hp.1
  have hp2 : s (r k) = k := by simpa using hp.2
  unfold nmR
  rw [if_pos hp2, hlow3 _ hp1]
  exact h.nmR_at hr e
 ·obtain ⟨q, B0, g1, rfl, g3⟩ := hH k B hB'
  rcases h3.box _ B0 g1 with ⟨b, c, e1, e2, e3, e4, e5⟩ | ⟨e1, e2⟩
  ·refine .inl ⟨b, c, g3.trans e1, ?_, fun hm => ?_, fun hi => ?_, e5.ren hi3⟩
   ·rw [c0, cM] at e2
    rcases e2 with e2 | ⟨e2, e2'⟩
    ·exact .inl e2
    ·have hik : i k = some (some (b, c)) := by
      rw [hlow3 _ e2] at e1
      unfold nmR at e1
      rw [q, if_pos rfl] at e1
      exact e1
     have hal := h.alive hik
     cases e : hk box k with
     | none => exact absurd e hal
     | some B1 =>
      rcases h.box k B1 e with ⟨b', c', f1, f2, _⟩ | ⟨f1, _⟩
      ·rw [hik] at f1; cases f1; exact f2
      ·rw [hik] at f1; cases f1
   ·rw [Box.ren_mut] at hm
    refine ⟨(e3 hm).1, ?_⟩
    rcases (e3 hm).2 with q2 | q2
    ·exact .inl (Nat.le_trans h1 q2)
    ·exact hM1 b q2
   ·rw [Box.ren_ice] at hi; exact e4 hi
  ·exact .inr ⟨g3.trans e1, Box.ren_nil e2⟩
 ·obtain ⟨q, B0, g1, rfl, g3⟩ := hH k B hB'
  rw [Box.ren_mut] at hm
  have hf0 : Foot B0 (i3 (r k)) b := g3 ▸ hf.unren
  have f := h3.foot _ B0 b g1 hm hf0
  refine ⟨f.1, ?_, f.2.2.1, ?_⟩
  ·have f2 := f.2.1
   rw [c0, cM] at f2
   rcases f2 with f2 | ⟨f2, f2', c, e1⟩
   ·exact .inl f2
   ·have hik : i k = some (some (b, c)) := by
     rw [hlow3 _ f2] at e1
     unfold nmR at e1
     rw [q, if_pos rfl] at e1
     exact e1
    cases e : hk box k with
    | none => exact absurd e (h.alive hik)
    | some B1 =>
     rcases h.box k B1 e with ⟨b', c', p1, p2, _⟩ | ⟨p1, _⟩
     ·rw [hik] at p1; cases p1
      exact p2.imp id (fun ⟨x, y⟩ => ⟨x, y, c, g3.trans e1⟩)
     ·rw [hik] at p1; cases p1
  ·rcases f.2.2.2 with q2 | q2
   ·exact .inl (Nat.le_trans h1 q2)
   ·exact hM1 b q2
 ·rw [hat] at hk'
  unfold nmR
  by_cases q : s (r k) = k
  ·rw [if_pos q] at hk' ⊢
   cases e : hk boxR (r k) with
   | none => exact h3.nil _ e
   | some B0 => rw [e] at hk'; cases hk'
  ·rw [if_neg q]
 ·rw [← h.low k hk']
  unfold nmR
  rw [hr.low k hk', hlow3 k hk']
  unfold nmR
  by_cases q : s k = k
  ·rw [if_pos q, q, if_pos (hr.low k hk')]
  ·rw [if_neg q]
   cases e : i k with
   | none => rfl
   | some x =>
    have := hr.at (h.alive e)
    rw [hr.low k hk'] at this
    exact absurd this q
 ·obtain ⟨q, B0, g1, rfl, g3⟩ := hH k B h1
  obtain ⟨q', B0', g1', rfl, g3'⟩ := hH k' B' h2
  rw [Box.ren_mut] at m1 m2
  rw [← q, ← q', h3.inj _ _ _ _ b g1 g1' m1 m2 (g3 ▸ e1.unren) (g3' ▸ e2.unren)]
end
end Go.Proofs.YtmjildbdkecolaaGreat
