/- A range over a function whose iterator has a variable of its own. No walk. Printed by mkvpm.py. -/
import Derived.Test.YtdcenblblimkfaaGreatPk21
set_option linter.unusedSimpArgs false
set_option linter.unusedVariables false
set_option linter.unnecessarySimpa false
set_option linter.unusedSectionVars false
namespace Go.Proofs.YtdcenblblimkfaaGreat
open Go.RowKit
abbrev GstM (γ:Type):=Nat→γ→(Nat→Prop)→(Nat→Prop)→World→Prop
structure JOkM {γ:Type} (n0 bx:Nat) (tb:TypeId) (u:γ→Value) (J:GstM γ):Prop where
 stable:∀ {k y C Z W W'},J k y C Z W→W'.os=W.os∧W'.tape=W.tape∧W'.output=W.output∧W.heap.size≤W'.heap.size→(∀ b,b<W.heap.size→C b∨Z b∨b<n0→W'.heap[b]? = W.heap[b]?)→J k y C Z W'
 lt:∀ {k y C Z W},J k y C Z W→(∀ b,C b→b<W.heap.size∧¬ Z b)∧∀ b,Z b→b<W.heap.size
 peek:∀ {k y C Z W},J k y C Z W→Bk W bx tb #[u y]∧¬ Z bx∧C bx
 poke:∀ {k y y' C Z W W'},J k y C Z W→W'.os=W.os∧W'.tape=W.tape∧W'.output=W.output∧W'.heap.size=W.heap.size→(∀ b,b≠bx→W'.heap[b]? = W.heap[b]?)→Bk W' bx tb #[u y']→J k y' C Z W'
def ItrDM {γ:Type} (P:Program) (f:FuncId) (c1:D) (tb:TypeId) (u:γ→Value) (y0:γ) (xs:List (List D)):Prop:=
 ∀ (l:Nat) (C0 Z0:Nat→Prop) (W0:World) (v0:Value) (bx:Nat) (J:GstM γ) (Jx:Gst),JOkM W0.heap.size bx tb u J→JOk W0.heap.size Jx→J 0 y0 C0 Z0 W0→Rep (fun o b=>o=true∧Z0 b) W0 noN v0 c1 →
  (∀ k y C Z W x us Zx,xs[k]? = some x→J k y C Z W→(∀ b,Zx b→W0.heap.size≤b∧b<W.heap.size∧¬ C b)→RepsI (Z2 Z Zx) W noN us x→W0.heap.size≤W.heap.size →
   YieldAt (Fw none) 0 P l us.toArray W fun e W'=>(e = .returned (.bool true)∧∃ C' Z',J (k+1) y C' Z' W'∧Kept C W W'∧(∀ b,C' b→C b∨W.heap.size≤b)∧(∀ b,Z b∨Zx b→Z' b))∨(e = .returned (.bool false)∧∃ k' C' Z',Jx k' C' Z' W')) →
  CallsIn (Fw none) 0 P f #[.func (.yield l) #[] #[],v0,.pointer (some ⟨bx,0,none⟩)] W0 fun e W'=>(∃ v,e = .returned v)∧((∃ y C Z,J xs.length y C Z W')∨∃ k C Z,Jx k C Z W')
section
variable {P:Program} {N:Nat} {Q:Post} {env:List (Nat × D)} {box:List (Nat × Option Box)} {r s:Nat→Nat}
set_option maxHeartbeats 1000000
theorem awp_rangeM {α γ : Type} {g : Operand} {ps : Array Tmp} {assign body : Code} {f : FuncId} {c0 c1 : D} {tb : TypeId} {u : γ → Value} (y0 : γ) (kx : Nat) {xs : List (List D)} {fn : Func} [hf : FI P f fn] (hit : ItrDM P f c1 tb u y0 xs) (hg : Opd (lk env) g (.clo f [c0, .eptr kx 0 0 0])) (hcv : Cvt c0 c1) [hod : OldD c1] (hno : c0.free (fun _ => false) = true) (hone : ∀ y, (u y).oneCell' = true)
  (B : Nat → γ → List (Nat × Option Box)) (BX : α → List (Nat × Option Box)) (ok : α → Prop) (ex : α → Code) (F : Nat → Prop) (hF00 : F 0) (hex : ∀ y, ok y → ex y = .ret ∨ ∃ id, ex y = .exit id)
  (hps : (ps.toList.all fun t => Nat.blt t (fsz N)) = true) (hnd : ps.toList.Nodup) (hlen : ∀ x, x ∈ xs → x.length = ps.size)
  (hr : Two r s box) (hB : ∀ k y x, x ∈ B k y → r (s x.1) = x.1) (hBX : ∀ y x, x ∈ BX y → r (s x.1) = x.1) (hBB : ∀ k y, renB r (renB s (B k y)) = B k y) (hkx : 1000 ≤ kx ∧ r kx < 1000 ∧ s (r kx) = kx) (hpk : ∀ k y, hk (renB s (B k y)) kx = some (.lit tb [.val (u y)])) (hpo : ∀ k y y' x, x ≠ kx → hk (renB s (B k y')) x = hk (renB s (B k y)) x)
  (hfr : envFree (fun k => Nat.blt (r k) 1000 && Nat.beq (s (r k)) k) env = true)
  (h0 : Sub (lk env) (hk box) (lk env) (hk (renB s (B 0 y0))))
  (hround : ∀ k y x l, F k → xs[k]? = some x → AWp (some l) P (fsz N) assign (lk (renE r (zipE ps.toList x ++ env))) (hk (B k y)) (AThen (fun E1 H1 => AWp (some l) P (fsz N) body E1 H1 (RndP (F (k + 1)) (B (k + 1) y) BX ok ex)) (fun _ _ _ => False)))
  (hdone : ∀ y, F xs.length → Q .normal (lk env) (hk (renB s (B xs.length y)))) (hstop : ∀ y, ok y → Q (exitOf (ex y)) (lk env) (hk (renB s (BX y)))) : AWp none P N (.rangeFunc g ps assign body) (lk env) (hk box) Q := fun S a w hN hR => by
 obtain ⟨Z, i, hF⟩ := h0 S a w hR
 obtain ⟨v0, bx, cpx, hgv, hv0, hbx⟩ : ∃ (v0 : Value) (bx : Nat) (cp : Cp), a.eval g = .func (.func f) #[] #[v0, .pointer (some ⟨bx, 0, none⟩)] ∧ Rep (fun o b => o = true ∧ Z true b) w noN v0 c1 ∧ i kx = some (some (bx, cp)) := by
  have h1 := hF.opd hg
  generalize a.eval g = v at h1 ⊢
  cases h1 with
  | clo _ _ vs _ hl hr =>
   match vs, hl with
   | [va, vb], _ =>
    have ra : Rep Z w i va c0 := hr 0 (by simp)
    have rb : Rep Z w i vb (.eptr kx 0 0 0) := hr 1 (by simp)
    have r2 : Rep Z w noN va c0 := ra.nm (p := fun _ => false) hno (fun k x hk => by cases hk)
    have r3 : Rep (fun o b => o = true ∧ Z true b) w noN va c1 := hod.od (fun b hb => ⟨rfl, hb⟩) (hcv.cv hF.zsub r2)
    cases rb with | @eptr _ b cp _ _ _ _ hib =>
    exact ⟨va, b, cp, by simp, r3, hib⟩
 refine wpIn_rangeFunc ?_
 intro fnid _
 obtain ⟨rec, hrec⟩ : ∃ rec : LoopState → Option Code → Loop, rec = fun st pe => { state := st, pending := pe, fn := fnid, tmps := a.tmps, params := ps, assign, body, defers := w.heap.size } := ⟨_, rfl⟩
 obtain ⟨W1, hW1⟩ : ∃ W1, (w.alloc (.deferred (some []))).alloc (.loop (rec .ready none)) = W1 := ⟨_, rfl⟩
 have hs1 : W1.heap.size = w.heap.size + 2 := by rw [← hW1]; simp
 have hold1 : ∀ b, b < w.heap.size → W1.heap[b]? = w.heap[b]? := fun b hb => by rw [← hW1]; exact (Below.heap_alloc _ _ _ (by simp; omega)).trans (Below.heap_alloc _ _ _ hb)
 have hL1 : W1.heap[w.heap.size + 1]? = some (.loop (rec .ready none)) := by
  rw [← hW1]; have := World.alloc_heap_new (w.alloc (.deferred (some []))) (.loop (rec .ready none)); rwa [World.size_alloc] at this
 have hK1 : W1.heap[w.heap.size]? = some (.deferred (some [])) := by
  rw [← hW1]; exact (Below.heap_alloc _ _ _ (by simp)).trans (World.alloc_heap_new w _)
 have hF1 : Fits S (lk env) (hk (renB s (B 0 y0))) Z i a W1 := hF.grown (w' := W1) (by rw [← hW1]; exact ⟨rfl, rfl, rfl, by simp; omega⟩) hold1 (fun _ _ h => h) (fun b hb => .inl hb) (fun b hb => ⟨hF.zsub b hb, hF.zNew b hb⟩)
 have hw0 : S.w0.heap.size ≤ w.heap.size := hF.kept.size
 have hw1 : S.w1.heap.size ≤ w.heap.size := hF.kept1.size
 obtain ⟨D, hD⟩ : ∃ D, D = w.heap.size := ⟨_, rfl⟩
 obtain ⟨l, hl⟩ : ∃ l, l = w.heap.size + 1 := ⟨_, rfl⟩
 have hlz1 : ∀ q b, S.Z1 q b → b < w.heap.size := fun q b hb => by
  have := hF.zk1 q b hb
  exact (hF.zOld b (by cases q; exact hF.zsub b this; exact this)).1
 -- what holds between two rounds
 let St : Option Code → List (Nat × Option Box) → (Nat → Prop) → (Nat → Prop) → World → Prop := fun pe bl C Zc W => W.heap[l]? = some (.loop (rec (if pe.isNone then .ready else .done) pe)) ∧ W.heap[D]? = some (.deferred (some [])) ∧ ∃ Zn i, Fits S (lk env) (hk bl) Zn i a W ∧ ¬ Zn true l ∧ ¬ Zn true D ∧ (∀ b, C b ↔ mutsOf (hk bl) i b ∨ b = l ∨ b = D) ∧ (∀ b, Zc b ↔ Zn true b) ∧ ∃ cp, i kx = some (some (bx, cp))
 have stOk : ∀ {pe bl C Zc W}, St pe bl C Zc W → (∀ b, C b → b < W.heap.size ∧ ¬ Zc b) ∧ ∀ b, Zc b → b < W.heap.size := fun {pe bl C Zc W} ⟨h1, h2, Zn, i, h3, h4, h5, h6, h7, h8⟩ => by
  refine ⟨fun b hb => ?_, fun b hb => (h3.zOld b ((h7 b).1 hb)).1⟩
  rw [h7]
  rcases (h6 b).1 hb with q | rfl | rfl
  ·exact ⟨(mutsOf_bk h3 q).1, (mutsOf_bk h3 q).2.1⟩
  ·exact ⟨(Array.getElem?_eq_some_iff.1 h1).1, h4⟩
  ·exact ⟨(Array.getElem?_eq_some_iff.1 h2).1, h5⟩
 have stSt : ∀ {pe bl C Zc W W'}, St pe bl C Zc W → W'.os = W.os ∧ W'.tape = W.tape ∧ W'.output = W.output ∧ W.heap.size ≤ W'.heap.size → (∀ b, b < W.heap.size → C b ∨ Zc b ∨ b < W1.heap.size → W'.heap[b]? = W.heap[b]?) → St pe bl C Zc W' := fun {pe bl C Zc W W'} ⟨h1, h2, Zn, i, h3, h4, h5, h6, h7, h8⟩ hos hk' =>
  ⟨(hk' l (Array.getElem?_eq_some_iff.1 h1).1 (.inl ((h6 l).2 (.inr (.inl rfl))))).trans h1, (hk' D (Array.getElem?_eq_some_iff.1 h2).1 (.inl ((h6 D).2 (.inr (.inr rfl))))).trans h2, Zn, i,
   h3.apart (n0 := W1.heap.size) hos (fun b hb hc => hk' b hb (by rcases hc with q | q | q; exact .inl ((h6 b).2 (.inl q)); exact .inr (.inl ((h7 b).2 q)); exact .inr (.inr q))) (by omega) (by omega), h4, h5, h6, h7, h8⟩
 refine ⟨l, [{ target := .collected D, args := #[] }], W1, { target := .fn (.func f) #[v0, .pointer (some ⟨bx, 0, none⟩)], args := #[.func (.yield l) #[] #[]] }, W1, f, #[.func (.yield l) #[] #[], v0, .pointer (some ⟨bx, 0, none⟩)], W1, ?_, ?_, fun _ _ => trivial, ?_, fun h => (by cases h), ?_⟩
 ·rw [← hW1, hrec, hD, hl]; exact run_enterLoop_outer _ _ _ _ _
 ·simp only [resolve, hgv]
  simp [go_sem]
 ·simp [invoke, go_sem, hf.enters]
 ·have hl0 : ¬ Z true l := fun hz => by have := (hF.zOld l hz).1; omega
  have hD0 : ¬ Z true D := fun hz => by have := (hF.zOld D hz).1; omega
  have pk : ∀ {k : Nat} {y : γ} {C Zc W}, St none (renB s (B k y)) C Zc W → Bk W bx tb #[u y] ∧ ¬ Zc bx ∧ C bx := fun {k y C Zc W} ⟨g1, g2, Zn, i', g3, g4, g5, g6, g7, cp, g8⟩ => by
   rcases g3.box kx _ (hpk k y) with ⟨b, c, e1, e2, e3, e4, cs, e5, e6, e7⟩ | ⟨e1, _⟩
   ·rw [g8] at e1; cases e1
    have := (e7 0 (by simp)).2.valEq
    obtain ⟨l⟩ := cs
    match l, e6 with
    | [c0], _ =>
     simp at this
     subst this
     exact ⟨e5, fun hz => (e3 rfl).1 ((g7 _).1 hz), (g6 _).2 (.inl ⟨kx, _, hpk k y, rfl, .root g8⟩)⟩
   ·rw [g8] at e1; cases e1
  have po : ∀ {k : Nat} {y y' : γ} {C Zc W W'}, St none (renB s (B k y)) C Zc W → W'.os = W.os ∧ W'.tape = W.tape ∧ W'.output = W.output ∧ W'.heap.size = W.heap.size → (∀ b, b ≠ bx → W'.heap[b]? = W.heap[b]?) → Bk W' bx tb #[u y'] → St none (renB s (B k y')) C Zc W' := fun {k y y' C Zc W W'} hst hos ho hb => by
   obtain ⟨p1, p2, _⟩ := pk hst
   obtain ⟨g1, g2, Zn, i', g3, g4, g5, g6, g7, cp, g8⟩ := hst
   have hcl : ∀ {o : Obj} {b : Nat}, W.heap[b]? = some o → (∀ cs t f, o ≠ .cells cs t f) → b ≠ bx := fun {o b} h1 h2 e => by
    subst e
    unfold Bk at p1
    rw [h1] at p1
    exact h2 _ _ _ (Option.some.inj p1)
   have hlx := hcl g1 (fun _ _ _ h => by cases h)
   have hDx := hcl g2 (fun _ _ _ h => by cases h)
   have hiff : ∀ b, mutsOf (hk (renB s (B k y'))) i' b ↔ mutsOf (hk (renB s (B k y))) i' b := fun b => by
    constructor
    ·rintro ⟨q, Bq, q1, q2, q3⟩
     by_cases e : q = kx
     ·subst e; rw [hpk] at q1; cases q1; exact ⟨q, _, hpk k y, rfl, by obtain ⟨cp', e'⟩ := q3.flat rfl; exact .root e'⟩
     ·exact ⟨q, Bq, by rw [← hpo k y y' q e]; exact q1, q2, q3⟩
    ·rintro ⟨q, Bq, q1, q2, q3⟩
     by_cases e : q = kx
     ·subst e; rw [hpk] at q1; cases q1; exact ⟨q, _, hpk k y', rfl, by obtain ⟨cp', e'⟩ := q3.flat rfl; exact .root e'⟩
     ·exact ⟨q, Bq, by rw [hpo k y y' q e]; exact q1, q2, q3⟩
   refine ⟨(ho l hlx).trans g1, (ho D hDx).trans g2, Zn, i', ?_, g4, g5, fun b => by rw [g6, hiff], g7, cp, g8⟩
   refine g3.step (fun x => x = kx) ⟨hos.1, hos.2.1, hos.2.2.1, Nat.le_of_eq hos.2.2.2.symm⟩ (fun b _ hn => ho b (fun e => hn kx _ rfl (hpk k y) rfl (by subst e; exact .root g8))) (fun _ _ => rfl) (fun x hx => hpo k y y' x hx) (fun x hx e => by subst hx; rw [hpk] at e; cases e) (fun x _ e => g3.nil x e) (fun x hx e => g3.nil x e) (fun _ _ h => h) (fun b hb => .inl hb) (fun b hb => ⟨g3.zsub b hb, g3.zNew b hb⟩) (fun x Bq hx hB => ?_) (fun x Bq b hx hB hm hf => .inr ⟨kx, _, rfl, fun h => by omega, hpk k y, rfl, ?_⟩) (fun x x' _ _ _ hx hx' _ _ _ _ _ _ => hx.trans hx'.symm)
   ·subst hx
    rw [hpk] at hB; cases hB
    rcases g3.box x _ (hpk k y) with ⟨b, c, e1, e2, e3, e4, e5⟩ | ⟨e1, _⟩
    ·rw [g8] at e1; cases e1
     refine .inl ⟨bx, _, g8, e2, e3, fun h => (by cases h), #[u y'], hb, rfl, fun j hj => ?_⟩
     obtain rfl : j = 0 := by simpa using hj
     exact ⟨hone y', .val _ _⟩
    ·rw [g8] at e1; cases e1
   ·subst hx
    rw [hpk] at hB; cases hB
    obtain ⟨cp', e'⟩ := hf.flat rfl
    exact .root e'
  refine (hit l (fun b => mutsOf (hk (renB s (B 0 y0))) i b ∨ b = l ∨ b = D) (Z true) W1 v0 bx (fun k y C Zc W => F k ∧ St none (renB s (B k y)) C Zc W) (fun _ C Zc W => ∃ y, ok y ∧ St (some (ex y)) (renB s (BX y)) C Zc W) ⟨fun h a b => ⟨h.1, stSt h.2 a b⟩, fun h => stOk h.2, fun h => pk h.2, fun h a b c => ⟨h.1, po h.2 a b c⟩⟩ ⟨fun ⟨y, hy, h⟩ a b => ⟨y, hy, stSt h a b⟩, fun ⟨y, _, h⟩ => stOk h⟩
   ⟨hF00, hl ▸ hL1, hD ▸ hK1, Z, i, hF1, hl0, hD0, fun _ => Iff.rfl, fun _ => Iff.rfl, cpx, hbx⟩ (hv0.mem (fun q b hb => ⟨hb, hold1 b (hF.zOld b hb.2).1⟩)) ?_).mono ?_
  ·intro k y C Zc W x us Zx hx ⟨hFk, g1, g2, Zn, i', g3, g4, g5, g6, g7, cp8, g8⟩ hZx hus hsz
   replace g1 : W.heap[l]? = some (.loop (rec .ready none)) := g1
   have F1 := g3.more (Zx := Zx) (fun b hb => ⟨by have := (hZx b hb).1; omega, (hZx b hb).2.1, fun hm => (hZx b hb).2.2 ((g6 b).2 (.inl hm))⟩)
   have hxl := hlen x (List.mem_of_getElem? hx)
   have hul : us.length = ps.toList.length := by rw [hus.1, hxl]; simp
   have hlt : l < W.heap.size := (Array.getElem?_eq_some_iff.1 g1).1
   have hDt : D < W.heap.size := (Array.getElem?_eq_some_iff.1 g2).1
   have hlD : l ≠ D := by omega
   have hzx : ∀ b, Zx b → b ≠ l ∧ b ≠ D := fun b hb => ⟨fun e => (hZx b hb).2.2 ((g6 b).2 (.inr (.inl e))), fun e => (hZx b hb).2.2 ((g6 b).2 (.inr (.inr e)))⟩
   have hnl : ∀ q, ¬ (Zn q l ∨ Zx l) := fun q hz => hz.elim (fun h => g4 (by cases q; exact g3.zsub l h; exact h)) (fun h => (hzx l h).1 rfl)
   have hnD : ∀ q, ¬ (Zn q D ∨ Zx D) := fun q hz => hz.elim (fun h => g5 (by cases q; exact g3.zsub D h; exact h)) (fun h => (hzx D h).2 rfl)
   have hnml : ¬ mutsOf (hk (renB s (B k y))) i' l := fun hm => by obtain ⟨_, _, _, t, cs, q⟩ := mutsOf_bk F1 hm; unfold Bk at q; rw [g1] at q; cases q
   have hnmD : ¬ mutsOf (hk (renB s (B k y))) i' D := fun hm => by obtain ⟨_, _, _, t, cs, q⟩ := mutsOf_bk F1 hm; unfold Bk at q; rw [g2] at q; cases q
   have hy := run_yield (P := P) (args := us.toArray) g1 (by rw [hrec]; simp; simpa using hul)
   obtain ⟨tm, htm⟩ : ∃ tm, ((rec .ready none).params.zip us.toArray).foldl (fun tmps (t, a) => tmps.setIfInBounds t a) (rec .ready none).tmps = tm := ⟨_, rfl⟩
   have htm2 : (ps.toList.zip us).foldl (fun a p => a.setIfInBounds p.1 p.2) a.tmps = tm := by
    rw [← htm, hrec, ← Array.foldl_toList]
    simp
   have htwo : Two r s (renB s (B k y)) := ⟨hr.low, fun y9 hy => by
    obtain ⟨z, z1, z2⟩ := renB_mem hy
    rw [z2, hB k y z z1]⟩
   have F2 := F1.round (a2 := { tmps := tm, defers := [] }) (E2 := lk (zipE ps.toList x ++ env)) htwo rfl (by show tm.size = _; rw [← htm2, foldl_size]; exact F1.size) (fun t => by
    show Rep _ _ _ (tm.getD t undef) _
    rw [← htm2]
    refine zip_put ps.toList us x a.tmps env hul (by simpa using hxl) (fun t ht => ?_) hnd (fun j hj => ?_) F1.env t
    ·have := List.all_eq_true.1 hps t ht
     rw [F1.size, hN]; simpa using this
    ·refine ((hus.2 j hj).mem (Z' := fun q b => Zn q b ∨ Zx b) (w' := W) (fun q b hb => ⟨?_, rfl⟩)).ext (fun k x e => by cases e)
     cases q
     ·exact .inr hb
     ·rcases hb with hb | hb
      ·exact .inl ((g7 b).1 hb)
      ·exact .inr hb)
   rw [hBB] at F2
   rw [show (fun t => (lk (zipE ps.toList x ++ env) t).ren r) = lk (renE r (zipE ps.toList x ++ env)) from funext fun t => (renE_at _ t).symm] at F2
   rw [htm] at hy
   refine ⟨fnid, tm, assign, body, by rw [hy, hrec], roundIn_of_wpIn (F := Fw none) trivial ?_⟩
   refine wpIn_mono (hround k y x l hFk hx { S with N := fsz S.N, df := [], i0 := nmR r s i', w1 := W, M1 := mutsOf (hk (renB s (B k y))) i', Z1 := fun q b => Zn q b ∨ Zx b } _ _ (congrArg fsz hN) ⟨_, _, F2⟩) (fun e a1 Wa ⟨E1, H1, q1, q2⟩ => ?_)
   replace q1 := q1.no (fun ch h => no_pan h)
   cases e with
   | normal =>
    obtain ⟨Z1, i1, F3⟩ := q2
    have hla : Wa.heap[l]? = some (.loop (rec .ready none)) := (F3.kept1.block l hlt hnml).trans g1
    have hDa : Wa.heap[D]? = some (.deferred (some [])) := (F3.kept1.block D hDt hnmD).trans g2
    have hlta : l < Wa.heap.size := (Array.getElem?_eq_some_iff.1 hla).1
    refine ⟨_, run_beginRound hla (by rw [hrec]), ?_⟩
    obtain ⟨Wb, hWb⟩ : ∃ Wb, Wa.putObj l (.loop { rec .ready none with state := .busy }) = Wb := ⟨_, rfl⟩
    rw [hWb]
    have hlb2 : Wb.heap[l]? = some (.loop { rec .ready none with state := .busy }) := by rw [← hWb]; exact World.putObj_heap_same hlta
    have hob : ∀ b, b ≠ l → Wb.heap[b]? = Wa.heap[b]? := fun b hb => by rw [← hWb]; exact World.putObj_heap_other hb
    have hsb : Wb.heap.size = Wa.heap.size := by rw [← hWb]; simp
    have F3' : Fits { S with N := fsz S.N, df := [], i0 := nmR r s i', w1 := Wa, M1 := fun b => mutsOf H1 i1 b ∨ b = l, Z1 := fun q b => Zn q b ∨ Zx b } E1 H1 Z1 i1 a1 Wa :=
     { F3 with kept1 := Kept.refl _ _, zk1 := F3.zk1, box := fun k B hB => (F3.box k B hB).imp (fun ⟨b, c, e1, e2, e3, e4, e5⟩ => ⟨b, c, e1, e2, fun hm => ⟨(e3 hm).1, .inr (.inl ⟨k, B, hB, hm, .root e1⟩)⟩, e4, e5⟩) id, foot := fun k B b hB hm hf => (fun f => ⟨f.1, f.2.1, f.2.2.1, .inr (.inl ⟨k, B, hB, hm, hf⟩)⟩) (F3.foot k B b hB hm hf) }
    have F4 := F3'.other (l := l) (w' := Wb) hla (fun _ _ _ h => by cases h) (by rw [← hWb]; exact ⟨rfl, rfl, rfl, by simp⟩) hob (by show S.w0.heap.size ≤ l; omega) (.inr (.inr rfl)) hnl (fun ms _ h hm => by have := (h l hm).2; rw [hla] at this; cases this)
    have F5 := F4.now
    refine wpIn_mono (q1 { S with N := fsz S.N, df := [], i0 := nmR r s i', w1 := Wb, M1 := mutsOf H1 i1, Z1 := fun q b => Z1 q b ∧ b ≠ l } _ _ (congrArg fsz hN) ⟨_, _, F5⟩) (fun e a3 W3 ⟨E3, H3, p1, p2⟩ => ?_)
    replace p1 := p1.no (fun ch h => no_pan h)
    have hM3 : ∀ b, mutsOf H1 i1 b → W.heap.size ≤ b ∨ mutsOf (hk (renB s (B k y))) i' b := fun b hb => (mutsOf_bk F3 hb).2.2.1
    have fin : ∀ (jump : Option Code) (bl : List (Nat × Option Box)), Sub E3 H3 (lk []) (hk bl) → (∀ x, x ∈ bl → r (s x.1) = x.1) → ∃ W4, (Instr.endRound l jump).run P W3 = .ok (.bool jump.isNone) W4 ∧ ∃ C' Z'', St jump (renB s bl) C' Z'' W4 ∧ Kept C W W4 ∧ (∀ b, C' b → C b ∨ W.heap.size ≤ b) ∧ (∀ b, Zc b ∨ Zx b → Z'' b) := fun jump bl hsub hbl => by
     obtain ⟨Z3, i3, F6⟩ := hsub _ _ _ p2
     have hnl3 : ∀ b, (b = l ∨ b = D) → ¬ mutsOf H1 i1 b := fun b hb hm => by
      obtain ⟨_, _, _, t, cs, q⟩ := mutsOf_bk F5 hm
      unfold Bk at q
      rcases hb with rfl | rfl
      ·rw [hlb2] at q; cases q
      ·rw [hob _ (Ne.symm hlD), hDa] at q; cases q
     have hl3 : W3.heap[l]? = some (.loop { rec .ready none with state := .busy }) := (F6.kept1.block l (by show l < Wb.heap.size; omega) (hnl3 l (.inl rfl))).trans hlb2
     have hD3 : W3.heap[D]? = some (.deferred (some [])) := (F6.kept1.block D (by show D < Wb.heap.size; have := (Array.getElem?_eq_some_iff.1 hDa).1; omega) (hnl3 D (.inr rfl))).trans ((hob D (Ne.symm hlD)).trans hDa)
     have hK : Kept (fun b => mutsOf (hk (renB s (B k y))) i' b ∨ b = l) W W3 := by
      have ka := F3.kept1
      have kb := F6.kept1
      refine ⟨kb.os.trans (by rw [← hWb]; exact ka.os), kb.tape.trans (by rw [← hWb]; exact ka.tape), kb.output.trans (by rw [← hWb]; exact ka.output), Nat.le_trans (Nat.le_trans ka.size (Nat.le_of_eq hsb.symm)) kb.size, fun b hb hn => ?_⟩
      have hba : b < Wa.heap.size := Nat.lt_of_lt_of_le hb ka.size
      refine (kb.block b (by show b < Wb.heap.size; omega) (fun hm => ?_)).trans ((hob b (fun e => hn (.inr e))).trans (ka.block b hb (fun hm => hn (.inl hm))))
      rcases hM3 b hm with q | q
      ·omega
      ·exact hn (.inl q)
     have hzz : ∀ q b, (Zn q b ∨ Zx b) → Z3 q b := fun q b hb => F6.zk1 q b ⟨F3.zk1 q b hb, fun e => hnl q (e ▸ hb)⟩
     have F7 := F1.over htwo F6 rfl rfl rfl rfl hzz hK (fun b hb => hb.imp id (fun e => by subst e; exact ⟨by omega, hnl true⟩)) (by show S.w1.heap.size ≤ Wb.heap.size; have := F3.kept1.size; have : W.heap.size ≤ Wa.heap.size := this; omega) (fun b hb => by
      rcases hM3 b hb with q | q
      ·exact .inl (by have := F1.kept1.size; omega)
      ·exact (mutsOf_bk F1 q).2.2.1) hbl hfr
     obtain ⟨W4, hW4⟩ : ∃ W4, W3.putObj l (.loop (rec (if jump.isNone then .ready else .done) jump)) = W4 := ⟨_, rfl⟩
     have ho4 : ∀ b, b ≠ l → W4.heap[b]? = W3.heap[b]? := fun b hb => by rw [← hW4]; exact World.putObj_heap_other hb
     have hl4 : W4.heap[l]? = some (.loop (rec (if jump.isNone then .ready else .done) jump)) := by rw [← hW4]; exact World.putObj_heap_same (Array.getElem?_eq_some_iff.1 hl3).1
     have hD4 : W4.heap[D]? = some (.deferred (some [])) := (ho4 D (Ne.symm hlD)).trans hD3
     have hs4 : W4.os = W3.os ∧ W4.tape = W3.tape ∧ W4.output = W3.output ∧ W4.heap.size = W3.heap.size := by rw [← hW4]; exact ⟨rfl, rfl, rfl, by simp⟩
     have F8 := F7.other (l := l) (w' := W4) hl3 (fun _ _ _ h => by cases h) hs4 ho4 (by omega) (.inl (by omega)) (fun q hq => by have := hlz1 q l hq; omega) (fun ms _ h hm => by have := (h l hm).2; rw [hl3] at this; cases this)
     have F9 := F8.other (l := D) (w' := W4) hD4 (fun _ _ _ h => by cases h) ⟨rfl, rfl, rfl, rfl⟩ (fun _ _ => rfl) (by omega) (.inl (by omega)) (fun q hq => by have := hlz1 q D hq; omega) (fun ms he _ hm => by
      obtain ⟨ms', d1, d2, d3⟩ := F1.defers
      rw [d1] at he
      rw [← mark_inj he] at hm
      exact hnD _ (d3 D hm).1)
     have hnk : nmR s r i3 kx = some (some (bx, cp8)) := by
      have e1 : i3 (r kx) = nmR r s i' (r kx) := F6.low _ hkx.2.1
      unfold nmR at e1 ⊢
      rw [hkx.2.2] at e1 ⊢
      rw [if_pos rfl] at e1 ⊢
      rw [e1]; exact g8
     refine ⟨W4, ?_, fun b => mutsOf (hk (renB s bl)) (nmR s r i3) b ∨ b = l ∨ b = D, fun b => (Z3 true b ∧ b ≠ l) ∧ b ≠ D, ⟨hl4, hD4, _, _, F9, fun h => h.1.2 rfl, fun h => h.2 rfl, fun _ => Iff.rfl, fun _ => Iff.rfl, cp8, hnk⟩, ⟨hs4.1.trans hK.os, hs4.2.1.trans hK.tape, hs4.2.2.1.trans hK.output, by rw [hs4.2.2.2]; exact hK.size, fun b hb hn => ?_⟩, fun b hb => ?_, fun b hb => ?_⟩
     ·have := run_endRound (P := P) jump hl3
      rw [this, ← hW4, hrec]
     ·refine (ho4 b (fun e => hn ((g6 b).2 (.inr (.inl e))))).trans (hK.block b hb (fun hm => hn ((g6 b).2 ?_)))
      rcases hm with q | q
      ·exact .inl q
      ·exact .inr (.inl q)
     ·rcases hb with q | q
      ·rcases (mutsOf_bk F6 (muts_back hbl q)).2.2.1 with q1 | q1
       ·exact .inr (by have h1 := F3.kept1.size; have h2 : W.heap.size ≤ Wa.heap.size := h1; have h3 : Wb.heap.size ≤ b := q1; omega)
       ·rcases hM3 b q1 with q2 | q2
        ·exact .inr q2
        ·exact .inl ((g6 b).2 (.inl q2))
      ·exact .inl ((g6 b).2 (.inr q))
     ·have hb2 : Zn true b ∨ Zx b := hb.imp (g7 b).1 id
      exact ⟨⟨hzz true b hb2, fun e => hnl true (e ▸ hb2)⟩, fun e => hnD true (e ▸ hb2)⟩
    have fin2 : ∀ e : Exit, (∃ y1, ok y1 ∧ e = exitOf (ex y1) ∧ Sub E3 H3 (lk []) (hk (BX y1))) → e ≠ .normal → roundPost P l (fun e W' => (e = .returned (.bool true) ∧ ∃ C' Z', (F (k + 1) ∧ St none (renB s (B (k + 1) y)) C' Z' W') ∧ Kept C W W' ∧ (∀ b, C' b → C b ∨ W.heap.size ≤ b) ∧ (∀ b, Zc b ∨ Zx b → Z' b)) ∨ (e = .returned (.bool false) ∧ ∃ k' C' Z', ∃ y1, ok y1 ∧ St (some (ex y1)) (renB s (BX y1)) C' Z' W')) e a3 W3 := fun e ⟨y1, hy, he, hsub⟩ hne => by
     obtain ⟨W4, f1, C', Z'', f2, _⟩ := fin (some (ex y1)) (BX y1) hsub (hBX y1)
     subst he
     rcases hex y1 hy with h | ⟨id, h⟩ <;> rw [h] at f1 f2 ⊢
     ·exact ⟨_, _, f1, .inr ⟨rfl, 0, C', Z'', y1, hy, by rw [h]; exact f2⟩⟩
     ·exact ⟨_, _, f1, .inr ⟨rfl, 0, C', Z'', y1, hy, by rw [h]; exact f2⟩⟩
    cases e with
    | normal =>
     obtain ⟨W4, f1, C', Z'', f2, f3, f4, f5⟩ := fin none (B (k + 1) y) p1.2 (hB (k + 1) y)
     exact ⟨_, _, f1, .inl ⟨rfl, C', Z'', ⟨p1.1, f2⟩, f3, f4, f5⟩⟩
    | ret => exact fin2 .ret p1 (by simp)
    | exit id => exact fin2 (.exit id) p1 (by simp)
    | goto t =>
     obtain ⟨y, hy, he, _⟩ := p1
     rcases hex y hy with h | ⟨id, h⟩ <;> rw [h] at he <;> cases he
    | panic c =>
     obtain ⟨y, hy, he, _⟩ := p1
     rcases hex y hy with h | ⟨id, h⟩ <;> rw [h] at he <;> cases he
    | outgrown =>
     obtain ⟨y, hy, he, _⟩ := p1
     rcases hex y hy with h | ⟨id, h⟩ <;> rw [h] at he <;> cases he
   | _ => exact q1.elim
  ·have last : ∀ (pe : Option Code) (bl : List (Nat × Option Box)) (C Zc : Nat → Prop) (W : World), St pe bl C Zc W → ∃ W5, (Instr.endLoop l).run P W = .ok pe W5 ∧ RepS S (lk env) (hk bl) { a with defers := { target := .collected D, args := #[] } :: a.defers } W5 := fun pe bl C Zc W ⟨g1, g2, Zn, i', g3, g4, g5, g6, g7, _⟩ => by
    obtain ⟨W5, hW5⟩ : ∃ W5, W.putObj l (.loop { rec (if pe.isNone then .ready else .done) pe with state := .exhausted }) = W5 := ⟨_, rfl⟩
    have ho5 : ∀ b, b ≠ l → W5.heap[b]? = W.heap[b]? := fun b hb => by rw [← hW5]; exact World.putObj_heap_other hb
    refine ⟨W5, ?_, _, i', ((g3.other (l := l) (w' := W5) g1 (fun _ _ _ h => by cases h) (by rw [← hW5]; exact ⟨rfl, rfl, rfl, by simp⟩) ho5 (by omega) (.inl (by omega)) (fun q hq => by have := hlz1 q l hq; omega) (fun ms _ h hm => by have := (h l hm).2; rw [g1] at this; cases this)).addmark (b := D) ((ho5 D (by omega)).trans g2) (fun h => g5 h.1) (by omega))⟩
    have := run_endLoop (P := P) g1 (by rw [hrec]; cases pe <;> simp)
    rw [this, ← hW5, hrec]
   rintro e W2 ⟨⟨v, rfl⟩, (⟨y, C, Zc, hst⟩ | ⟨k, C, Zc, y, hy, hst⟩)⟩
   ·obtain ⟨W5, e1, e2⟩ := last _ _ _ _ _ hst.2
    exact ⟨none, W5, e1, _, _, hdone y hst.1, e2⟩
   ·obtain ⟨W5, e1, e2⟩ := last _ _ _ _ _ hst
    exact ⟨some (ex y), W5, e1, wpIn_code (hex y hy) ⟨_, _, QP.of (hstop y hy), e2⟩⟩
end
section
variable {ro:Option Nat} {P:Program} {N:Nat} {Q:Post} {env env1:List (Nat × D)} {box:List (Nat × Option Box)}
theorem hk_first {k:Nat} {a a':Option Box} {l:List (Nat × Option Box)} {x:Nat} (h:x≠k):hk ((k,a')::l) x=hk ((k,a)::l) x:=by
 simp only [hk,beq_ne (Ne.symm h)]
theorem c_rangeM {α γ:Type} (pins:List Nat) (kx:Nat) {f:FuncId} {c0 c1:D} {tb:TypeId} {u:γ→Value} {y0:γ} {xs:List (List D)} (hit:ItrDM P f c1 tb u y0 xs) (n:Nat) (hn:xs.length=n) (X:Nat→List D) (hX:∀ k,k<n→xs[k]? = some (X k)) (B:Nat→γ→List (Nat × Option Box)) (BX:α→List (Nat × Option Box)) (ok:α→Prop) (ex:α→Code) (F:Nat→Prop)
  {g:Operand} {ps:List Tmp} {assign body:Code} {fn:Func} {EZ ER:Nat→List (Nat × D)} {BS:Nat→γ→List (Nat × Option Box)} {BXS:α→List (Nat × Option Box)} [hf:FI P f fn] [hod:OldD c1] [hcv:Cvt c0 c1]
  (hF0:F 0) (hround:∀ k y l,k<n→F k→AWp (some l) P (fsz N) assign (lk (ER k)) (hk (B k y)) (AThen (fun E1 H1=>AWp (some l) P (fsz N) body E1 H1 (RndP (F (k+1)) (B (k+1) y) BX ok ex)) (fun _ _ _=>False)))
  (hdone:∀ y,F n→Q .normal (lk env1) (hk (BS n y))) (hstop:∀ y,ok y→Q (exitOf (ex y)) (lk env1) (hk (BXS y)))
  (he:autoParam (KeepE [] env env1) aq10._auto_1) (hBS:∀ k y,RenBL (unpN pins) (B k y) (BS k y):=by (intro k y;(repeat (first | exact RenBL.nil | (apply RenBL.cons;(focus ((first | exact unp_y rfl | exact unp_n rfl);done));(focus ((first | exact renb_free rfl | exact renb_lit (by (repeat (first | exact RenLL.nil | (apply RenLL.cons;(focus ((first | exact D.ren_free _ rfl | exact ren_eptr (by first | exact unp_y rfl | exact unp_n rfl) | exact ren_sl (by first | exact unp_y rfl | exact unp_n rfl));done)))))));done))))))) (hpo:∀ k y y' x,x≠kx→hk (BS k y') x=hk (BS k y) x:=by (intro k y y' x hx;exact hk_first hx)) (hone:∀ y,(u y).oneCell'=true:=by (intro y;rfl)) (hpk:∀ k y,hk (BS k y) kx=some (.lit tb [.val (u y)]):=by (intro k y;rfl)) (hkx:(Nat.ble 1000 kx && (Nat.blt (pinN pins kx) 1000 && Nat.beq (unpN pins (pinN pins kx)) kx))=true:=by rfl) (hBX:autoParam (∀ y,RenBL (unpN pins) (BX y) (BXS y)) aq8._auto_1) (hEZ:∀ k,ZipL ps (X k) env1 (EZ k):=by (intro k;(repeat (first | exact ZipL.nil | apply ZipL.cons)))) (hER:autoParam (∀ k,RenEL (pinN pins) (EZ k) (ER k)) aq5._auto_1)
  (hg:autoParam (Op1 env1 g (.clo f [c0,.eptr kx 0 0 0])) aq1._auto_1) (h0:Sub (lk env) (hk box) (lk env1) (hk (BS 0 y0)):=by exact sub)
  (hex:∀ y,ok y→ex y = .ret∨∃ id,ex y = .exit id:=by (intro y _;first | exact .inl rfl | exact .inr ⟨_,rfl⟩ | exact y.elim)) (hno:c0.free (fun _=>false)=true:=by rfl) (hps:(ps.all fun t=>Nat.blt t (fsz N))=true:=by rfl) (hnd:ps.Nodup:=by decide) (hlen:∀ k,(X k).length=ps.length:=by (intro k;rfl))
  (h1:∀ k y,((B k y).all fun x=>Nat.beq (pinN pins (unpN pins x.1)) x.1)=true:=by (intro k y;kernel_rfl)) (h2:∀ y,((BX y).all fun x=>Nat.beq (pinN pins (unpN pins x.1)) x.1)=true:=by (intro k;kernel_rfl)) (h3:∀ k y,RenBL (pinN pins) (BS k y) (B k y):=by (intro k y;(repeat (first | exact RenBL.nil | (apply RenBL.cons;(focus ((first | exact pin_y rfl | exact pin_n rfl);done));(focus ((first | exact renb_free rfl | exact renb_lit (by (repeat (first | exact RenLL.nil | (apply RenLL.cons;(focus ((first | exact D.ren_free _ rfl | exact ren_eptr (by first | exact pin_y rfl | exact pin_n rfl) | exact ren_sl (by first | exact pin_y rfl | exact pin_n rfl));done)))))));done))))))) (h4:(pins.all fun k=>Nat.ble 1000 k)=true:=by rfl)
  (hfr:envFree (fun k=>Nat.blt (pinN pins k) 1000 && Nat.beq (unpN pins (pinN pins k)) k) env1=true:=by kernel_rfl):AWp none P N (.rangeFunc g ps.toArray assign body) (lk env) (hk box) Q:=by
 have hB:∀ k y x,x∈B k y→pinN pins (unpN pins x.1)=x.1:=fun k y x hx=>by simpa using List.all_eq_true.1 (h1 k y) x hx
 simp only [Bool.and_eq_true] at hkx
 have hB':∀ y x,x∈BX y→pinN pins (unpN pins x.1)=x.1:=fun k x hx=>by simpa using List.all_eq_true.1 (h2 k) x hx
 refine awp_sub h0 ?_
 rw [← (hBS 0 y0).eq]
 refine awp_rangeM (r:=pinN pins) (s:=unpN pins) y0 kx hit hg.opd hcv hno hone B BX ok ex F hF0 hex hps hnd (fun x hx=>?_) ⟨fun k hk=>pin_low h4 k hk,fun x hx=>?_⟩ hB hB' (fun k y=>by rw [(hBS k y).eq,(h3 k y).eq]) ⟨Nat.le_of_ble_eq_true hkx.1,by simpa using hkx.2.1,Nat.eq_of_beq_eq_true hkx.2.2⟩ (fun k y=>by rw [(hBS k y).eq];exact hpk k y) (fun k y y' x hx=>by rw [(hBS k y).eq,(hBS k y').eq];exact hpo k y y' x hx) hfr (Sub.refl _ _) (fun k y x l hFk hx=>?_) (fun y=>by rw [hn,(hBS n y).eq];exact hdone y) (fun y hy=>by rw [(hBX y).eq];exact hstop y hy)
 ·obtain ⟨k,hk,rfl⟩:=List.getElem_of_mem hx
  have:=hX k (by omega)
  rw [List.getElem?_eq_getElem hk] at this
  rw [Option.some.inj this]
  simpa using hlen k
 ·obtain ⟨y,y1,y2⟩:=renB_mem hx
  rw [y2,hB 0 y0 y y1]
 ·have hk:k<n:=by rw [← hn];exact (List.getElem?_eq_some_iff.1 hx).1
  rw [hX k hk] at hx
  cases hx
  have:=hround k y l hk hFk
  rw [← (hER k).eq,← (hEZ k).eq] at this
  simpa using this
end
section
variable {ro:Option Nat} {P:Program} {N:Nat} {Q:Post} {ops:Array Oper} {rest:List Oper} {env:List (Nat × D)} {box:List (Nat × Option Box)} {done:List Rec} {K:List Rec→List (Nat × D)→List (Nat × Option Box)→Prop} {d:Nat} {ty:TypeId} {pos:String} {aft:Array Edge}
theorem r_callL {x:Operand} {xs:List Operand} {ts:Array TypeId} {f:FuncId} {fn:Func} {ds ads caps:List D} {r r' d0:D} {k0:Nat} {tp:TypeId} {l:List D} [hf:FI P f fn] [hod:OldDL ds] (hden:DenH P f ds [] r [] [(k0,(.lit tp l))]) (hr:r.ren (fun _=>1000+d)=r') (hl:D.ren.renL (fun _=>1000+d) l=l) (h:RunK P N ops rest ((d,r')::env) ((1000+d,some (.lit tp l))::box) (done++[⟨nsOf box (ads++caps),some d,r',[(1000+d,some (.lit tp l))],[1000+d]⟩]) K) (hx:autoParam (Op1 env x d0) aq1._auto_1) (hcl:autoParam ((d0 = .val (.func (.func f) #[] #[])∧caps=[])∨d0 = .clo f caps) aq12._auto_1) (ha:autoParam (Op1L env xs ads) aq3._auto_1) (hv:autoParam (ArgVL false [] (nsOf box (ads++caps)) [] (fun _=>1000+d) (hk box) (ads++caps) ds) aq0._auto_1) (hd:Nat.blt d (fsz N)=true:=by rfl):RunK P N ops (⟨some d,.call { callee:=.value x,args:=xs.toArray,argTypes:=ts },ty,pos,aft,none⟩::rest) env box done K:=
 run_put (ws:=[(1000+d,some (.lit tp l))]) (fresh:=[1000+d]) (by have:=loc_call (lend:=false) (ρ:=fun _=>1000+d) (P:=P) (N:=N) (o:=⟨some d,.call { callee:=.value x,args:=xs.toArray,argTypes:=ts },ty,pos,aft,none⟩) rfl hd hx.opd hcl ha.opd hden hv (fun k B hm=>by cases hm) (fun k hk=>by cases hk) rfl rfl (fun h=>by cases h);rw [hr] at this;simp only [outL,List.nil_append,Box.ren,hl] at this;exact this) rfl h
end
end Go.Proofs.YtdcenblblimkfaaGreat
