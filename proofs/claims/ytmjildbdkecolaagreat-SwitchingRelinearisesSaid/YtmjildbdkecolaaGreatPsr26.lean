/- A range over a function, by data. No walk. -/
import Derived.Test.YtmjildbdkecolaaGreatPsr25
set_option linter.unusedSimpArgs false
set_option linter.unusedVariables false
set_option linter.unnecessarySimpa false
namespace Go.Proofs.YtmjildbdkecolaaGreat
open Go.RowKit

abbrev Gst := Nat → (Nat → Prop) → (Nat → Prop) → World → Prop
/-- What an iterator's caller lives by: rounds over; the blocks that its rounds may turn; what is frozen. -/
structure JOk (n0 : Nat) (J : Gst) : Prop where
 stable : ∀ {k C Z W W'}, J k C Z W → W'.os = W.os ∧ W'.tape = W.tape ∧ W'.output = W.output ∧ W.heap.size ≤ W'.heap.size → (∀ b, b < W.heap.size → C b ∨ Z b ∨ b < n0 → W'.heap[b]? = W.heap[b]?) → J k C Z W'
 lt : ∀ {k C Z W}, J k C Z W → (∀ b, C b → b < W.heap.size ∧ ¬ Z b) ∧ ∀ b, Z b → b < W.heap.size
/-- WHAT AN ITERATOR YIELDS, one after the other. -/
def ItrD (P : Program) (f : FuncId) (caps : List D) (xs : List (List D)) : Prop :=
 ∀ (l : Nat) (C0 Z0 : Nat → Prop) (W0 : World) (vs : List Value) (J Jx : Gst), JOk W0.heap.size J → JOk W0.heap.size Jx → J 0 C0 Z0 W0 → RepsI (fun o b => o = true ∧ Z0 b) W0 noN vs caps →
  (∀ k C Z W x us Zx, xs[k]? = some x → J k C Z W → (∀ b, Zx b → W0.heap.size ≤ b ∧ b < W.heap.size ∧ ¬ C b) → RepsI (Z2 Z Zx) W noN us x → W0.heap.size ≤ W.heap.size →
   YieldAt (Fw none) 0 P l us.toArray W fun e W' => (e = .returned (.bool true) ∧ ∃ C' Z', J (k + 1) C' Z' W' ∧ Kept C W W' ∧ (∀ b, C' b → C b ∨ W.heap.size ≤ b) ∧ (∀ b, Z b ∨ Zx b → Z' b)) ∨ (e = .returned (.bool false) ∧ ∃ k' C' Z', Jx k' C' Z' W')) →
  CallsIn (Fw none) 0 P f (#[.func (.yield l) #[] #[]] ++ vs.toArray) W0 fun e W' => (∃ v, e = .returned v) ∧ ((∃ C Z, J xs.length C Z W') ∨ ∃ k C Z, Jx k C Z W')
def zipE : List Nat → List D → List (Nat × D)
 | t :: ts, d :: ds => (t, d) :: zipE ts ds
 | _, _ => []
theorem zip_put {Z : Zn} {w : World} {i : Nm} : ∀ (ps : List Nat) (us : List Value) (x : List D) (tm : Array Value) (E : List (Nat × D)), us.length = ps.length → x.length = ps.length → (∀ t, t ∈ ps → t < tm.size) → ps.Nodup → (∀ j, j < x.length → Rep Z w i (us.getD j undef) (dl x j)) → (∀ t, Rep Z w i (tm.getD t undef) (lk E t)) →
  ∀ t, Rep Z w i (((ps.zip us).foldl (fun a p => a.setIfInBounds p.1 p.2) tm).getD t undef) (lk (zipE ps x ++ E) t)
 | [], us, x, tm, E, _, _, _, _, _, hE => fun t => by cases x <;> simpa [zipE] using hE t
 | p :: ps, [], x, tm, E, h, _, _, _, _, _ => by cases h
 | p :: ps, u :: us, [], tm, E, _, h, _, _, _, _ => by cases h
 | p :: ps, u :: us, d :: x, tm, E, h1, h2, h3, h4, h5, hE => fun t => by
  have hp : p < tm.size := h3 p (by simp)
  have hd := h5 0 (by simp)
  have ih := zip_put (Z := Z) (w := w) (i := i) ps us x (tm.setIfInBounds p u) ((p, d) :: E) (by simpa using h1) (by simpa using h2) (fun t ht => by simp; exact h3 t (by simp [ht])) (List.nodup_cons.1 h4).2 (fun j hj => h5 (j + 1) (by simpa using hj)) (fun t => by
   rw [getD_put hp]
   simp only [lk]
   by_cases q : p = t
   ·subst q; simp; exact hd
   ·rw [if_neg q, beq_ne q]; exact hE t) t
  simp only [List.zip_cons_cons, List.foldl_cons]
  have hsw : ∀ (ps : List Nat) (x : List D) (t : Nat), p ∉ ps → lk (zipE ps x ++ (p, d) :: E) t = lk ((p, d) :: (zipE ps x ++ E)) t := by
   intro ps
   induction ps with
   | nil => intro x t _; cases x <;> rfl
   | cons q ps ih2 =>
    intro x t hq
    cases x with
    | nil => rfl
    | cons d' x =>
     simp only [zipE, List.cons_append, lk]
     rw [ih2 x t (fun h => hq (by simp [h]))]
     simp only [lk]
     by_cases q1 : q = t
     ·subst q1
      have : p ≠ q := fun e => hq (by simp [e])
      rw [beq_ne this]
     ·rw [beq_ne q1]
  rw [hsw ps x t (List.nodup_cons.1 h4).1] at ih
  exact ih
theorem foldl_size : ∀ (l : List (Nat × Value)) (tm : Array Value), (l.foldl (fun a p => a.setIfInBounds p.1 p.2) tm).size = tm.size
 | [], _ => rfl
 | p :: l, tm => by simp only [List.foldl_cons]; rw [foldl_size l]; simp
section
variable {P : Program} {N : Nat} {Q : Post} {env : List (Nat × D)} {box : List (Nat × Option Box)} {r s : Nat → Nat}
theorem mutsOf_bk {S : Cx} {E : Nat → D} {H : Nat → Option Box} {Z : Zn} {i : Nm} {a : Act} {w : World} (h : Fits S E H Z i a w) {b : Nat} (hm : mutsOf H i b) : b < w.heap.size ∧ ¬ Z true b ∧ (S.w1.heap.size ≤ b ∨ S.M1 b) ∧ ∃ t cs, Bk w b t cs := by
 obtain ⟨k, B, g1, g2, g3⟩ := hm
 have f := h.foot k B b g1 g2 g3
 refine ⟨f.1, f.2.2.1, f.2.2.2, ?_⟩
 rcases h.box k B g1 with ⟨b', c', e1, _, e3, _, e5⟩ | ⟨e1, _⟩
 ·exact e5.footBk (fun e => by subst e; cases g2) (e1 ▸ g3)
 ·obtain ⟨_, _, e, _⟩ := g3
  rw [e1] at e; cases e
theorem wpIn_code {c : Code} {K : Exit → Act → World → Prop} {a : Act} {w : World} (hc : c = .ret ∨ ∃ id, c = .exit id) (h : K (exitOf c) a w) : c.wpIn (Fw none) 0 P K a w := by
 rcases hc with rfl | ⟨id, rfl⟩
 ·exact wpIn_ret h
 ·exact wpIn_exit h
theorem muts_back {bx : List (Nat × Option Box)} (h : ∀ x, x ∈ bx → r (s x.1) = x.1) {i3 : Nm} {b : Nat} (hm : mutsOf (hk (renB s bx)) (nmR s r i3) b) : mutsOf (hk bx) i3 b := by
 obtain ⟨k, B, g1, g2, g3⟩ := hm
 rw [renB_at (r := s) (s := r) bx h] at g1
 by_cases q : s (r k) = k
 ·rw [if_pos q] at g1
  cases e : hk bx (r k) with
  | none => rw [e] at g1; cases g1
  | some B0 =>
   rw [e] at g1; cases g1
   rw [Box.ren_mut] at g2
   unfold nmR at g3
   rw [if_pos q] at g3
   exact ⟨_, B0, e, g2, g3.unren⟩
 ·rw [if_neg q] at g1; cases g1
theorem renB_mem {bx : List (Nat × Option Box)} : ∀ {x : Nat × Option Box}, x ∈ renB s bx → ∃ y, y ∈ bx ∧ x.1 = s y.1 := by
 induction bx with
 | nil => intro x h; cases h
 | cons y l ih =>
  intro x h
  simp only [renB, List.mem_cons] at h
  rcases h with rfl | h
  ·exact ⟨y, by simp, rfl⟩
  ·obtain ⟨z, z1, z2⟩ := ih h
   exact ⟨z, by simp [z1], z2⟩
theorem mark_inj {ms ms' : List Nat} {df : List Deferred} (h : ms.map mark ++ df = ms'.map mark ++ df) : ms = ms' := by
 have := List.append_cancel_right h
 exact List.map_inj_right (fun a b e => by simpa [mark] using e) |>.1 this
/-- The mark of a loop that is over. -/
theorem Fits.addmark {S : Cx} {E : Nat → D} {H : Nat → Option Box} {Z : Zn} {i : Nm} {a : Act} {w : World} (h : Fits S E H Z i a w) {b : Nat} (hb : w.heap[b]? = some (.deferred (some []))) (hz : ¬ Z true b) (h0 : S.w0.heap.size ≤ b) : Fits S E H (fun q x => Z q x ∨ x = b) i { a with defers := { target := .collected b, args := #[] } :: a.defers } w := by
 have h1 := h.more (Zx := fun x => x = b) (fun x e => by
  subst e
  refine ⟨h0, (Array.getElem?_eq_some_iff.1 hb).1, fun hm => ?_⟩
  obtain ⟨_, _, _, t, cs, q⟩ := mutsOf_bk h hm
  unfold Bk at q; rw [hb] at q; cases q)
 obtain ⟨ms, d1, d2, d3⟩ := h.defers
 exact { h1 with defers := ⟨b :: ms, by simp [d1, mark], List.nodup_cons.2 ⟨fun q => hz (h.zsub b (d3 b q).1), d2⟩, fun x hx => by
  rcases List.mem_cons.1 hx with rfl | hx
  ·exact ⟨.inr rfl, hb⟩
  ·exact ⟨.inl (d3 x hx).1, (d3 x hx).2⟩⟩ }
/-- A RANGE OVER A FUNCTION: B k: the boxes when k rounds are over, as the rounds name them; BX y: where a round leaves by ex y. -/
theorem awp_range {α : Type} {g : Operand} {ps : Array Tmp} {assign body : Code} {f : FuncId} {caps0 caps : List D} {xs : List (List D)} {fn : Func} [hf : FI P f fn] (hit : ItrD P f caps xs) (hg : Opd (lk env) g (.clo f caps0)) (hcv : Cvt (.clo f caps0) (.clo f caps)) [hod : OldDL caps] (hno : D.free.freeL (fun _ => false) caps0 = true)
  (B : Nat → List (Nat × Option Box)) (BX : α → List (Nat × Option Box)) (ok : α → Prop) (ex : α → Code) (F : Nat → Prop) (hF00 : F 0) (hex : ∀ y, ok y → ex y = .ret ∨ ∃ id, ex y = .exit id)
  (hps : (ps.toList.all fun t => Nat.blt t N) = true) (hnd : ps.toList.Nodup) (hlen : ∀ x, x ∈ xs → x.length = ps.size)
  (hr : Two r s box) (hB : ∀ k x, x ∈ B k → r (s x.1) = x.1) (hBX : ∀ y x, x ∈ BX y → r (s x.1) = x.1) (hBB : ∀ k, renB r (renB s (B k)) = B k)
  (hfr : envFree (fun k => Nat.blt (r k) 1000 && Nat.beq (s (r k)) k) env = true)
  (h0 : Sub (lk env) (hk box) (lk env) (hk (renB s (B 0))))
  (hround : ∀ k x l, F k → xs[k]? = some x → AWp (some l) P N assign (lk (renE r (zipE ps.toList x ++ env))) (hk (B k)) (AThen (fun E1 H1 => AWp (some l) P N body E1 H1 (RndP (F (k + 1)) (B (k + 1)) BX ok ex)) (fun _ _ _ => False)))
  (hdone : F xs.length → Q .normal (lk env) (hk (renB s (B xs.length)))) (hstop : ∀ y, ok y → Q (exitOf (ex y)) (lk env) (hk (renB s (BX y)))) : AWp none P N (.rangeFunc g ps assign body) (lk env) (hk box) Q := fun S a w hN hR => by
 obtain ⟨Z, i, hF⟩ := h0 S a w hR
 obtain ⟨lb, hgv, hlb⟩ : ∃ vs : List Value, a.eval g = .func (.func f) #[] vs.toArray ∧ RepsI (fun o b => o = true ∧ Z true b) w noN vs caps := by
  have h1 := hF.opd hg
  have h2 : Rep Z w noN (a.eval g) (.clo f caps0) := h1.nm (p := fun _ => false) (by simpa [D.free] using hno) (fun k x hk => by cases hk)
  have h3 := hcv.cv hF.zsub h2
  generalize a.eval g = v at h3 ⊢
  cases h3 with
  | clo _ _ vs _ hl hr => exact ⟨vs, rfl, hl, fun j hj => (hod.od j).od (fun b hb => ⟨rfl, hb⟩) (hr j hj)⟩
 refine wpIn_rangeFunc ?_
 intro fnid _
 obtain ⟨rec, hrec⟩ : ∃ rec : LoopState → Option Code → Loop, rec = fun st pe => { state := st, pending := pe, fn := fnid, tmps := a.tmps, params := ps, assign, body, defers := w.heap.size } := ⟨_, rfl⟩
 obtain ⟨W1, hW1⟩ : ∃ W1, (w.alloc (.deferred (some []))).alloc (.loop (rec .ready none)) = W1 := ⟨_, rfl⟩
 have hs1 : W1.heap.size = w.heap.size + 2 := by rw [← hW1]; simp
 have hold1 : ∀ b, b < w.heap.size → W1.heap[b]? = w.heap[b]? := fun b hb => by rw [← hW1]; exact (Below.heap_alloc _ _ _ (by simp; omega)).trans (Below.heap_alloc _ _ _ hb)
 have hL1 : W1.heap[w.heap.size + 1]? = some (.loop (rec .ready none)) := by
  rw [← hW1]; have := World.alloc_heap_new (w.alloc (.deferred (some []))) (.loop (rec .ready none)); rwa [World.size_alloc] at this
 have hK1 : W1.heap[w.heap.size]? = some (.deferred (some [])) := by
  rw [← hW1]; exact (Below.heap_alloc _ _ _ (by simp)).trans (World.alloc_heap_new w _)
 have hF1 : Fits S (lk env) (hk (renB s (B 0))) Z i a W1 := hF.grown (w' := W1) (by rw [← hW1]; exact ⟨rfl, rfl, rfl, by simp; omega⟩) hold1 (fun _ _ h => h) (fun b hb => .inl hb) (fun b hb => ⟨hF.zsub b hb, hF.zNew b hb⟩)
 have hw0 : S.w0.heap.size ≤ w.heap.size := hF.kept.size
 have hw1 : S.w1.heap.size ≤ w.heap.size := hF.kept1.size
 obtain ⟨D, hD⟩ : ∃ D, D = w.heap.size := ⟨_, rfl⟩
 obtain ⟨l, hl⟩ : ∃ l, l = w.heap.size + 1 := ⟨_, rfl⟩
 have hlz1 : ∀ q b, S.Z1 q b → b < w.heap.size := fun q b hb => by
  have := hF.zk1 q b hb
  exact (hF.zOld b (by cases q; exact hF.zsub b this; exact this)).1
 -- what holds between two rounds
 let St : Option Code → List (Nat × Option Box) → (Nat → Prop) → (Nat → Prop) → World → Prop := fun pe bx C Zc W => W.heap[l]? = some (.loop (rec (if pe.isNone then .ready else .done) pe)) ∧ W.heap[D]? = some (.deferred (some [])) ∧ ∃ Zn i, Fits S (lk env) (hk bx) Zn i a W ∧ ¬ Zn true l ∧ ¬ Zn true D ∧ (∀ b, C b ↔ mutsOf (hk bx) i b ∨ b = l ∨ b = D) ∧ ∀ b, Zc b ↔ Zn true b
 have stOk : ∀ {pe bx C Zc W}, St pe bx C Zc W → (∀ b, C b → b < W.heap.size ∧ ¬ Zc b) ∧ ∀ b, Zc b → b < W.heap.size := fun {pe bx C Zc W} ⟨h1, h2, Zn, i, h3, h4, h5, h6, h7⟩ => by
  refine ⟨fun b hb => ?_, fun b hb => (h3.zOld b ((h7 b).1 hb)).1⟩
  rw [h7]
  rcases (h6 b).1 hb with q | rfl | rfl
  ·exact ⟨(mutsOf_bk h3 q).1, (mutsOf_bk h3 q).2.1⟩
  ·exact ⟨(Array.getElem?_eq_some_iff.1 h1).1, h4⟩
  ·exact ⟨(Array.getElem?_eq_some_iff.1 h2).1, h5⟩
 have stSt : ∀ {pe bx C Zc W W'}, St pe bx C Zc W → W'.os = W.os ∧ W'.tape = W.tape ∧ W'.output = W.output ∧ W.heap.size ≤ W'.heap.size → (∀ b, b < W.heap.size → C b ∨ Zc b ∨ b < W1.heap.size → W'.heap[b]? = W.heap[b]?) → St pe bx C Zc W' := fun {pe bx C Zc W W'} ⟨h1, h2, Zn, i, h3, h4, h5, h6, h7⟩ hos hk' =>
  ⟨(hk' l (Array.getElem?_eq_some_iff.1 h1).1 (.inl ((h6 l).2 (.inr (.inl rfl))))).trans h1, (hk' D (Array.getElem?_eq_some_iff.1 h2).1 (.inl ((h6 D).2 (.inr (.inr rfl))))).trans h2, Zn, i,
   h3.apart (n0 := W1.heap.size) hos (fun b hb hc => hk' b hb (by rcases hc with q | q | q; exact .inl ((h6 b).2 (.inl q)); exact .inr (.inl ((h7 b).2 q)); exact .inr (.inr q))) (by omega) (by omega), h4, h5, h6, h7⟩
 refine ⟨l, [{ target := .collected D, args := #[] }], W1, { target := .fn (.func f) lb.toArray, args := #[.func (.yield l) #[] #[]] }, W1, f, #[.func (.yield l) #[] #[]] ++ lb.toArray, W1, ?_, ?_, fun _ _ => trivial, ?_, fun h => (by cases h), ?_⟩
 ·rw [← hW1, hrec, hD, hl]; exact run_enterLoop_outer _ _ _ _ _
 ·simp only [resolve, hgv]
  simp [go_sem]
 ·simp [invoke, go_sem, hf.enters]
 ·have hl0 : ¬ Z true l := fun hz => by have := (hF.zOld l hz).1; omega
  have hD0 : ¬ Z true D := fun hz => by have := (hF.zOld D hz).1; omega
  refine (hit l (fun b => mutsOf (hk (renB s (B 0))) i b ∨ b = l ∨ b = D) (Z true) W1 lb (fun k C Zc W => F k ∧ St none (renB s (B k)) C Zc W) (fun _ C Zc W => ∃ y, ok y ∧ St (some (ex y)) (renB s (BX y)) C Zc W) ⟨fun h a b => ⟨h.1, stSt h.2 a b⟩, fun h => stOk h.2⟩ ⟨fun ⟨y, hy, h⟩ a b => ⟨y, hy, stSt h a b⟩, fun ⟨y, _, h⟩ => stOk h⟩
   ⟨hF00, hl ▸ hL1, hD ▸ hK1, Z, i, hF1, hl0, hD0, fun _ => Iff.rfl, fun _ => Iff.rfl⟩ ⟨hlb.1, fun j hj => (hlb.2 j hj).mem (fun q b hb => ⟨hb, hold1 b (hF.zOld b hb.2).1⟩)⟩ ?_).mono ?_
  ·intro k C Zc W x us Zx hx ⟨hFk, g1, g2, Zn, i', g3, g4, g5, g6, g7⟩ hZx hus hsz
   replace g1 : W.heap[l]? = some (.loop (rec .ready none)) := g1
   have F1 := g3.more (Zx := Zx) (fun b hb => ⟨by have := (hZx b hb).1; omega, (hZx b hb).2.1, fun hm => (hZx b hb).2.2 ((g6 b).2 (.inl hm))⟩)
   have hxl := hlen x (List.mem_of_getElem? hx)
   have hul : us.length = ps.toList.length := by rw [hus.1, hxl]; simp
   have hlt : l < W.heap.size := (Array.getElem?_eq_some_iff.1 g1).1
   have hDt : D < W.heap.size := (Array.getElem?_eq_some_iff.1 g2).1
   have hlD : l ≠ D := by omega
   have hzx : ∀ b, Zx b → b ≠ l ∧ b ≠ D := fun b hb => ⟨fun e => (hZx b hb).2.2 ((g6 b).2 (.inr (.inl e))), fun e => (hZx b hb).2.2 ((g6 b).2 (.inr (.inr e)))⟩
   have hnl : ∀ q, ¬ (Zn q l ∨ Zx l) := fun q hz => hz.elim (fun h => g4 (by cases q; exact g3.zsub l h; exact h)) (fun h => (hzx l h).1 rfl)
   have hnD : ∀ q, ¬ (Zn q D ∨ Zx D) := fun q hz => hz.elim (fun h => g5 (by cases q; exact g3.zsub D h; exact h)) (fun h => (hzx D h).2 rfl)
   have hnml : ¬ mutsOf (hk (renB s (B k))) i' l := fun hm => by obtain ⟨_, _, _, t, cs, q⟩ := mutsOf_bk F1 hm; unfold Bk at q; rw [g1] at q; cases q
   have hnmD : ¬ mutsOf (hk (renB s (B k))) i' D := fun hm => by obtain ⟨_, _, _, t, cs, q⟩ := mutsOf_bk F1 hm; unfold Bk at q; rw [g2] at q; cases q
   have hy := run_yield (P := P) (args := us.toArray) g1 (by rw [hrec]; simp; simpa using hul)
   obtain ⟨tm, htm⟩ : ∃ tm, ((rec .ready none).params.zip us.toArray).foldl (fun tmps (t, a) => tmps.setIfInBounds t a) (rec .ready none).tmps = tm := ⟨_, rfl⟩
   have htm2 : (ps.toList.zip us).foldl (fun a p => a.setIfInBounds p.1 p.2) a.tmps = tm := by
    rw [← htm, hrec, ← Array.foldl_toList]
    simp
   have htwo : Two r s (renB s (B k)) := ⟨hr.low, fun y hy => by
    obtain ⟨z, z1, z2⟩ := renB_mem hy
    rw [z2, hB k z z1]⟩
   have F2 := F1.round (a2 := { tmps := tm, defers := [] }) (E2 := lk (zipE ps.toList x ++ env)) htwo rfl (by show tm.size = _; rw [← htm2, foldl_size]; exact F1.size) (fun t => by
    show Rep _ _ _ (tm.getD t undef) _
    rw [← htm2]
    refine zip_put ps.toList us x a.tmps env hul (by simpa using hxl) (fun t ht => ?_) hnd (fun j hj => ?_) F1.env t
    ·have := List.all_eq_true.1 hps t ht
     rw [F1.size, hN]; simpa using this
    ·refine ((hus.2 j hj).mem (Z' := fun q b => Zn q b ∨ Zx b) (w' := W) (fun q b hb => ⟨?_, rfl⟩)).ext (fun k x e => by cases e)
     cases q
     ·exact .inr hb
     ·rcases hb with hb | hb
      ·exact .inl ((g7 b).1 hb)
      ·exact .inr hb)
   rw [hBB] at F2
   rw [show (fun t => (lk (zipE ps.toList x ++ env) t).ren r) = lk (renE r (zipE ps.toList x ++ env)) from funext fun t => (renE_at _ t).symm] at F2
   rw [htm] at hy
   refine ⟨fnid, tm, assign, body, by rw [hy, hrec], roundIn_of_wpIn (F := Fw none) trivial ?_⟩
   refine wpIn_mono (hround k x l hFk hx { S with df := [], i0 := nmR r s i', w1 := W, M1 := mutsOf (hk (renB s (B k))) i', Z1 := fun q b => Zn q b ∨ Zx b } _ _ hN ⟨_, _, F2⟩) (fun e a1 Wa ⟨E1, H1, q1, q2⟩ => ?_)
   cases e with
   | normal =>
    obtain ⟨Z1, i1, F3⟩ := q2
    have hla : Wa.heap[l]? = some (.loop (rec .ready none)) := (F3.kept1.block l hlt hnml).trans g1
    have hDa : Wa.heap[D]? = some (.deferred (some [])) := (F3.kept1.block D hDt hnmD).trans g2
    have hlta : l < Wa.heap.size := (Array.getElem?_eq_some_iff.1 hla).1
    refine ⟨_, run_beginRound hla (by rw [hrec]), ?_⟩
    obtain ⟨Wb, hWb⟩ : ∃ Wb, Wa.putObj l (.loop { rec .ready none with state := .busy }) = Wb := ⟨_, rfl⟩
    rw [hWb]
    have hlb2 : Wb.heap[l]? = some (.loop { rec .ready none with state := .busy }) := by rw [← hWb]; exact World.putObj_heap_same hlta
    have hob : ∀ b, b ≠ l → Wb.heap[b]? = Wa.heap[b]? := fun b hb => by rw [← hWb]; exact World.putObj_heap_other hb
    have hsb : Wb.heap.size = Wa.heap.size := by rw [← hWb]; simp
    have F3' : Fits { S with df := [], i0 := nmR r s i', w1 := Wa, M1 := fun b => mutsOf H1 i1 b ∨ b = l, Z1 := fun q b => Zn q b ∨ Zx b } E1 H1 Z1 i1 a1 Wa :=
     { F3 with kept1 := Kept.refl _ _, zk1 := F3.zk1, box := fun k B hB => (F3.box k B hB).imp (fun ⟨b, c, e1, e2, e3, e4, e5⟩ => ⟨b, c, e1, e2, fun hm => ⟨(e3 hm).1, .inr (.inl ⟨k, B, hB, hm, .root e1⟩)⟩, e4, e5⟩) id, foot := fun k B b hB hm hf => (fun f => ⟨f.1, f.2.1, f.2.2.1, .inr (.inl ⟨k, B, hB, hm, hf⟩)⟩) (F3.foot k B b hB hm hf) }
    have F4 := F3'.other (l := l) (w' := Wb) hla (fun _ _ _ h => by cases h) (by rw [← hWb]; exact ⟨rfl, rfl, rfl, by simp⟩) hob (by show S.w0.heap.size ≤ l; omega) (.inr (.inr rfl)) hnl (fun ms _ h hm => by have := (h l hm).2; rw [hla] at this; cases this)
    have F5 := F4.now
    refine wpIn_mono (q1 { S with df := [], i0 := nmR r s i', w1 := Wb, M1 := mutsOf H1 i1, Z1 := fun q b => Z1 q b ∧ b ≠ l } _ _ hN ⟨_, _, F5⟩) (fun e a3 W3 ⟨E3, H3, p1, p2⟩ => ?_)
    have hM3 : ∀ b, mutsOf H1 i1 b → W.heap.size ≤ b ∨ mutsOf (hk (renB s (B k))) i' b := fun b hb => (mutsOf_bk F3 hb).2.2.1
    have fin : ∀ (jump : Option Code) (bx : List (Nat × Option Box)), Sub E3 H3 (lk []) (hk bx) → (∀ x, x ∈ bx → r (s x.1) = x.1) → ∃ W4, (Instr.endRound l jump).run P W3 = .ok (.bool jump.isNone) W4 ∧ ∃ C' Z'', St jump (renB s bx) C' Z'' W4 ∧ Kept C W W4 ∧ (∀ b, C' b → C b ∨ W.heap.size ≤ b) ∧ (∀ b, Zc b ∨ Zx b → Z'' b) := fun jump bx hsub hbx => by
     obtain ⟨Z3, i3, F6⟩ := hsub _ _ _ p2
     have hnl3 : ∀ b, (b = l ∨ b = D) → ¬ mutsOf H1 i1 b := fun b hb hm => by
      obtain ⟨_, _, _, t, cs, q⟩ := mutsOf_bk F5 hm
      unfold Bk at q
      rcases hb with rfl | rfl
      ·rw [hlb2] at q; cases q
      ·rw [hob _ (Ne.symm hlD), hDa] at q; cases q
     have hl3 : W3.heap[l]? = some (.loop { rec .ready none with state := .busy }) := (F6.kept1.block l (by show l < Wb.heap.size; omega) (hnl3 l (.inl rfl))).trans hlb2
     have hD3 : W3.heap[D]? = some (.deferred (some [])) := (F6.kept1.block D (by show D < Wb.heap.size; have := (Array.getElem?_eq_some_iff.1 hDa).1; omega) (hnl3 D (.inr rfl))).trans ((hob D (Ne.symm hlD)).trans hDa)
     have hK : Kept (fun b => mutsOf (hk (renB s (B k))) i' b ∨ b = l) W W3 := by
      have ka := F3.kept1
      have kb := F6.kept1
      refine ⟨kb.os.trans (by rw [← hWb]; exact ka.os), kb.tape.trans (by rw [← hWb]; exact ka.tape), kb.output.trans (by rw [← hWb]; exact ka.output), Nat.le_trans (Nat.le_trans ka.size (Nat.le_of_eq hsb.symm)) kb.size, fun b hb hn => ?_⟩
      have hba : b < Wa.heap.size := Nat.lt_of_lt_of_le hb ka.size
      refine (kb.block b (by show b < Wb.heap.size; omega) (fun hm => ?_)).trans ((hob b (fun e => hn (.inr e))).trans (ka.block b hb (fun hm => hn (.inl hm))))
      rcases hM3 b hm with q | q
      ·omega
      ·exact hn (.inl q)
     have hzz : ∀ q b, (Zn q b ∨ Zx b) → Z3 q b := fun q b hb => F6.zk1 q b ⟨F3.zk1 q b hb, fun e => hnl q (e ▸ hb)⟩
     have F7 := F1.over htwo F6 rfl rfl rfl rfl hzz hK (fun b hb => hb.imp id (fun e => by subst e; exact ⟨by omega, hnl true⟩)) (by show S.w1.heap.size ≤ Wb.heap.size; have := F3.kept1.size; have : W.heap.size ≤ Wa.heap.size := this; omega) (fun b hb => by
      rcases hM3 b hb with q | q
      ·exact .inl (by have := F1.kept1.size; omega)
      ·exact (mutsOf_bk F1 q).2.2.1) hbx hfr
     obtain ⟨W4, hW4⟩ : ∃ W4, W3.putObj l (.loop (rec (if jump.isNone then .ready else .done) jump)) = W4 := ⟨_, rfl⟩
     have ho4 : ∀ b, b ≠ l → W4.heap[b]? = W3.heap[b]? := fun b hb => by rw [← hW4]; exact World.putObj_heap_other hb
     have hl4 : W4.heap[l]? = some (.loop (rec (if jump.isNone then .ready else .done) jump)) := by rw [← hW4]; exact World.putObj_heap_same (Array.getElem?_eq_some_iff.1 hl3).1
     have hD4 : W4.heap[D]? = some (.deferred (some [])) := (ho4 D (Ne.symm hlD)).trans hD3
     have hs4 : W4.os = W3.os ∧ W4.tape = W3.tape ∧ W4.output = W3.output ∧ W4.heap.size = W3.heap.size := by rw [← hW4]; exact ⟨rfl, rfl, rfl, by simp⟩
     have F8 := F7.other (l := l) (w' := W4) hl3 (fun _ _ _ h => by cases h) hs4 ho4 (by omega) (.inl (by omega)) (fun q hq => by have := hlz1 q l hq; omega) (fun ms _ h hm => by have := (h l hm).2; rw [hl3] at this; cases this)
     have F9 := F8.other (l := D) (w' := W4) hD4 (fun _ _ _ h => by cases h) ⟨rfl, rfl, rfl, rfl⟩ (fun _ _ => rfl) (by omega) (.inl (by omega)) (fun q hq => by have := hlz1 q D hq; omega) (fun ms he _ hm => by
      obtain ⟨ms', d1, d2, d3⟩ := F1.defers
      rw [d1] at he
      rw [← mark_inj he] at hm
      exact hnD _ (d3 D hm).1)
     refine ⟨W4, ?_, fun b => mutsOf (hk (renB s bx)) (nmR s r i3) b ∨ b = l ∨ b = D, fun b => (Z3 true b ∧ b ≠ l) ∧ b ≠ D, ⟨hl4, hD4, _, _, F9, fun h => h.1.2 rfl, fun h => h.2 rfl, fun _ => Iff.rfl, fun _ => Iff.rfl⟩, ⟨hs4.1.trans hK.os, hs4.2.1.trans hK.tape, hs4.2.2.1.trans hK.output, by rw [hs4.2.2.2]; exact hK.size, fun b hb hn => ?_⟩, fun b hb => ?_, fun b hb => ?_⟩
     ·have := run_endRound (P := P) jump hl3
      rw [this, ← hW4, hrec]
     ·refine (ho4 b (fun e => hn ((g6 b).2 (.inr (.inl e))))).trans (hK.block b hb (fun hm => hn ((g6 b).2 ?_)))
      rcases hm with q | q
      ·exact .inl q
      ·exact .inr (.inl q)
     ·rcases hb with q | q
      ·rcases (mutsOf_bk F6 (muts_back hbx q)).2.2.1 with q1 | q1
       ·exact .inr (by have h1 := F3.kept1.size; have h2 : W.heap.size ≤ Wa.heap.size := h1; have h3 : Wb.heap.size ≤ b := q1; omega)
       ·rcases hM3 b q1 with q2 | q2
        ·exact .inr q2
        ·exact .inl ((g6 b).2 (.inl q2))
      ·exact .inl ((g6 b).2 (.inr q))
     ·have hb2 : Zn true b ∨ Zx b := hb.imp (g7 b).1 id
      exact ⟨⟨hzz true b hb2, fun e => hnl true (e ▸ hb2)⟩, fun e => hnD true (e ▸ hb2)⟩
    have fin2 : ∀ e : Exit, (∃ y, ok y ∧ e = exitOf (ex y) ∧ Sub E3 H3 (lk []) (hk (BX y))) → e ≠ .normal → roundPost P l (fun e W' => (e = .returned (.bool true) ∧ ∃ C' Z', (F (k + 1) ∧ St none (renB s (B (k + 1))) C' Z' W') ∧ Kept C W W' ∧ (∀ b, C' b → C b ∨ W.heap.size ≤ b) ∧ (∀ b, Zc b ∨ Zx b → Z' b)) ∨ (e = .returned (.bool false) ∧ ∃ k' C' Z', ∃ y, ok y ∧ St (some (ex y)) (renB s (BX y)) C' Z' W')) e a3 W3 := fun e ⟨y, hy, he, hsub⟩ hne => by
     obtain ⟨W4, f1, C', Z'', f2, _⟩ := fin (some (ex y)) (BX y) hsub (hBX y)
     subst he
     rcases hex y hy with h | ⟨id, h⟩ <;> rw [h] at f1 f2 ⊢
     ·exact ⟨_, _, f1, .inr ⟨rfl, 0, C', Z'', y, hy, by rw [h]; exact f2⟩⟩
     ·exact ⟨_, _, f1, .inr ⟨rfl, 0, C', Z'', y, hy, by rw [h]; exact f2⟩⟩
    cases e with
    | normal =>
     obtain ⟨W4, f1, C', Z'', f2, f3, f4, f5⟩ := fin none (B (k + 1)) p1.2 (hB (k + 1))
     exact ⟨_, _, f1, .inl ⟨rfl, C', Z'', ⟨p1.1, f2⟩, f3, f4, f5⟩⟩
    | ret => exact fin2 .ret p1 (by simp)
    | exit id => exact fin2 (.exit id) p1 (by simp)
    | goto t =>
     obtain ⟨y, hy, he, _⟩ := p1
     rcases hex y hy with h | ⟨id, h⟩ <;> rw [h] at he <;> cases he
    | panic c =>
     obtain ⟨y, hy, he, _⟩ := p1
     rcases hex y hy with h | ⟨id, h⟩ <;> rw [h] at he <;> cases he
    | outgrown =>
     obtain ⟨y, hy, he, _⟩ := p1
     rcases hex y hy with h | ⟨id, h⟩ <;> rw [h] at he <;> cases he
   | _ => exact q1.elim
  ·have last : ∀ (pe : Option Code) (bx : List (Nat × Option Box)) (C Zc : Nat → Prop) (W : World), St pe bx C Zc W → ∃ W5, (Instr.endLoop l).run P W = .ok pe W5 ∧ RepS S (lk env) (hk bx) { a with defers := { target := .collected D, args := #[] } :: a.defers } W5 := fun pe bx C Zc W ⟨g1, g2, Zn, i', g3, g4, g5, g6, g7⟩ => by
    obtain ⟨W5, hW5⟩ : ∃ W5, W.putObj l (.loop { rec (if pe.isNone then .ready else .done) pe with state := .exhausted }) = W5 := ⟨_, rfl⟩
    have ho5 : ∀ b, b ≠ l → W5.heap[b]? = W.heap[b]? := fun b hb => by rw [← hW5]; exact World.putObj_heap_other hb
    refine ⟨W5, ?_, _, i', ((g3.other (l := l) (w' := W5) g1 (fun _ _ _ h => by cases h) (by rw [← hW5]; exact ⟨rfl, rfl, rfl, by simp⟩) ho5 (by omega) (.inl (by omega)) (fun q hq => by have := hlz1 q l hq; omega) (fun ms _ h hm => by have := (h l hm).2; rw [g1] at this; cases this)).addmark (b := D) ((ho5 D (by omega)).trans g2) (fun h => g5 h.1) (by omega))⟩
    have := run_endLoop (P := P) g1 (by rw [hrec]; cases pe <;> simp)
    rw [this, ← hW5, hrec]
   rintro e W2 ⟨⟨v, rfl⟩, (⟨C, Zc, hst⟩ | ⟨k, C, Zc, y, hy, hst⟩)⟩
   ·obtain ⟨W5, e1, e2⟩ := last _ _ _ _ _ hst.2
    exact ⟨none, W5, e1, _, _, hdone hst.1, e2⟩
   ·obtain ⟨W5, e1, e2⟩ := last _ _ _ _ _ hst
    exact ⟨some (ex y), W5, e1, wpIn_code (hex y hy) ⟨_, _, hstop y hy, e2⟩⟩
end
end Go.Proofs.YtmjildbdkecolaaGreat
