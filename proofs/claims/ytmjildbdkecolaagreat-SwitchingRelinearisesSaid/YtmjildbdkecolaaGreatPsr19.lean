/- From a body to a contract; a call by contract; what may be forgotten, frozen, said otherwise. No walk.
A call by contract; what may be forgotten, frozen, said otherwise. No walk. -/
import Derived.Test.YtmjildbdkecolaaGreatPsr18
set_option linter.unusedSimpArgs false
set_option linter.unusedVariables false
set_option linter.unnecessarySimpa false
namespace Go.Proofs.YtmjildbdkecolaaGreat
open Go.RowKit

section
variable {ro : Option Nat} {P : Program} {N : Nat} {E E' : Nat → D} {H H' : Nat → Option Box} {Q : Post} {S : Cx} {Z : Zn} {i : Nm} {a : Act} {w : World}
/-! ### Results -/
def ResD (P : Program) (E : Nat → D) (H : Nat → Option Box) (rv : ResultVar) (d : D) : Prop :=
 match rv with
 | .tmp t => E t = d
 | .cell t ty => ∃ k m e c n ag t' ds, E t = .eptr k m e c ∧ e * m = 0 ∧ H k = some (.lit t' ds) ∧ LoadIs P ty n ag ∧ Nat.ble (c + n) ds.length = true ∧ d = ldD ag (takeL n (dropL c ds))
def rvS (a : Act) (rv : ResultVar) : Sem Value := match rv with | .tmp t => pure (a.tmps.getD t undef) | .cell t ty => do loadVar ty (← asAddr (a.tmps.getD t undef))
theorem ResD.run {rv : ResultVar} {d : D} (h : ResD P E H rv d) (hF : Fits S E H Z i a w) : ∃ v, (rvS a rv).run P w = .ok v w ∧ Rep Z w i v d := by
 cases rv with
 | tmp t => obtain rfl := h; exact ⟨_, rfl, hF.env t⟩
 | cell t ty =>
  obtain ⟨k, m, e, c, n, ag, t', ds, h1, he, hk, hL, hc, rfl⟩ := h
  replace hc := Nat.le_of_ble_eq_true hc
  have hv := h1 ▸ hF.env t
  generalize hq : a.tmps.getD t undef = v at hv
  cases hv with | @eptr _ b cp _ _ _ _ hib =>
  rcases hF.box k _ hk with ⟨b', _, e1, _, _, _, cs, hB, hs, hall⟩ | ⟨q, _⟩
  ·rw [hib] at e1; cases e1
   have hl := hL.2 ⟨b, e * m + c, none⟩ (fun j => cs.getD (c + j) undef) w (fun j hj => by
    rw [addr_add, he, Nat.zero_add]; exact hB.cell _ (by omega))
   refine ⟨_, ?_, ldD_rep hL.1 (len_seg hc) (fun j hj => by rw [dl_seg hj]; exact hall (c + j) (by omega))⟩
   simp only [rvS, hq]
   simp only [asAddr, pure_bind]
   exact hl
  ·rw [hib] at q; cases q
def ResL (P : Program) (E : Nat → D) (H : Nat → Option Box) : List ResultVar → List D → Prop
 | [], [] => True
 | x :: xs, d :: ds => ResD P E H x d ∧ ResL P E H xs ds
 | _, _ => False
theorem ResL.run (hF : Fits S E H Z i a w) : ∀ {rvs : List ResultVar} {ds : List D}, ResL P E H rvs ds → ∃ vs : List Value, (rvs.mapM (rvS a)).run P w = .ok vs w ∧ vs.length = ds.length ∧ ∀ j, j < ds.length → Rep Z w i (vs.getD j undef) (dl ds j)
 | [], [], _ => ⟨[], rfl, rfl, fun j hj => by simp at hj⟩
 | x :: xs, d :: ds, h => by
  obtain ⟨v, h1, h2⟩ := h.1.run hF
  obtain ⟨vs, h3, h4, h5⟩ := ResL.run hF h.2
  refine ⟨v :: vs, ?_, by simp [h4], fun j hj => ?_⟩
  ·rw [List.mapM_cons]
   simp [h1, h3, Result.andThen]
  ·cases j with
   | zero => exact h2
   | succ j => exact h5 j (by simpa using hj)
 | [], _ :: _, h => h.elim
 | _ :: _, [], h => h.elim
def resD : List D → D
 | [d] => d
 | ds => .tup ds
theorem results_run {fn : Func} {ds : List D} (h : ResL P E H fn.results.toList ds) (hF : Fits S E H Z i a w) : ∃ v, (results fn a.tmps).run P w = .ok v w ∧ Rep Z w i v (resD ds) := by
 obtain ⟨vs, h1, h2, h3⟩ := ResL.run hF h
 have e : (results fn a.tmps) = (do let vs ← fn.results.mapM (rvS a); pure (if h : vs.size = 1 then vs[0] else .tuple vs) : Sem Value) := rfl
 have hm : (fn.results.mapM (rvS a)).run P w = .ok vs.toArray w := by
  rw [Array.mapM_eq_mapM_toList]
  simp [h1, Result.andThen]
 refine ⟨if h : vs.toArray.size = 1 then vs.toArray[0] else .tuple vs.toArray, ?_, ?_⟩
 ·rw [e, Sem.run_bind, hm]
  rfl
 ·match ds, vs, h2, h3 with
  | [d], [v], _, h3 => exact h3 0 (by simp)
  | [], [], _, _ => exact .tup _ [] [] rfl (fun j hj => by simp at hj)
  | d :: d' :: ds, v :: v' :: vs, h2, h3 =>
   have h4 : ¬ (v :: v' :: vs).toArray.size = 1 := by simp
   rw [dif_neg h4]
   exact .tup i _ _ h2 h3
def initE : Nat → List D → List (Nat × D)
 | _, [] => []
 | k, d :: l => (k, d) :: initE (k + 1) l
theorem initE_at : ∀ (ds : List D) (k t : Nat), lk (initE k ds) t = if k ≤ t ∧ t < k + ds.length then dl ds (t - k) else .any
 | [], k, t => by rw [if_neg (fun h => by simp at h; omega)]; rfl
 | d :: ds, k, t => by
  simp only [initE, lk]
  by_cases q : k = t
  ·subst q
   rw [if_pos (by simp)]
   simp [dl]
  ·rw [beq_ne q]
   simp only
   rw [initE_at ds (k + 1) t]
   by_cases q2 : k ≤ t ∧ t < k + (d :: ds).length
   ·rw [if_pos q2, if_pos (by simp at q2; omega)]
    obtain ⟨m, hm⟩ : ∃ m, t - k = m + 1 := ⟨t - k - 1, by omega⟩
    rw [hm, show t - (k + 1) = m by omega]
    rfl
   ·rw [if_neg q2, if_neg (by simp at q2 ⊢; omega)]
theorem ArrAt.memC {Z Z' : Zn} {w w' : World} {b cap : Nat} {t : TypeId} {n m : Nat} {f : Nat → List D} (h : ArrAt Z w b cap t n m f) (hb : w'.heap[b]? = w.heap[b]?) (hZ : ∀ o b p u, Z o b → w.cell? ⟨b, p, none⟩ = some u → Z' o b ∧ w'.cell? ⟨b, p, none⟩ = some u) : ArrAt Z' w' b cap t n m f := by
 obtain ⟨cs, h1, h2, h3, h4, h5⟩ := h
 exact ⟨cs, hb.trans h1, h2, h3, h4, fun e c he hc => ⟨(h5 e c he hc).1, (h5 e c he hc).2.memC hZ⟩⟩
theorem BoxAt.memC {Z Z' : Zn} {w w' : World} {i : Nm} {b : Nat} {cap : Cp} {B : Box} (h : BoxAt Z w i b cap B) (hs : w.heap.size ≤ w'.heap.size) (hb : B ≠ .gone → ∀ x, Foot B (some (some (b, cap))) x → w'.heap[x]? = w.heap[x]?) (hZ : ∀ o b p u, Z o b → w.cell? ⟨b, p, none⟩ = some u → Z' o b ∧ w'.cell? ⟨b, p, none⟩ = some u) : BoxAt Z' w' i b cap B := by
 cases B with
 | lit t ds => obtain ⟨cs, h1, h2, h3⟩ := h; exact ⟨cs, (hb (by simp) b (.root rfl)).trans h1, h2, fun j hj => ⟨(h3 j hj).1, (h3 j hj).2.memC hZ⟩⟩
 | arr t n m f => exact ArrAt.memC h (hb (by simp) b (.root rfl)) hZ
 | mat t t2 nb n m2 n2 g => exact MatAt.map h (hb (by simp) b (.root rfl)) (fun e x c he hx hA => ArrAt.memC hA (hb (by simp) x ⟨b, cap, rfl, .inr ⟨e, c, he, hx⟩⟩) hZ)
 | ice t n m f => exact h.imp fun _ h => ArrAt.memC h (hb (by simp) b (.root rfl)) hZ
 | gone => exact Nat.lt_of_lt_of_le h hs
/-- A mark is taken away. -/
theorem Fits.unmark (h : Fits S E H Z i a w) {D : Nat} {ms : List Nat} (ha : a.defers = (D :: ms).map mark ++ S.df) (hms : ∀ b, b ∈ D :: ms → Z false b ∧ w.heap[b]? = some (.deferred (some []))) (hnd : (D :: ms).Nodup) (hD1 : S.w1.heap.size ≤ D) (hD2 : ∀ o, ¬ S.Z1 o D) :
  Fits S E H (fun o b => Z o b ∧ b ≠ D) i { a with defers := ms.map mark ++ S.df } (w.putObj D (.deferred none)) := by
 obtain ⟨hz, hD⟩ := hms D (by simp)
 have hoth : ∀ b, b ≠ D → (w.putObj D (.deferred none)).heap[b]? = w.heap[b]? := fun b hb => World.putObj_heap_other hb
 have hcl : ∀ {b : Nat} {t : TypeId} {cs : Array Value}, Bk w b t cs → b ≠ D := fun hB e => by subst e; unfold Bk at hB; rw [hD] at hB; cases hB
 have hm : ∀ o b p u, Z o b → w.cell? ⟨b, p, none⟩ = some u → (Z o b ∧ b ≠ D) ∧ (w.putObj D (.deferred none)).cell? ⟨b, p, none⟩ = some u := fun o b p u hz hu => by
  have : b ≠ D := fun e => by subst e; simp [World.cell?, hD] at hu
  exact ⟨⟨hz, this⟩, (World.cell?_of_block (w := w) (a := ⟨b, p, none⟩) (hoth b this)).trans hu⟩
 refine ⟨⟨ms, rfl, (List.nodup_cons.1 hnd).2, fun b hb => ?_⟩, h.size, ⟨h.kept.os, h.kept.tape, h.kept.output, by simp; exact h.kept.size, fun b hb hM => ?_⟩, ⟨h.kept1.os, h.kept1.tape, h.kept1.output, by simp; exact h.kept1.size, fun b hb hM => (hoth b (fun e => by omega)).trans (h.kept1.block b hb hM)⟩, fun o b hb => ⟨h.zk1 o b hb, fun e => hD2 o (e ▸ hb)⟩, fun b hb => ⟨h.zsub b hb.1, hb.2⟩, fun b hb => ⟨by simp; exact (h.zOld b hb.1).1, (h.zOld b hb.1).2⟩, fun b hb => h.zNew b hb.1, fun t => (h.env t).memC hm, fun k B hB => ?_, fun k B b hB hmu hf => (fun f => ⟨by simp; exact f.1, f.2.1, fun hz => f.2.2.1 hz.1, f.2.2.2⟩) (h.foot k B b hB hmu hf), h.nil, h.low, h.inj⟩
 ·have hne : b ≠ D := fun e => by subst e; exact (List.nodup_cons.1 hnd).1 hb
  exact ⟨⟨(hms b (by simp [hb])).1, hne⟩, (hoth b hne).trans (hms b (by simp [hb])).2⟩
 ·refine (hoth b (fun e => ?_)).trans (h.kept.block b hb hM)
  subst e
  have := h.zNew b hz
  omega
 ·rcases h.box k B hB with ⟨b, c, e1, e2, e3, e4, e5⟩ | q
  ·refine .inl ⟨b, c, e1, e2, fun hmu => ⟨fun hzz => (e3 hmu).1 hzz.1, (e3 hmu).2⟩, fun hic => ⟨e4 hic, ?_⟩, e5.memC (by simp) (fun hg => ?_) hm⟩
   ·cases B <;> simp [Box.isIce] at hic
    obtain ⟨_, cs, hB, _⟩ := e5
    exact hcl hB
   ·intro x hf
    obtain ⟨t, cs, q⟩ := e5.footBk hg hf
    exact hoth x (hcl q)
  ·exact .inr q
def hsH : Hs → List (Nat × Option Box)
 | [] => []
 | (k, B) :: l => (k, some B) :: hsH l
theorem hsH_mem : ∀ {hs : Hs} {k : Nat} {B : Box}, hk (hsH hs) k = some B → (k, B) ∈ hs
 | [], k, B, h => by cases h
 | (x, C) :: l, k, B, h => by
  simp only [hsH, hk] at h
  by_cases q : x = k
  ·subst q; simp at h; subst h; simp
  ·rw [beq_ne q] at h; exact List.mem_cons_of_mem _ (hsH_mem h)
theorem hsH_none : ∀ {hs : Hs} {k : Nat}, hk (hsH hs) k = none → k ∉ hs.keys
 | [], k, h => by simp [Hs.keys]
 | (x, C) :: l, k, h => by
  simp only [hsH, hk] at h
  by_cases q : x = k
  ·subst q; simp at h
  ·rw [beq_ne q] at h
   have := hsH_none h
   simp only [Hs.keys, List.map_cons, List.mem_cons, not_or] at this ⊢
   exact ⟨fun e => q e.symm, this⟩
/-- What is asked at a function's end. -/
def Fin (P : Program) (fn : Func) (r : D) (hs' rs : Hs) (E : Nat → D) (H : Nat → Option Box) : Prop :=
 ∃ ds, ResL P E H fn.results.toList ds ∧ (∀ S a w Z i v, Fits S E H Z i a w → Rep Z w i v (resD ds) → Rep Z w (fun k => if k ∈ (hs' ++ rs).map (·.1) then i k else none) v r) ∧ ∀ k B, (k, B) ∈ hs' ++ rs → H k = some B ∧ B.mut = true ∧ B.free (fun x => memB x ((hs' ++ rs).map (·.1))) = true
def Ended (P : Program) (fn : Func) (r : D) (hs' rs : Hs) : Post := fun e E H => match e with
 | .normal => ∃ E' H', Sub E H E' H' ∧ Fin P fn r hs' rs E' H'
 | .ret => ∃ E' H', Sub E H E' H' ∧ Fin P fn r hs' rs E' H'
 | _ => False
theorem noN_bx {Z : Zn} {w : World} {i : Nm} {b : Nat} {cap : Cp} {B : Box} (h : BoxAt Z w i b cap B) (hf : B.free (fun _ => false) = true) : BoxAt Z w noN b cap B := h.nm hf (fun k x hk => by cases hk)
theorem HsAt.key {Z : Zn} {w : World} {i : Nm} {hs : Hs} (h : HsAt Z w i hs) {k : Nat} (hk : k ∈ hs.keys) : ∃ B, (k, B) ∈ hs ∧ BoxHas Z w i k B := by
 obtain ⟨⟨k', B⟩, hm, rfl⟩ := List.mem_map.1 hk
 exact ⟨B, hm, h.1 _ _ hm⟩
/-- A FUNCTION'S CONTRACT FROM ITS BODY. -/
theorem den_intro {f : FuncId} {fn : Func} {c : Code} {ds : List D} {hs hs' rs : Hs} {r : D} [hf : FI P f fn] (hb : fn.body = some c) (hn : Nat.ble ds.length fn.ntmps = true) (hkeys : hs'.keys = hs.keys) (hlow : hs.keys.all (fun k => Nat.blt k 1000) = true) (hhigh : (rs.keys.all (fun k => Nat.ble 1000 k) && (hs ++ hs').all (fun x => Nat.beq x.2.nrows 0)) = true)
  (h : AWp none P fn.ntmps c (lk (initE 0 ds)) (hk (hsH hs)) (Ended P fn r hs' rs)) : DenH P f ds hs r hs' rs := fun Zc w i args hZ hi hH ha => by
 replace hn := Nat.le_of_ble_eq_true hn
 have hl : args.length = ds.length := ha.1
 have hiff : ∀ k, k ∈ hs.keys → k < 1000 := fun k hk => by simpa using List.all_eq_true.1 hlow k hk
 rw [Bool.and_eq_true] at hhigh
 have hrs : ∀ k, k ∈ rs.keys → 1000 ≤ k := fun k hk => by simpa using List.all_eq_true.1 hhigh.1 k hk
 have hflat : ∀ k B, (k, B) ∈ hs ++ hs' → B.nrows = 0 := fun k B hm => by simpa using List.all_eq_true.1 hhigh.2 (k, B) hm
 let Z : Zn := fun o b => o = true ∧ Zc b
 let S : Cx := ⟨w, Zc, fun b => ∃ k c, k ∈ hs.keys ∧ i k = some (some (b, c)), fn.ntmps, [], i, w, fun b => ∃ k c, k ∈ hs.keys ∧ i k = some (some (b, c)), Z⟩
 refine callsIn_wide.1 (callsIn_of_wp_marks (n := 0) hf.func hb trivial ?_)
 have hF : Fits S (lk (initE 0 ds)) (hk (hsH hs)) Z i { tmps := args.toArray ++ Array.replicate (fn.ntmps - args.toArray.size) undef, defers := [] } w := by
  refine ⟨⟨[], rfl, List.nodup_nil, fun b hb => by cases hb⟩, by simp [S]; omega, Kept.refl _ _, Kept.refl _ _, fun _ _ h => h, fun b hb => (nomatch hb.1), fun b hb => ⟨hZ b hb.2, fun _ => hb.2⟩, fun b hb => (nomatch hb.1), fun t => ?_, fun k B hB => ?_, fun k B b hB hm hf => ?_, fun k hk => hi k (hsH_none hk), fun k _ => rfl, fun k k' B B' b h1 h2 _ _ f1 f2 => hH.2 k k' B B' b (hsH_mem h1) (hsH_mem h2) f1 f2⟩
  ·rw [initE_at]
   by_cases q : 0 ≤ t ∧ t < 0 + ds.length
   ·rw [if_pos q, Nat.sub_zero]
    have := ha.2 t (by omega)
    have e : (args.toArray ++ Array.replicate (fn.ntmps - args.toArray.size) undef).getD t undef = args.getD t undef := by
     rw [Array.getD_eq_getD_getElem?, List.getD_eq_getElem?_getD, Array.getElem?_append_left (by simp; omega), List.getElem?_toArray]
    rw [e]; exact this
   ·rw [if_neg q]; exact .any _ _
  ·have hm := hsH_mem hB
   have hkk : k ∈ hs.keys := List.mem_map.2 ⟨_, hm, rfl⟩
   obtain ⟨m1, ⟨b, cap, e1, e2, e3⟩ | ⟨e1, e2⟩⟩ := hH.1 k B hm
   ·exact .inl ⟨b, cap, e1, .inr ⟨hiff k hkk, k, cap, hkk, e1⟩, fun _ => ⟨e2 b (.root e1), .inr ⟨k, cap, hkk, e1⟩⟩, fun hi => (by cases B <;> simp [Box.mut, Box.isIce] at m1 hi), e3⟩
   ·exact .inr ⟨e1, .inr (e2.imp (fun ⟨t, m, f, e⟩ => ⟨t, m, f, .inl e⟩) id)⟩
  ·have hmm := hsH_mem hB
   have hkk : k ∈ hs.keys := List.mem_map.2 ⟨_, hmm, rfl⟩
   obtain ⟨cp, e⟩ := hf.flat (hflat k B (List.mem_append_left _ hmm))
   obtain ⟨m1, ⟨b', cap, e1, e2, e3⟩ | ⟨e1, e2⟩⟩ := hH.1 k B hmm
   ·rw [e] at e1; cases e1
    exact ⟨e3.lt, .inr ⟨hiff k hkk, ⟨k, cp, hkk, e⟩, cp, e⟩, e2 b (.root e), .inr ⟨k, cp, hkk, e⟩⟩
   ·rw [e] at e1; cases e1
 refine wpIn_mono (h S _ w rfl ⟨Z, i, hF⟩) (fun e a' w' ⟨E0, H0, he0, hR0⟩ => ?_)
 have hend : (e = .normal ∨ e = .ret) ∧ ∃ E' H', RepS S E' H' a' w' ∧ Fin P fn r hs' rs E' H' := by
  cases e with
  | normal => obtain ⟨E2, H2, q1, q2⟩ := he0; exact ⟨.inl rfl, E2, H2, q1 S a' w' hR0, q2⟩
  | ret => obtain ⟨E2, H2, q1, q2⟩ := he0; exact ⟨.inr rfl, E2, H2, q1 S a' w' hR0, q2⟩
  | _ => exact he0.elim
 obtain ⟨hee, E', H', ⟨Z', i', hF'⟩, he⟩ := hend
 have key : Fin P fn r hs' rs E' H' → ∀ (ms : List Nat) (Z' : Zn) (a' : Act) (w' : World), Fits S E' H' Z' i' a' w' → a'.defers = ms.map mark ++ [] → ms.Nodup → (∀ b, b ∈ ms → Z' false b ∧ w'.heap[b]? = some (.deferred (some []))) → LeavesInM (Fw none) 0 P fn a'.tmps (fun e w' => ∃ v i2 Zn', e = .returned v ∧ Kept (fun b => ∃ k c, k ∈ hs.keys ∧ i k = some (some (b, c))) w w' ∧ (∀ b, Zn' b → w.heap.size ≤ b ∧ b < w'.heap.size) ∧ (∀ k, k ∈ hs.keys → i2 k = i k) ∧ (∀ k, k ∉ hs.keys → k ∉ rs.keys → i2 k = none) ∧
   (∀ k B b, (k, B) ∈ rs → Foot B (i2 k) b → w.heap.size ≤ b) ∧ (∀ k B, (k, B) ∈ hs' → B.nrows = 0) ∧ HsAt (Z2 Zc Zn') w' i2 (hs' ++ rs) ∧ Rep (Z2 Zc Zn') w' i2 v r) a'.defers .returning w' := by
  rintro ⟨rs0, h1, h2, h3⟩ ms
  induction ms with
  | nil =>
   intro Z' a' w' hF' hd _ _
   rw [hd]
   obtain ⟨v, h4, h5⟩ := results_run h1 hF'
   refine ⟨v, h4, v, fun k => if k ∈ (hs' ++ rs).map (·.1) then i' k else none, fun b => Z' false b ∨ (Z' true b ∧ w.heap.size ≤ b), rfl, hF'.kept, fun b hb => ?_, fun k hk => ?_, fun k h6 h7 => ?_, fun k B b hm hf => ?_, fun k B hm => hflat k B (List.mem_append_right _ hm), ⟨fun k B hm => ?_, fun k k' B B' b hm hm' f1 f2 => ?_⟩, ?_⟩
   ·rcases hb with hb | ⟨hb, q⟩
    ·exact ⟨hF'.zNew b hb, (hF'.zOld b (hF'.zsub b hb)).1⟩
    ·exact ⟨q, (hF'.zOld b hb).1⟩
   ·have : k ∈ (hs' ++ rs).map (·.1) := by
     rw [List.map_append, List.mem_append]
     exact .inl (by have := hkeys; unfold Hs.keys at this; rw [this]; exact hk)
    simp only [if_pos this]
    exact hF'.low k (hiff k hk)
   ·have : k ∉ (hs' ++ rs).map (·.1) := by
     rw [List.map_append, List.mem_append]
     rintro (q | q)
     ·exact h6 (by rw [← hkeys]; exact q)
     ·exact h7 q
    simp only [if_neg this]
   ·have hk : k ∈ rs.keys := List.mem_map.2 ⟨_, hm, rfl⟩
    have hmem : k ∈ (hs' ++ rs).map (·.1) := by rw [List.map_append, List.mem_append]; exact .inr hk
    simp only [if_pos hmem] at hf
    obtain ⟨q1, q2, _⟩ := h3 k B (List.mem_append.2 (.inr hm))
    rcases (hF'.foot k B b q1 q2 hf).2.1 with e2 | ⟨e2, _⟩
    ·exact e2
    ·have := hrs k hk; omega
   ·obtain ⟨q1, q2, q3⟩ := h3 k B hm
    have hmem : k ∈ (hs' ++ rs).map (·.1) := List.mem_map.2 ⟨_, hm, rfl⟩
    have hzz : ∀ o b, Z' o b → Z2 Zc (fun b => Z' false b ∨ (Z' true b ∧ w.heap.size ≤ b)) o b ∧ w'.heap[b]? = w'.heap[b]? := fun o b hz => ⟨by
     cases o with
     | false => exact .inl hz
     | true =>
      rcases Nat.lt_or_ge b w.heap.size with q | q
      ·exact .inl ((hF'.zOld b hz).2 q)
      ·exact .inr (.inr ⟨hz, q⟩), rfl⟩
    refine ⟨q2, ?_⟩
    simp only [if_pos hmem]
    rcases hF'.box k B q1 with ⟨b, c, e1, e2, e3, _, e5⟩ | ⟨e1, e2⟩
    ·refine .inl ⟨b, c, e1, fun x hf hz => ?_, (e5.nm (i' := fun k => if k ∈ (hs' ++ rs).map (·.1) then i' k else none) q3 (fun k x hp e => by rw [if_pos (memB_spec hp)]; exact e)).mem (Nat.le_refl _) (fun _ _ => rfl) hzz⟩
     have f := hF'.foot k B x q1 q2 hf
     rcases hz with hz | hz | ⟨hz, _⟩
     ·rcases f.2.1 with e2 | ⟨e2, ⟨k2, c2, e6, e7⟩, _⟩
      ·have h1 : w.heap.size ≤ x := e2
       have := hZ x hz; omega
      ·obtain ⟨B2, hm2, hB2⟩ := hH.key e6
       rcases hB2.2 with ⟨b3, c3, e8, e9, _⟩ | ⟨e8, _⟩
       ·exact e9 x (.root e7) ⟨rfl, hz⟩
       ·rw [e7] at e8; cases e8
     ·exact f.2.2.1 (hF'.zsub x hz)
     ·exact f.2.2.1 hz
    ·refine .inr ⟨e1, ?_⟩
     rcases e2 with rfl | ⟨t, m, f, e2 | rfl⟩ | e2
     ·cases q2
     ·exact .inl ⟨t, m, f, e2⟩
     ·cases q2
     ·exact .inr e2
   ·obtain ⟨q1, q2, _⟩ := h3 k B hm
    obtain ⟨q1', q2', _⟩ := h3 k' B' hm'
    have hk2 : k ∈ (hs' ++ rs).map (·.1) := List.mem_map.2 ⟨_, hm, rfl⟩
    have hk2' : k' ∈ (hs' ++ rs).map (·.1) := List.mem_map.2 ⟨_, hm', rfl⟩
    simp only [if_pos hk2] at f1
    simp only [if_pos hk2'] at f2
    exact hF'.inj k k' B B' b q1 q1' q2 q2' f1 f2
   ·refine (h2 S a' w' Z' i' v hF' h5).mem (fun o b hz => ⟨?_, rfl⟩)
    cases o with
    | false => exact .inl hz
    | true =>
     rcases Nat.lt_or_ge b w.heap.size with q | q
     ·exact .inl ((hF'.zOld b hz).2 q)
     ·exact .inr (.inr ⟨hz, q⟩)
  | cons D ms ih =>
   intro Z' a' w' hF' hd hnd hms
   rw [hd]
   refine ⟨by simp, .inl ⟨D, _, rfl, run_takeDeferred (hms D (by simp)).2, ?_⟩⟩
   have hF2 := hF'.unmark hd hms hnd (hF'.zNew D (hms D (by simp)).1) (fun o hz => absurd (hZ D hz.2) (Nat.not_lt.2 (hF'.zNew D (hms D (by simp)).1)))
   have := ih _ _ _ hF2 rfl (List.nodup_cons.1 hnd).2 (fun b hb => by
    have hne : b ≠ D := fun e => by subst e; exact (List.nodup_cons.1 hnd).1 hb
    exact ⟨⟨(hms b (by simp [hb])).1, hne⟩, (World.putObj_heap_other hne).trans (hms b (by simp [hb])).2⟩)
   exact this
 obtain ⟨ms, e1, e2, e3⟩ := hF'.defers
 rcases hee with rfl | rfl
 ·exact key he ms Z' a' w' hF' e1 e2 e3
 ·exact key he ms Z' a' w' hF' e1 e2 e3
end
open Go.RowKit

def Box.ren (r : Nat → Nat) : Box → Box
 | .lit t ds => .lit t (D.ren.renL r ds)
 | B => B
theorem Box.ren_mut (r : Nat → Nat) (B : Box) : (B.ren r).mut = B.mut := by cases B <;> rfl
theorem Box.ren_ice (r : Nat → Nat) (B : Box) : (B.ren r).isIce = B.isIce := by cases B <;> rfl
theorem BoxAt.ren {Z : Zn} {w : World} {i i' : Nm} {b : Nat} {cap : Cp} {B : Box} {r : Nat → Nat} (h : BoxAt Z w i b cap B) (hi : ∀ k x, i k = some x → i' (r k) = some x) : BoxAt Z w i' b cap (B.ren r) := by
 cases B with
 | lit t ds =>
  obtain ⟨cs, h1, h2, h3⟩ := h
  exact ⟨cs, h1, h2.trans (renL_len ds).symm, fun j hj => by rw [renL_len] at hj; rw [renL_at]; exact ⟨(h3 j hj).1, (h3 j hj).2.rename hi⟩⟩
 | _ => exact h
theorem D.ren_free {r : Nat → Nat} : ∀ (d : D), d.free (fun _ => false) = true → d.ren r = d
 | .any, _ => rfl
 | .val _, _ => rfl
 | .eptr _ _ _ _, h => by cases h
 | .sl _ _ _, h => by cases h
 | .slr _ _ _ _, h => by cases h
 | .eptrr _ _ _ _ _, h => by cases h
 | .fz _ _ _ _, _ => rfl
 | .fptr _ _, _ => rfl
 | .clo f l, h => by simp only [D.ren]; rw [renL l h]
 | .agg l, h => by simp only [D.ren]; rw [renL l h]
 | .tup l, h => by simp only [D.ren]; rw [renL l h]
where renL : ∀ (l : List D), D.free.freeL (fun _ => false) l = true → D.ren.renL r l = l
 | [], _ => rfl
 | d :: l, h => by
  simp only [D.free.freeL, Bool.and_eq_true] at h
  simp only [D.ren.renL]; rw [D.ren_free d h.1, renL l h.2]
theorem renb_free {r : Nat → Nat} {B : Box} (h : B.free (fun _ => false) = true) : B.ren r = B := by
 cases B with
 | lit t ds => simp only [Box.ren]; rw [D.ren_free.renL ds h]
 | _ => rfl
theorem Box.ren_rows (r : Nat → Nat) (B : Box) : (B.ren r).nrows = B.nrows := by cases B <;> rfl
theorem Foot.unren {r : Nat → Nat} {B : Box} {x : Option (Option (Nat × Cp))} {b : Nat} (h : Foot (B.ren r) x b) : Foot B x b := by
 obtain ⟨q, cp, h1, h2⟩ := h
 rw [Box.ren_rows] at h2
 exact ⟨q, cp, h1, h2⟩
/-- An argument: seen as frozen, or a box that may be turned, by another name. -/
def ArgV (lend : Bool) (L ns : List Nat) (ks : List Nat) (ρ : Nat → Nat) (H0 : Nat → Option Box) (d d' : D) : Prop := ∀ H, (∀ k, k ∈ ns → H k = H0 k) → ∀ S E a w Z i v, Fits S E H Z i a w → (∀ k, k ∈ L → ∃ B, H k = some B ∧ B.mut = true) → Rep Z w i v d → Rep (ZL lend L Z i w) w (fun k => if k ∈ ks then i (ρ k) else none) v d'
inductive ArgVL (lend : Bool) (L ns : List Nat) (ks : List Nat) (ρ : Nat → Nat) (H : Nat → Option Box) : List D → List D → Prop where
 | nil : ArgVL lend L ns ks ρ H [] []
 | cons {d d' : D} {l l' : List D} (h : ArgV lend L ns ks ρ H d d') (k : ArgVL lend L ns ks ρ H l l') : ArgVL lend L ns ks ρ H (d :: l) (d' :: l')
section
variable {lend : Bool} {L ns ks : List Nat} {ρ : Nat → Nat} {ro : Option Nat} {P : Program} {N : Nat} {o : Oper} {E E' : Nat → D} {H H' : Nat → Option Box} {Q : Post} {S : Cx} {Z : Zn} {i : Nm} {a : Act} {w : World}
theorem ArgVL.len {l l' : List D} (h : ArgVL lend L ns ks ρ H l l') : l.length = l'.length := by induction h with | nil => rfl | cons _ _ ih => simp [ih]
theorem ArgVL.at {l l' : List D} (h : ArgVL lend L ns ks ρ H l l') : ∀ j, ArgV lend L ns ks ρ H (dl l j) (dl l' j) := by
 induction h with
 | nil => intro j H1 hH S E a w Z i v _ _ _; exact .any _ _
 | cons h _ ih => intro j; cases j with
  | zero => exact h
  | succ j => exact ih j
theorem ArgV.cv {d d' : D} (h : CvV lend L ns H d d') : ArgV lend L ns ks ρ H d d' := fun H1 hH S E a w Z i v hF hL hv => (h H1 hH S E a w Z i v hF hL hv).of_noN
theorem ArgV.sl {k kc m n : Nat} (hk : ρ kc = k) (hm : memB kc ks = true) : ArgV lend L ns ks ρ H (.sl k m n) (.sl kc m n) := fun H1 hH S E a w Z i v hF hL hv => by
 have hkc := memB_spec hm
 subst hk
 cases hv with
 | sl _ _ _ _ _ h h1 h2 => exact .sl _ _ _ _ _ (by show (if kc ∈ ks then _ else _) = _; rw [if_pos hkc]; exact h) h1 h2
 | sl0 _ _ _ h => exact .sl0 _ _ _ (by show (if kc ∈ ks then _ else _) = _; rw [if_pos hkc]; exact h)
theorem ArgV.eptr {k kc m e c : Nat} (hk : ρ kc = k) (hm : memB kc ks = true) : ArgV lend L ns ks ρ H (.eptr k m e c) (.eptr kc m e c) := fun H1 hH S E a w Z i v hF hL hv => by
 have hkc := memB_spec hm
 subst hk
 cases hv with | eptr _ _ _ _ _ h => exact .eptr _ _ _ _ _ (by show (if kc ∈ ks then _ else _) = _; rw [if_pos hkc]; exact h)
theorem ArgV.clo {fn : FuncId} {l l' : List D} (h : ArgVL lend L ns ks ρ H l l') : ArgV lend L ns ks ρ H (.clo fn l) (.clo fn l') := fun H1 hH S E a w Z i v hF hL hv => by
 cases hv with | clo _ _ vs _ hl hr => exact .clo _ fn vs _ (hl.trans h.len) (fun j hj => h.at j H1 hH S E a w Z i _ hF hL (hr j (by rw [h.len]; exact hj)))
theorem ArgV.cvt {d d1 d2 : D} (h : ArgV lend L ns ks ρ H d d1) (k : Cvt d1 d2) : ArgV lend L ns ks ρ H d d2 := fun H1 hH S E a w Z i v hF hL hv => k.cv (ZL.sub hF.zsub) (h H1 hH S E a w Z i v hF hL hv)
/-- What the call makes of the boxes, by the caller's names. -/
def outL (ρ : Nat → Nat) : Hs → List (Nat × Option Box)
 | [] => []
 | (k, B) :: l => (ρ k, some (B.ren ρ)) :: outL ρ l
theorem outL_get {ρ : Nat → Nat} {H : Nat → Option Box} : ∀ {hs : Hs} {x : Nat}, (∀ k, k ∈ hs.keys → ρ k ≠ x) → updH H (outL ρ hs) x = H x
 | [], x, _ => rfl
 | (k, B) :: l, x, h => by
  simp only [outL, updH]
  rw [if_neg (h k (by simp [Hs.keys])), outL_get (fun k' hk' => h k' (by simp [Hs.keys] at hk' ⊢; exact .inr hk'))]
theorem outL_some {ρ : Nat → Nat} {H : Nat → Option Box} : ∀ {hs : Hs} {x : Nat}, (∃ k, k ∈ hs.keys ∧ ρ k = x) → ∃ k B, (k, B) ∈ hs ∧ ρ k = x ∧ updH H (outL ρ hs) x = some (B.ren ρ)
 | [], x, ⟨k, hk, _⟩ => by simp [Hs.keys] at hk
 | (k, B) :: l, x, ⟨k', hk', e⟩ => by
  by_cases q : ρ k = x
  ·exact ⟨k, B, by simp, q, by simp only [outL, updH]; rw [if_pos q]⟩
  ·have : k' ∈ Hs.keys l := by
    simp [Hs.keys] at hk' ⊢
    rcases hk' with rfl | h
    ·exact absurd e q
    ·exact h
   obtain ⟨k2, B2, h1, h2, h3⟩ := outL_some (H := H) ⟨k', this, e⟩
   exact ⟨k2, B2, by simp [h1], h2, by simp only [outL, updH]; rw [if_neg q]; exact h3⟩
def injB (ρ : Nat → Nat) : List Nat → Bool
 | [] => true
 | k :: l => (l.all fun k' => !Nat.beq (ρ k') (ρ k)) && injB ρ l
theorem injB_spec {ρ : Nat → Nat} : ∀ {l : List Nat}, injB ρ l = true → ∀ k k', k ∈ l → k' ∈ l → ρ k = ρ k' → k = k'
 | [], _, k, k', hk, _, _ => by cases hk
 | x :: l, h, k, k', hk, hk', e => by
  simp only [injB, Bool.and_eq_true, List.all_eq_true] at h
  have no : ∀ y, y ∈ l → ρ y = ρ x → False := fun y hy e => by
   have := h.1 y hy
   rw [e] at this
   simp at this
  rcases List.mem_cons.1 hk with q | q <;> rcases List.mem_cons.1 hk' with q' | q'
  ·exact q.trans q'.symm
  ·exact (no k' q' (by rw [← q]; exact e.symm)).elim
  ·exact (no k q (by rw [← q']; exact e)).elim
  ·exact injB_spec h.2 k k' q q' e
theorem keys_app (a b : Hs) : Hs.keys (a ++ b) = a.keys ++ b.keys := by simp [Hs.keys]
/-- A CALL BY CONTRACT. -/
theorem loc_call {f : FuncId} {fn : Func} {x : Operand} {xs : List Operand} {ts : Array TypeId} {ds ads caps : List D} {hs hs' rs : Hs} {r d0 : D} (ho : o.op = .call { callee := .value x, args := xs.toArray, argTypes := ts }) (hd : dstLt o N = true) [hf : FI P f fn]
  (hx : Opd E x d0) (hcl : (d0 = .val (.func (.func f) #[] #[]) ∧ caps = []) ∨ d0 = .clo f caps) (ha : OpdL E xs ads) (hden : DenH P f ds hs r hs' rs) (hv : ArgVL lend (hs.keys.map ρ) ns hs.keys ρ H (ads ++ caps) ds)
  [hod : OldDL ds] [hob : AllOld hs] (hH : ∀ k B, (k, B) ∈ hs → H (ρ k) = some B) (hns : ∀ k, k ∈ hs.keys → ρ k ∈ ns) (hkeys : hs'.keys = hs.keys) (hinj : injB ρ (hs.keys ++ rs.keys) = true) (hle : lend = true → NewD r ∧ AllNew (hs' ++ rs)) :
  Loc P N o E H ⟨ns, o.dst, r.ren ρ, outL ρ (hs' ++ rs), rs.keys.map ρ⟩ := by
 refine ⟨rfl, by simp [ho], fun E1 H1 h1 h2 h3 S a w hN hR K Q hK => ?_⟩
 obtain ⟨Z, i, hF⟩ := hR
 have hops : o.op.operands = #[x] ++ xs.toArray := by simp [ho, Op.operands, Call.operands]
 have e1 := hF.opd (Opd.agree (x := x) (by simp [hops]) h1 hx)
 have hlen := ha.len
 have hasr : ∀ j, j < ads.length → Rep Z w i ((xs.map a.eval).getD j undef) (dl ads j) := fun j hj => by
  have hj' : j < xs.length := by omega
  have := hF.opd (Opd.agree (x := xs[j]) (by rw [hops]; simp) h1 (ha.at j _ (List.getElem?_eq_getElem hj')))
  rw [List.getD_eq_getElem?_getD, List.getElem?_map, List.getElem?_eq_getElem hj']
  exact this
 -- the function's value, and what it captured
 have hfun : ∃ cv : List Value, a.eval x = .func (.func f) #[] cv.toArray ∧ cv.length = caps.length ∧ ∀ j, j < caps.length → Rep Z w i (cv.getD j undef) (dl caps j) := by
  rcases hcl with ⟨rfl, rfl⟩ | rfl
  ·exact ⟨[], e1.valEq, rfl, fun j hj => by simp at hj⟩
  ·generalize hq : a.eval x = v at e1
   cases e1 with | clo _ _ vs _ hl hr => exact ⟨vs, rfl, hl, hr⟩
 obtain ⟨cv, c1, c2, c3⟩ := hfun
 have hrun : (execOp a.eval o).run P w = .ok (.enter f (xs.map a.eval ++ cv).toArray) w := by
  have h3 := hf.enters ((xs.map a.eval).toArray ++ cv.toArray) w
  simp only [execOp, ho, resolve, c1, Deferred.ofValue]
  simp [invoke, Result.andThen] at h3 ⊢
  exact h3
 have hLm : ∀ k, k ∈ hs.keys.map ρ → ∃ B, H1 k = some B ∧ B.mut = true := fun k hk => by
  obtain ⟨k', hk', rfl⟩ := List.mem_map.1 hk
  obtain ⟨⟨k2, B⟩, hm, rfl⟩ := List.mem_map.1 hk'
  exact ⟨B, (h2 _ (hns k2 hk')).trans (hH k2 B hm), (hob.od k2 B hm).2.1⟩
 obtain ⟨ic, hic⟩ : ∃ ic : Nm, (fun k => if k ∈ hs.keys then i (ρ k) else none) = ic := ⟨_, rfl⟩
 have hic1 : ∀ k, k ∈ hs.keys → ic k = i (ρ k) := fun k hk => by rw [← hic]; exact if_pos hk
 have hic2 : ∀ k, k ∉ hs.keys → ic k = none := fun k hk => by rw [← hic]; exact if_neg hk
 have hinj' := injB_spec hinj
 let Zc : Nat → Prop := ZL lend (hs.keys.map ρ) Z i w true
 have hsub := ZL.sub (lend := lend) (L := hs.keys.map ρ) (i := i) (w := w) hF.zsub
 have hZc : ∀ b, Zc b → b < w.heap.size := fun b hb => by
  rcases hb with q | ⟨_, _, q, _⟩
  ·exact (hF.zOld b q).1
  ·exact q
 have hbox : ∀ k B, (k, B) ∈ hs → BoxHas (fun o b => o = true ∧ Zc b) w ic k B := fun k B hm => by
  have hkk : k ∈ hs.keys := List.mem_map.2 ⟨_, hm, rfl⟩
  have q3 := (h2 _ (hns k hkk)).trans (hH k B hm)
  obtain ⟨g1, g2, g3, g4⟩ := hob.od k B hm
  refine ⟨g2, ?_⟩
  rw [hic1 k hkk]
  rcases hF.box _ B q3 with ⟨b, c, p1, _, p3, _, p5⟩ | ⟨p1, p2⟩
  ·refine .inl ⟨b, c, p1, fun x hf hz => ?_, g1.od (fun b hb => ⟨rfl, .inl hb⟩) ((noN_bx p5 g3).ext (fun k x e => by cases e))⟩
   obtain ⟨cp, e⟩ := hf.flat g4
   rw [p1] at e; cases e
   rcases hz.2 with hz | ⟨_, _, _, hz⟩
   ·exact (p3 g2).1 hz
   ·exact hz _ c (List.mem_map.2 ⟨k, hkk, rfl⟩) p1
  ·refine .inr ⟨p1, ?_⟩
   rcases p2 with rfl | ⟨t, m, f, p2 | rfl⟩ | p2
   ·cases g2
   ·exact .inl ⟨t, m, f, p2⟩
   ·cases g2
   ·exact .inr p2
 have hkeyBox : ∀ k, k ∈ hs.keys → ∃ B, (k, B) ∈ hs ∧ H1 (ρ k) = some B ∧ B.mut = true := fun k hk => by
  obtain ⟨⟨k2, B⟩, hm, rfl⟩ := List.mem_map.1 hk
  exact ⟨B, hm, (h2 _ (hns k2 hk)).trans (hH k2 B hm), (hob.od k2 B hm).2.1⟩
 have hHs : HsAt (fun o b => o = true ∧ Zc b) w ic hs := ⟨hbox, fun k k' B B' b hm hm' f1 f2 => by
  have hk : k ∈ hs.keys := List.mem_map.2 ⟨_, hm, rfl⟩
  have hk' : k' ∈ hs.keys := List.mem_map.2 ⟨_, hm', rfl⟩
  obtain ⟨c, p1⟩ := f1.flat (hob.od k B hm).2.2.2
  obtain ⟨c', p2⟩ := f2.flat (hob.od k' B' hm').2.2.2
  obtain ⟨B1, _, g1, g2⟩ := hkeyBox k hk
  obtain ⟨B1', _, g1', g2'⟩ := hkeyBox k' hk'
  rw [hic1 k hk] at p1
  rw [hic1 k' hk'] at p2
  exact hinj' k k' (List.mem_append_left _ hk) (List.mem_append_left _ hk') (hF.injR _ _ B1 B1' b c c' g1 g1' g2 g2' p1 p2)⟩
 have hargs : RepsI (fun o b => o = true ∧ Zc b) w ic (xs.map a.eval ++ cv) ds := by
  have hl := hv.len
  refine ⟨by simp at hl ⊢; omega, fun j hj => ?_⟩
  have hr : Rep Z w i ((xs.map a.eval ++ cv).getD j undef) (dl (ads ++ caps) j) := by
   rw [List.getD_eq_getElem?_getD, dl_eq, List.getD_eq_getElem?_getD]
   by_cases q : j < ads.length
   ·have := hasr j q
    rw [List.getD_eq_getElem?_getD, dl_eq, List.getD_eq_getElem?_getD] at this
    rw [List.getElem?_append_left (by simpa [hlen] using q), List.getElem?_append_left q]
    exact this
   ·have := c3 (j - ads.length) (by simp at hl; omega)
    rw [List.getD_eq_getElem?_getD, dl_eq, List.getD_eq_getElem?_getD] at this
    rw [List.getElem?_append_right (by simp [hlen]; omega), List.getElem?_append_right (by omega)]
    simpa [hlen] using this
  have := hv.at j H1 h2 S E1 a w Z i _ hF hLm hr
  rw [hic] at this
  exact (hod.od j).od (fun b hb => ⟨rfl, hb⟩) this
 unfold Oper.wp
 rw [hrun]
 refine (hden Zc w ic _ hZc hic2 hHs hargs).mono (fun e w' ⟨v, i', Zn', p0, p1, p2, p3, p4, p5, pfl, p6, p7⟩ => ?_)
 subst p0
 have hne : ∀ b k B c, H1 k = some B → B.mut = true → i k = some (some (b, c)) → ¬ Z true b := fun b k B c q1 q2 q3 => by
  rcases hF.box k B q1 with ⟨b', c', e1, _, e3, _⟩ | ⟨e1, _⟩
  ·rw [q3] at e1; cases e1; exact (e3 q2).1
  ·rw [q3] at e1; cases e1
 have hltb : ∀ b k B c, H1 k = some B → i k = some (some (b, c)) → b < w.heap.size := fun b k B c q1 q3 => by
  rcases hF.box k B q1 with ⟨b', c', e1, _, _, _, e3⟩ | ⟨e1, _⟩
  ·rw [q3] at e1; cases e1; exact e3.lt
  ·rw [q3] at e1; cases e1
 -- the caller's names behind the call
 obtain ⟨i2, hi2⟩ : ∃ i2 : Nm, ∀ x, (∀ k, k ∈ rs.keys → ρ k = x → i2 x = i' k) ∧ ((∀ k, k ∈ rs.keys → ρ k ≠ x) → i2 x = i x) := by
  classical
  refine ⟨fun x => if h : ∃ k, k ∈ rs.keys ∧ ρ k = x then i' (Classical.choose h) else i x, fun x => ⟨fun k hk e => ?_, fun h => ?_⟩⟩
  ·have h : ∃ k, k ∈ rs.keys ∧ ρ k = x := ⟨k, hk, e⟩
   show dite _ _ _ = _
   rw [dif_pos h]
   have := Classical.choose_spec h
   rw [hinj' _ k (List.mem_append_right _ this.1) (List.mem_append_right _ hk) (this.2.trans e.symm)]
  ·show dite _ _ _ = _
   rw [dif_neg (fun ⟨k, hk, e⟩ => h k hk e)]
 have hrsf : ∀ k, k ∈ rs.keys → H1 (ρ k) = none ∧ 1000 ≤ ρ k := fun k hk => h3 _ (List.mem_map.2 ⟨k, hk, rfl⟩)
 have hdisj : ∀ k k', k ∈ hs.keys → k' ∈ rs.keys → ρ k' ≠ ρ k := fun k k' hk hk' e => by
  obtain ⟨B, _, q, _⟩ := hkeyBox k hk
  rw [← e, (hrsf k' hk').1] at q; cases q
 have hi2h : ∀ k, k ∈ hs.keys → i2 (ρ k) = i' k := fun k hk => by
  rw [(hi2 (ρ k)).2 (fun k' hk' => hdisj k k' hk hk'), p3 k hk, hic1 k hk]
 have hi2r : ∀ k, k ∈ rs.keys → i2 (ρ k) = i' k := fun k hk => (hi2 (ρ k)).1 k hk rfl
 have hi2a : ∀ k, k ∈ (hs' ++ rs).keys → i2 (ρ k) = i' k := fun k hk => by
  rw [keys_app, List.mem_append, hkeys] at hk
  exact hk.elim (hi2h k) (hi2r k)
 have hinj2 : ∀ k k', k ∈ (hs' ++ rs).keys → k' ∈ (hs' ++ rs).keys → ρ k = ρ k' → k = k' := by
  rw [keys_app, hkeys]; exact hinj'
 have hH2 : ∀ x, (∀ k, k ∈ (hs' ++ rs).keys → ρ k ≠ x) → updH H1 (outL ρ (hs' ++ rs)) x = H1 x := fun x h => outL_get h
 have hH3 : ∀ x C, (∃ k, k ∈ (hs' ++ rs).keys ∧ ρ k = x) → updH H1 (outL ρ (hs' ++ rs)) x = some C → ∃ k B, k ∈ (hs' ++ rs).keys ∧ ρ k = x ∧ (k, B) ∈ hs' ++ rs ∧ C = B.ren ρ := fun x C hx hB => by
  obtain ⟨k, B', q1, q2, q3⟩ := outL_some (H := H1) hx
  rw [q3] at hB; cases hB
  exact ⟨k, B', List.mem_map.2 ⟨_, q1, rfl⟩, q2, q1, rfl⟩
 have hnz : ∀ b, Zn' b → ¬ Z true b := fun b hb hz => by have := (p2 b hb).1; have := (hF.zOld b hz).1; omega
 have hsz := hF.kept.size
 obtain ⟨Z3, hZ3⟩ : ∃ Z3 : Zn, (fun o b => Z o b ∨ Zn' b) = Z3 := ⟨_, rfl⟩
 have hZ3i : ∀ o b, Z3 o b ↔ (Z o b ∨ Zn' b) := fun o b => by rw [← hZ3]
 -- data of the callee's are the caller's
 have hup : ∀ {d : D} {v : Value} {j : Nm}, (lend = true → NewD d) → Rep (Z2 Zc Zn') w' j v d → Rep Z3 w' j v d := fun hn hr => by
  cases hlb : lend with
  | true =>
   exact (hn hlb).nw (fun b hb => (hZ3i _ _).2 (.inr hb)) hr
  | false =>
   refine hr.mem (fun o b hz => ⟨(hZ3i _ _).2 ?_, rfl⟩)
   cases o with
   | false => exact .inr hz
   | true =>
    rcases hz with (hz | ⟨q, _⟩) | hz
    ·exact .inl hz
    ·rw [hlb] at q; cases q
    ·exact .inr hz
 have hupB : ∀ {B : Box} {j : Nm} {b : Nat} {cap : Cp}, (lend = true → NewB B) → BoxAt (Z2 Zc Zn') w' j b cap B → BoxAt Z3 w' j b cap B := fun {B j b cap} hn hr => by
  cases hlb : lend with
  | true => exact (hn hlb).nw (fun b hb => (hZ3i _ _).2 (.inr hb)) hr
  | false =>
   refine hr.mem (Nat.le_refl _) (fun _ _ => rfl) (fun o b hz => ⟨(hZ3i _ _).2 ?_, rfl⟩)
   cases o with
   | false => exact .inr hz
   | true =>
    rcases hz with (hz | ⟨q, _⟩) | hz
    ·exact .inl hz
    ·rw [hlb] at q; cases q
    ·exact .inr hz
 have hi2n : ∀ k x, i' k = some x → i2 (ρ k) = some x := fun k x e => by
  by_cases hk : k ∈ (hs' ++ rs).keys
  ·rw [hi2a k hk]; exact e
  ·rw [keys_app, List.mem_append, hkeys, not_or] at hk
   rw [p4 k hk.1 hk.2] at e; cases e
 -- where a block of what the call leaves comes from
 have horg : ∀ k B b, (k, B) ∈ hs' ++ rs → Foot B (i' k) b → ((k, B) ∈ rs ∧ w.heap.size ≤ b) ∨ (k ∈ hs.keys ∧ ∃ B0 c, H1 (ρ k) = some B0 ∧ B0.mut = true ∧ i (ρ k) = some (some (b, c))) := fun k B b hm hf => by
  rcases List.mem_append.1 hm with q | q
  ·have hk : k ∈ hs.keys := by rw [← hkeys]; exact List.mem_map.2 ⟨_, q, rfl⟩
   obtain ⟨c, e⟩ := hf.flat (pfl k B q)
   rw [p3 k hk, hic1 k hk] at e
   obtain ⟨B0, _, g1, g2⟩ := hkeyBox k hk
   exact .inr ⟨hk, B0, c, g1, g2, e⟩
  ·exact .inl ⟨q, p5 k B b q hf⟩
 have hbxo : ∀ x C, (∃ k, k ∈ (hs' ++ rs).keys ∧ ρ k = x) → updH H1 (outL ρ (hs' ++ rs)) x = some C → BoxOk S Z3 w' i2 x C := fun x C hx hB => by
  obtain ⟨k, B, q1, q2, q3, rfl⟩ := hH3 x C hx hB
  obtain ⟨m1, m2⟩ := p6.1 k B q3
  subst q2
  rcases m2 with ⟨b, cap, m2, m3, m4⟩ | ⟨m2, m3⟩
  ·have ho := horg k B b q3 (.root m2)
   refine .inl ⟨b, cap, (hi2a k q1).trans m2, ?_, fun _ => ⟨fun hz => ?_, ?_⟩, fun hi => (by rw [Box.ren_ice] at hi; cases B <;> simp [Box.mut, Box.isIce] at m1 hi), (hupB (fun hl => (hle hl).2.nw k B q3) m4).ren hi2n⟩
   ·rcases ho with ⟨_, q⟩ | ⟨_, B0, c, g1, g2, e⟩
    ·exact .inl (by omega)
    ·rcases hF.box _ B0 g1 with ⟨b', c', e1, e2, _⟩ | ⟨e1, _⟩
     ·rw [e] at e1; cases e1; exact e2
     ·rw [e] at e1; cases e1
   ·rcases (hZ3i _ _).1 hz with hz | hz
    ·rcases ho with ⟨_, q⟩ | ⟨_, B0, c, g1, g2, e⟩
     ·have := (hF.zOld b hz).1
      omega
     ·exact hne b _ B0 c g1 g2 e hz
    ·exact m3 b (.root m2) (.inr hz)
   ·rcases ho with ⟨_, q⟩ | ⟨_, B0, c, g1, g2, e⟩
    ·have := hF.kept1.size; exact .inl (by omega)
    ·rcases hF.box _ B0 g1 with ⟨b', c', e1, _, e3, _⟩ | ⟨e1, _⟩
     ·rw [e] at e1; cases e1; exact (e3 g2).2
     ·rw [e] at e1; cases e1
  ·exact .inr ⟨(hi2a k q1).trans m2, .inr (by
    rcases m3 with ⟨t, m, f, rfl⟩ | ⟨t, t2, m2, n2, g, rfl⟩
    ·exact .inl ⟨t, m, f, .inl rfl⟩
    ·exact .inr ⟨t, t2, m2, n2, g, rfl⟩)⟩
 have hft : ∀ x C b, (∃ k, k ∈ (hs' ++ rs).keys ∧ ρ k = x) → updH H1 (outL ρ (hs' ++ rs)) x = some C → Foot C (i2 x) b → ∃ k B, (k, B) ∈ hs' ++ rs ∧ ρ k = x ∧ Foot B (i' k) b := fun x C b hx hC hf => by
  obtain ⟨k, B, q1, q2, q3, rfl⟩ := hH3 x C hx hC
  subst q2
  rw [hi2a k q1] at hf
  exact ⟨k, B, q3, rfl, hf.unren⟩
 have hF2 : Fits S E1 (updH H1 (outL ρ (hs' ++ rs))) Z3 i2 a w' := by
  refine hF.step (fun x => ∃ k, k ∈ (hs' ++ rs).keys ∧ ρ k = x) ⟨p1.os, p1.tape, p1.output, p1.size⟩ (fun b hb hn => ?_) (fun x hx => ?_) (fun x hx => hH2 x (fun k hk e => hx ⟨k, hk, e⟩)) (fun x hx e => ?_) (fun x hx e => ?_) (fun x hx e => ?_) (fun o b hb => (hZ3i _ _).2 (.inl hb)) (fun b hb => ?_) (fun b hb => ?_) hbxo (fun x C b hx hC hm hf => ?_) (fun x x' C C' b hx hx' h1' h2' _ _ f1 f2 => ?_)
  ·refine p1.block b hb (fun ⟨k, c, hk, e⟩ => ?_)
   obtain ⟨B, _, g1, g2⟩ := hkeyBox k hk
   rw [hic1 k hk] at e
   exact hn (ρ k) B ⟨k, by rw [keys_app, List.mem_append, hkeys]; exact .inl hk, rfl⟩ g1 g2 (.root e)
  ·exact (hi2 x).2 (fun k hk e => hx (e ▸ (hrsf k hk).1))
  ·obtain ⟨k, B, q1, q2, q3⟩ := outL_some (H := H1) hx
   rw [q3] at e; cases e
  ·rw [(hi2 x).2 (fun k hk e' => hx ⟨k, by rw [keys_app, List.mem_append]; exact .inr hk, e'⟩)]
   exact hF.nil x e
  ·rw [(hi2 x).2 (fun k hk e' => by have := (hrsf k hk).2; omega)]
   exact hF.nil x e
  ·rcases (hZ3i _ _).1 hb with q | q
   ·exact .inl q
   ·refine .inr ⟨(p2 b q).2, by have := (p2 b q).1; omega, .inl (p2 b q).1, fun x C hx hC hm hf => ?_⟩
    obtain ⟨k, B, q3, _, hf'⟩ := hft x C b hx hC hf
    obtain ⟨_, ⟨b', cap, m2, m3, _⟩ | ⟨m2, _⟩⟩ := p6.1 k B q3
    ·exact m3 b hf' (.inr q)
    ·obtain ⟨_, _, e, _⟩ := hf'
     rw [m2] at e; cases e
  ·rcases (hZ3i _ _).1 hb with q | q
   ·exact ⟨(hZ3i _ _).2 (.inl (hF.zsub b q)), hF.zNew b q⟩
   ·exact ⟨(hZ3i _ _).2 (.inr q), by have := (p2 b q).1; omega⟩
  ·obtain ⟨k, B, q3, rfl, hf'⟩ := hft x C b hx hC hf
   rcases horg k B b q3 hf' with ⟨_, q⟩ | ⟨hk', B0, c, g1, g2, e⟩
   ·refine .inl ⟨q, ?_⟩
    obtain ⟨_, ⟨b', cap, m2, _, m4⟩ | ⟨m2, _⟩⟩ := p6.1 k B q3
    ·exact m4.footLt (m2 ▸ hf')
    ·obtain ⟨_, _, e, _⟩ := hf'
     rw [m2] at e; cases e
   ·exact .inr ⟨ρ k, B0, hx, fun h _ => ⟨h, c, by rw [hi2h k hk', p3 k hk', hic1 k hk']; exact e⟩, g1, g2, .root e⟩
  ·obtain ⟨k, B, q3, rfl, f1'⟩ := hft x C b hx h1' f1
   obtain ⟨k', B', q3', rfl, f2'⟩ := hft x' C' b hx' h2' f2
   rw [p6.2 k k' B B' b q3 q3' f1' f2']
 refine hK _ _ ⟨Z3, i2, hF2.put (by rw [hN]; exact dstLt_spec hd) ((hup (fun hl => (hle hl).1) p7).rename hi2n)⟩
end
end Go.Proofs.YtmjildbdkecolaaGreat
