/- A call by contract; what may be forgotten, frozen, said otherwise. No walk.
What may be forgotten, frozen, said otherwise. No walk.
Rows of rows, each in a block of its own: what is read, what is turned. No walk.
Rows of rows: rows come in by append; all is frozen, or lent. No walk.
What operators make of numbers. No walk. -/
import Derived.Test.YtdcenblblimkfaaGreatPn10
import Derived.Laws.BitsAllLaws
import Derived.Laws.Bits64
import Derived.Laws.Small
set_option linter.unusedSimpArgs false
set_option linter.unusedVariables false
set_option linter.unnecessarySimpa false
set_option linter.unusedSectionVars false
namespace Go.Proofs.YtdcenblblimkfaaGreat
open Go.RowKit

def Box.ren (r:Nat→Nat):Box→Box
 | .lit t ds=>.lit t (D.ren.renL r ds)
 | B=>B
theorem Box.ren_mut (r:Nat→Nat) (B:Box):(B.ren r).mut=B.mut:=by cases B<;>rfl
theorem Box.ren_ice (r:Nat→Nat) (B:Box):(B.ren r).isIce=B.isIce:=by cases B<;>rfl
theorem BoxAt.ren {Z:Zn} {w:World} {i i':Nm} {b:Nat} {cap:Cp} {B:Box} {r:Nat→Nat} (h:BoxAt Z w i b cap B) (hi:∀ k x,i k=some x→i' (r k)=some x):BoxAt Z w i' b cap (B.ren r):=by
 cases B with
 | lit t ds=>
  obtain ⟨cs,h1,h2,h3⟩:=h
  exact ⟨cs,h1,h2.trans (renL_len ds).symm,fun j hj=>by rw [renL_len] at hj;rw [renL_at];exact ⟨(h3 j hj).1,(h3 j hj).2.rename hi⟩⟩
 | _=>exact h
theorem D.ren_free {r:Nat→Nat}:∀ (d:D),d.free (fun _=>false)=true→d.ren r=d
 | .any,_=>rfl
 | .val _,_=>rfl
 | .eptr _ _ _ _,h=>by cases h
 | .sl _ _ _,h=>by cases h
 | .slr _ _ _ _,h=>by cases h
 | .eptrr _ _ _ _ _,h=>by cases h
 | .fz _ _ _ _,_=>rfl
 | .fptr _ _,_=>rfl
 | .clo f l,h=>by simp only [D.ren];rw [renL l h]
 | .agg l,h=>by simp only [D.ren];rw [renL l h]
 | .tup l,h=>by simp only [D.ren];rw [renL l h]
where renL:∀ (l:List D),D.free.freeL (fun _=>false) l=true→D.ren.renL r l=l
 | [],_=>rfl
 | d::l,h=>by
  simp only [D.free.freeL,Bool.and_eq_true] at h
  simp only [D.ren.renL];rw [D.ren_free d h.1,renL l h.2]
theorem renb_free {r:Nat→Nat} {B:Box} (h:B.free (fun _=>false)=true):B.ren r=B:=by
 cases B with
 | lit t ds=>simp only [Box.ren];rw [D.ren_free.renL ds h]
 | _=>rfl
theorem Box.ren_rows (r:Nat→Nat) (B:Box):(B.ren r).nrows=B.nrows:=by cases B<;>rfl
theorem Foot.unren {r:Nat→Nat} {B:Box} {x:Option (Option (Nat × Cp))} {b:Nat} (h:Foot (B.ren r) x b):Foot B x b:=by
 obtain ⟨q,cp,h1,h2⟩:=h
 rw [Box.ren_rows] at h2
 exact ⟨q,cp,h1,h2⟩
def ArgV (lend:Bool) (L ns:List Nat) (ks:List Nat) (ρ:Nat→Nat) (H0:Nat→Option Box) (d d':D):Prop:=∀ H,(∀ k,k∈ns→H k=H0 k)→∀ S E a w Z i v,Fits S E H Z i a w→(∀ k,k∈L→∃ B,H k=some B∧B.mut=true)→Rep Z w i v d→Rep (ZL lend L Z i w) w (fun k=>if k∈ks then i (ρ k) else none) v d'
inductive ArgVL (lend:Bool) (L ns:List Nat) (ks:List Nat) (ρ:Nat→Nat) (H:Nat→Option Box):List D→List D→Prop where
 | nil:ArgVL lend L ns ks ρ H [] []
 | cons {d d':D} {l l':List D} (h:ArgV lend L ns ks ρ H d d') (k:ArgVL lend L ns ks ρ H l l'):ArgVL lend L ns ks ρ H (d::l) (d'::l')
section
variable {lend:Bool} {L ns ks:List Nat} {ρ:Nat→Nat} {ro:Option Nat} {P:Program} {N:Nat} {o:Oper} {E E':Nat→D} {H H':Nat→Option Box} {Q:Post} {S:Cx} {Z:Zn} {i:Nm} {a:Act} {w:World}
theorem ArgVL.len {l l':List D} (h:ArgVL lend L ns ks ρ H l l'):l.length=l'.length:=by induction h with | nil=>rfl | cons _ _ ih=>simp [ih]
theorem ArgVL.at {l l':List D} (h:ArgVL lend L ns ks ρ H l l'):∀ j,ArgV lend L ns ks ρ H (dl l j) (dl l' j):=by
 induction h with
 | nil=>intro j H1 hH S E a w Z i v _ _ _;exact .any _ _
 | cons h _ ih=>intro j;cases j with
  | zero=>exact h
  | succ j=>exact ih j
theorem ArgV.cv {d d':D} (h:CvV lend L ns H d d'):ArgV lend L ns ks ρ H d d':=fun H1 hH S E a w Z i v hF hL hv=>(h H1 hH S E a w Z i v hF hL hv).of_noN
theorem ArgV.sl {k kc m n:Nat} (hk:ρ kc=k) (hm:memB kc ks=true):ArgV lend L ns ks ρ H (.sl k m n) (.sl kc m n):=fun H1 hH S E a w Z i v hF hL hv=>by
 have hkc:=memB_spec hm
 subst hk
 cases hv with
 | sl _ _ _ _ _ h h1 h2=>exact .sl _ _ _ _ _ (by show (if kc∈ks then _ else _)=_;rw [if_pos hkc];exact h) h1 h2
 | sl0 _ _ _ h=>exact .sl0 _ _ _ (by show (if kc∈ks then _ else _)=_;rw [if_pos hkc];exact h)
theorem ArgV.eptr {k kc m e c:Nat} (hk:ρ kc=k) (hm:memB kc ks=true):ArgV lend L ns ks ρ H (.eptr k m e c) (.eptr kc m e c):=fun H1 hH S E a w Z i v hF hL hv=>by
 have hkc:=memB_spec hm
 subst hk
 cases hv with | eptr _ _ _ _ _ h=>exact .eptr _ _ _ _ _ (by show (if kc∈ks then _ else _)=_;rw [if_pos hkc];exact h)
theorem ArgV.clo {fn:FuncId} {l l':List D} (h:ArgVL lend L ns ks ρ H l l'):ArgV lend L ns ks ρ H (.clo fn l) (.clo fn l'):=fun H1 hH S E a w Z i v hF hL hv=>by
 cases hv with | clo _ _ vs _ hl hr=>exact .clo _ fn vs _ (hl.trans h.len) (fun j hj=>h.at j H1 hH S E a w Z i _ hF hL (hr j (by rw [h.len];exact hj)))
theorem ArgV.cvt {d d1 d2:D} (h:ArgV lend L ns ks ρ H d d1) (k:Cvt d1 d2):ArgV lend L ns ks ρ H d d2:=fun H1 hH S E a w Z i v hF hL hv=>k.cv (ZL.sub hF.zsub) (h H1 hH S E a w Z i v hF hL hv)
def outL (ρ:Nat→Nat):Hs→List (Nat × Option Box)
 | []=>[]
 | (k,B)::l=>(ρ k,some (B.ren ρ))::outL ρ l
theorem outL_get {ρ:Nat→Nat} {H:Nat→Option Box}:∀ {hs:Hs} {x:Nat},(∀ k,k∈hs.keys→ρ k≠x)→updH H (outL ρ hs) x=H x
 | [],x,_=>rfl
 | (k,B)::l,x,h=>by
  simp only [outL,updH]
  rw [if_neg (h k (by simp [Hs.keys])),outL_get (fun k' hk'=>h k' (by simp [Hs.keys] at hk' ⊢;exact .inr hk'))]
theorem outL_some {ρ:Nat→Nat} {H:Nat→Option Box}:∀ {hs:Hs} {x:Nat},(∃ k,k∈hs.keys∧ρ k=x)→∃ k B,(k,B)∈hs∧ρ k=x∧updH H (outL ρ hs) x=some (B.ren ρ)
 | [],x,⟨k,hk,_⟩=>by simp [Hs.keys] at hk
 | (k,B)::l,x,⟨k',hk',e⟩=>by
  by_cases q:ρ k=x
  ·exact ⟨k,B,by simp,q,by simp only [outL,updH];rw [if_pos q]⟩
  ·have:k'∈Hs.keys l:=by
    simp [Hs.keys] at hk' ⊢
    rcases hk' with rfl | h
    ·exact absurd e q
    ·exact h
   obtain ⟨k2,B2,h1,h2,h3⟩:=outL_some (H:=H) ⟨k',this,e⟩
   exact ⟨k2,B2,by simp [h1],h2,by simp only [outL,updH];rw [if_neg q];exact h3⟩
def injB (ρ:Nat→Nat):List Nat→Bool
 | []=>true
 | k::l=>(l.all fun k'=> !Nat.beq (ρ k') (ρ k)) && injB ρ l
theorem injB_spec {ρ:Nat→Nat}:∀ {l:List Nat},injB ρ l=true→∀ k k',k∈l→k'∈l→ρ k=ρ k'→k=k'
 | [],_,k,k',hk,_,_=>by cases hk
 | x::l,h,k,k',hk,hk',e=>by
  simp only [injB,Bool.and_eq_true,List.all_eq_true] at h
  have no:∀ y,y∈l→ρ y=ρ x→False:=fun y hy e=>by
   have:=h.1 y hy
   rw [e] at this
   simp at this
  rcases List.mem_cons.1 hk with q | q<;>rcases List.mem_cons.1 hk' with q' | q'
  ·exact q.trans q'.symm
  ·exact (no k' q' (by rw [← q];exact e.symm)).elim
  ·exact (no k q (by rw [← q'];exact e)).elim
  ·exact injB_spec h.2 k k' q q' e
theorem keys_app (a b:Hs):Hs.keys (a++b)=a.keys++b.keys:=by simp [Hs.keys]
theorem loc_call {f : FuncId} {fn : Func} {x : Operand} {xs : List Operand} {ts : Array TypeId} {ds ads caps : List D} {hs hs' rs : Hs} {r d0 : D} (ho : o.op = .call { callee := .value x, args := xs.toArray, argTypes := ts }) (hd : dstLt o N = true) [hf : FI P f fn]
  (hx : Opd E x d0) (hcl : (d0 = .val (.func (.func f) #[] #[]) ∧ caps = []) ∨ d0 = .clo f caps) (ha : OpdL E xs ads) (hden : DenH P f ds hs r hs' rs) (hv : ArgVL lend (hs.keys.map ρ) ns hs.keys ρ H (ads ++ caps) ds)
  [hod : OldDL ds] [hob : AllOld hs] (hH : ∀ k B, (k, B) ∈ hs → H (ρ k) = some B) (hns : ∀ k, k ∈ hs.keys → ρ k ∈ ns) (hkeys : hs'.keys = hs.keys) (hinj : injB ρ (hs.keys ++ rs.keys) = true) (hle : lend = true → NewD r ∧ AllNew (hs' ++ rs)) :
  Loc P N o E H ⟨ns, o.dst, r.ren ρ, outL ρ (hs' ++ rs), rs.keys.map ρ⟩ := by
 refine ⟨rfl, by simp [ho], fun E1 H1 h1 h2 h3 S a w hN hR K Q _ hK => ?_⟩
 obtain ⟨Z, i, hF⟩ := hR
 have hops : o.op.operands = #[x] ++ xs.toArray := by simp [ho, Op.operands, Call.operands]
 have e1 := hF.opd (Opd.agree (x := x) (by simp [hops]) h1 hx)
 have hlen := ha.len
 have hasr : ∀ j, j < ads.length → Rep Z w i ((xs.map a.eval).getD j undef) (dl ads j) := fun j hj => by
  have hj' : j < xs.length := by omega
  have := hF.opd (Opd.agree (x := xs[j]) (by rw [hops]; simp) h1 (ha.at j _ (List.getElem?_eq_getElem hj')))
  rw [List.getD_eq_getElem?_getD, List.getElem?_map, List.getElem?_eq_getElem hj']
  exact this
 -- the function's value, and what it captured
 have hfun : ∃ cv : List Value, a.eval x = .func (.func f) #[] cv.toArray ∧ cv.length = caps.length ∧ ∀ j, j < caps.length → Rep Z w i (cv.getD j undef) (dl caps j) := by
  rcases hcl with ⟨rfl, rfl⟩ | rfl
  ·exact ⟨[], e1.valEq, rfl, fun j hj => by simp at hj⟩
  ·generalize hq : a.eval x = v at e1
   cases e1 with | clo _ _ vs _ hl hr => exact ⟨vs, rfl, hl, hr⟩
 obtain ⟨cv, c1, c2, c3⟩ := hfun
 have hrun : (execOp a.eval o).run P w = .ok (.enter f (xs.map a.eval ++ cv).toArray) w := by
  have h3 := hf.enters ((xs.map a.eval).toArray ++ cv.toArray) w
  simp only [execOp, ho, resolve, c1, Deferred.ofValue]
  simp [invoke, Result.andThen] at h3 ⊢
  exact h3
 have hLm : ∀ k, k ∈ hs.keys.map ρ → ∃ B, H1 k = some B ∧ B.mut = true := fun k hk => by
  obtain ⟨k', hk', rfl⟩ := List.mem_map.1 hk
  obtain ⟨⟨k2, B⟩, hm, rfl⟩ := List.mem_map.1 hk'
  exact ⟨B, (h2 _ (hns k2 hk')).trans (hH k2 B hm), (hob.od k2 B hm).2.1⟩
 obtain ⟨ic, hic⟩ : ∃ ic : Nm, (fun k => if k ∈ hs.keys then i (ρ k) else none) = ic := ⟨_, rfl⟩
 have hic1 : ∀ k, k ∈ hs.keys → ic k = i (ρ k) := fun k hk => by rw [← hic]; exact if_pos hk
 have hic2 : ∀ k, k ∉ hs.keys → ic k = none := fun k hk => by rw [← hic]; exact if_neg hk
 have hinj' := injB_spec hinj
 let Zc : Nat → Prop := ZL lend (hs.keys.map ρ) Z i w true
 have hsub := ZL.sub (lend := lend) (L := hs.keys.map ρ) (i := i) (w := w) hF.zsub
 have hZc : ∀ b, Zc b → b < w.heap.size := fun b hb => by
  rcases hb with q | ⟨_, _, q, _⟩
  ·exact (hF.zOld b q).1
  ·exact q
 have hbox : ∀ k B, (k, B) ∈ hs → BoxHas (fun o b => o = true ∧ Zc b) w ic k B := fun k B hm => by
  have hkk : k ∈ hs.keys := List.mem_map.2 ⟨_, hm, rfl⟩
  have q3 := (h2 _ (hns k hkk)).trans (hH k B hm)
  obtain ⟨g1, g2, g3, g4⟩ := hob.od k B hm
  refine ⟨g2, ?_⟩
  rw [hic1 k hkk]
  rcases hF.box _ B q3 with ⟨b, c, p1, _, p3, _, p5⟩ | ⟨p1, p2⟩
  ·refine .inl ⟨b, c, p1, fun x hf hz => ?_, g1.od (fun b hb => ⟨rfl, .inl hb⟩) ((noN_bx p5 g3).ext (fun k x e => by cases e))⟩
   obtain ⟨cp, e⟩ := hf.flat g4
   rw [p1] at e; cases e
   rcases hz.2 with hz | ⟨_, _, _, hz⟩
   ·exact (p3 g2).1 hz
   ·exact hz _ c (List.mem_map.2 ⟨k, hkk, rfl⟩) p1
  ·refine .inr ⟨p1, ?_⟩
   rcases p2 with rfl | ⟨t, m, f, p2 | rfl⟩ | p2
   ·cases g2
   ·exact .inl ⟨t, m, f, p2⟩
   ·cases g2
   ·exact .inr p2
 have hkeyBox : ∀ k, k ∈ hs.keys → ∃ B, (k, B) ∈ hs ∧ H1 (ρ k) = some B ∧ B.mut = true := fun k hk => by
  obtain ⟨⟨k2, B⟩, hm, rfl⟩ := List.mem_map.1 hk
  exact ⟨B, hm, (h2 _ (hns k2 hk)).trans (hH k2 B hm), (hob.od k2 B hm).2.1⟩
 have hHs : HsAt (fun o b => o = true ∧ Zc b) w ic hs := ⟨hbox, fun k k' B B' b hm hm' f1 f2 => by
  have hk : k ∈ hs.keys := List.mem_map.2 ⟨_, hm, rfl⟩
  have hk' : k' ∈ hs.keys := List.mem_map.2 ⟨_, hm', rfl⟩
  obtain ⟨c, p1⟩ := f1.flat (hob.od k B hm).2.2.2
  obtain ⟨c', p2⟩ := f2.flat (hob.od k' B' hm').2.2.2
  obtain ⟨B1, _, g1, g2⟩ := hkeyBox k hk
  obtain ⟨B1', _, g1', g2'⟩ := hkeyBox k' hk'
  rw [hic1 k hk] at p1
  rw [hic1 k' hk'] at p2
  exact hinj' k k' (List.mem_append_left _ hk) (List.mem_append_left _ hk') (hF.injR _ _ B1 B1' b c c' g1 g1' g2 g2' p1 p2)⟩
 have hargs : RepsI (fun o b => o = true ∧ Zc b) w ic (xs.map a.eval ++ cv) ds := by
  have hl := hv.len
  refine ⟨by simp at hl ⊢; omega, fun j hj => ?_⟩
  have hr : Rep Z w i ((xs.map a.eval ++ cv).getD j undef) (dl (ads ++ caps) j) := by
   rw [List.getD_eq_getElem?_getD, dl_eq, List.getD_eq_getElem?_getD]
   by_cases q : j < ads.length
   ·have := hasr j q
    rw [List.getD_eq_getElem?_getD, dl_eq, List.getD_eq_getElem?_getD] at this
    rw [List.getElem?_append_left (by simpa [hlen] using q), List.getElem?_append_left q]
    exact this
   ·have := c3 (j - ads.length) (by simp at hl; omega)
    rw [List.getD_eq_getElem?_getD, dl_eq, List.getD_eq_getElem?_getD] at this
    rw [List.getElem?_append_right (by simp [hlen]; omega), List.getElem?_append_right (by omega)]
    simpa [hlen] using this
  have := hv.at j H1 h2 S E1 a w Z i _ hF hLm hr
  rw [hic] at this
  exact (hod.od j).od (fun b hb => ⟨rfl, hb⟩) this
 unfold Oper.wp
 rw [hrun]
 refine (hden Zc w ic _ hZc hic2 hHs hargs).mono (fun e w' ⟨v, i', Zn', p0, p1, p2, p3, p4, p5, pfl, p6, p7⟩ => ?_)
 subst p0
 have hne : ∀ b k B c, H1 k = some B → B.mut = true → i k = some (some (b, c)) → ¬ Z true b := fun b k B c q1 q2 q3 => by
  rcases hF.box k B q1 with ⟨b', c', e1, _, e3, _⟩ | ⟨e1, _⟩
  ·rw [q3] at e1; cases e1; exact (e3 q2).1
  ·rw [q3] at e1; cases e1
 have hltb : ∀ b k B c, H1 k = some B → i k = some (some (b, c)) → b < w.heap.size := fun b k B c q1 q3 => by
  rcases hF.box k B q1 with ⟨b', c', e1, _, _, _, e3⟩ | ⟨e1, _⟩
  ·rw [q3] at e1; cases e1; exact e3.lt
  ·rw [q3] at e1; cases e1
 -- the caller's names behind the call
 obtain ⟨i2, hi2⟩ : ∃ i2 : Nm, ∀ x, (∀ k, k ∈ rs.keys → ρ k = x → i2 x = i' k) ∧ ((∀ k, k ∈ rs.keys → ρ k ≠ x) → i2 x = i x) := by
  classical
  refine ⟨fun x => if h : ∃ k, k ∈ rs.keys ∧ ρ k = x then i' (Classical.choose h) else i x, fun x => ⟨fun k hk e => ?_, fun h => ?_⟩⟩
  ·have h : ∃ k, k ∈ rs.keys ∧ ρ k = x := ⟨k, hk, e⟩
   show dite _ _ _ = _
   rw [dif_pos h]
   have := Classical.choose_spec h
   rw [hinj' _ k (List.mem_append_right _ this.1) (List.mem_append_right _ hk) (this.2.trans e.symm)]
  ·show dite _ _ _ = _
   rw [dif_neg (fun ⟨k, hk, e⟩ => h k hk e)]
 have hrsf : ∀ k, k ∈ rs.keys → H1 (ρ k) = none ∧ 1000 ≤ ρ k := fun k hk => h3 _ (List.mem_map.2 ⟨k, hk, rfl⟩)
 have hdisj : ∀ k k', k ∈ hs.keys → k' ∈ rs.keys → ρ k' ≠ ρ k := fun k k' hk hk' e => by
  obtain ⟨B, _, q, _⟩ := hkeyBox k hk
  rw [← e, (hrsf k' hk').1] at q; cases q
 have hi2h : ∀ k, k ∈ hs.keys → i2 (ρ k) = i' k := fun k hk => by
  rw [(hi2 (ρ k)).2 (fun k' hk' => hdisj k k' hk hk'), p3 k hk, hic1 k hk]
 have hi2r : ∀ k, k ∈ rs.keys → i2 (ρ k) = i' k := fun k hk => (hi2 (ρ k)).1 k hk rfl
 have hi2a : ∀ k, k ∈ (hs' ++ rs).keys → i2 (ρ k) = i' k := fun k hk => by
  rw [keys_app, List.mem_append, hkeys] at hk
  exact hk.elim (hi2h k) (hi2r k)
 have hinj2 : ∀ k k', k ∈ (hs' ++ rs).keys → k' ∈ (hs' ++ rs).keys → ρ k = ρ k' → k = k' := by
  rw [keys_app, hkeys]; exact hinj'
 have hH2 : ∀ x, (∀ k, k ∈ (hs' ++ rs).keys → ρ k ≠ x) → updH H1 (outL ρ (hs' ++ rs)) x = H1 x := fun x h => outL_get h
 have hH3 : ∀ x C, (∃ k, k ∈ (hs' ++ rs).keys ∧ ρ k = x) → updH H1 (outL ρ (hs' ++ rs)) x = some C → ∃ k B, k ∈ (hs' ++ rs).keys ∧ ρ k = x ∧ (k, B) ∈ hs' ++ rs ∧ C = B.ren ρ := fun x C hx hB => by
  obtain ⟨k, B', q1, q2, q3⟩ := outL_some (H := H1) hx
  rw [q3] at hB; cases hB
  exact ⟨k, B', List.mem_map.2 ⟨_, q1, rfl⟩, q2, q1, rfl⟩
 have hnz : ∀ b, Zn' b → ¬ Z true b := fun b hb hz => by have := (p2 b hb).1; have := (hF.zOld b hz).1; omega
 have hsz := hF.kept.size
 obtain ⟨Z3, hZ3⟩ : ∃ Z3 : Zn, (fun o b => Z o b ∨ Zn' b) = Z3 := ⟨_, rfl⟩
 have hZ3i : ∀ o b, Z3 o b ↔ (Z o b ∨ Zn' b) := fun o b => by rw [← hZ3]
 -- data of the callee's are the caller's
 have hup : ∀ {d : D} {v : Value} {j : Nm}, (lend = true → NewD d) → Rep (Z2 Zc Zn') w' j v d → Rep Z3 w' j v d := fun hn hr => by
  cases hlb : lend with
  | true =>
   exact (hn hlb).nw (fun b hb => (hZ3i _ _).2 (.inr hb)) hr
  | false =>
   refine hr.mem (fun o b hz => ⟨(hZ3i _ _).2 ?_, rfl⟩)
   cases o with
   | false => exact .inr hz
   | true =>
    rcases hz with (hz | ⟨q, _⟩) | hz
    ·exact .inl hz
    ·rw [hlb] at q; cases q
    ·exact .inr hz
 have hupB : ∀ {B : Box} {j : Nm} {b : Nat} {cap : Cp}, (lend = true → NewB B) → BoxAt (Z2 Zc Zn') w' j b cap B → BoxAt Z3 w' j b cap B := fun {B j b cap} hn hr => by
  cases hlb : lend with
  | true => exact (hn hlb).nw (fun b hb => (hZ3i _ _).2 (.inr hb)) hr
  | false =>
   refine hr.mem (Nat.le_refl _) (fun _ _ => rfl) (fun o b hz => ⟨(hZ3i _ _).2 ?_, rfl⟩)
   cases o with
   | false => exact .inr hz
   | true =>
    rcases hz with (hz | ⟨q, _⟩) | hz
    ·exact .inl hz
    ·rw [hlb] at q; cases q
    ·exact .inr hz
 have hi2n : ∀ k x, i' k = some x → i2 (ρ k) = some x := fun k x e => by
  by_cases hk : k ∈ (hs' ++ rs).keys
  ·rw [hi2a k hk]; exact e
  ·rw [keys_app, List.mem_append, hkeys, not_or] at hk
   rw [p4 k hk.1 hk.2] at e; cases e
 -- where a block of what the call leaves comes from
 have horg : ∀ k B b, (k, B) ∈ hs' ++ rs → Foot B (i' k) b → ((k, B) ∈ rs ∧ w.heap.size ≤ b) ∨ (k ∈ hs.keys ∧ ∃ B0 c, H1 (ρ k) = some B0 ∧ B0.mut = true ∧ i (ρ k) = some (some (b, c))) := fun k B b hm hf => by
  rcases List.mem_append.1 hm with q | q
  ·have hk : k ∈ hs.keys := by rw [← hkeys]; exact List.mem_map.2 ⟨_, q, rfl⟩
   obtain ⟨c, e⟩ := hf.flat (pfl k B q)
   rw [p3 k hk, hic1 k hk] at e
   obtain ⟨B0, _, g1, g2⟩ := hkeyBox k hk
   exact .inr ⟨hk, B0, c, g1, g2, e⟩
  ·exact .inl ⟨q, p5 k B b q hf⟩
 have hbxo : ∀ x C, (∃ k, k ∈ (hs' ++ rs).keys ∧ ρ k = x) → updH H1 (outL ρ (hs' ++ rs)) x = some C → BoxOk S Z3 w' i2 x C := fun x C hx hB => by
  obtain ⟨k, B, q1, q2, q3, rfl⟩ := hH3 x C hx hB
  obtain ⟨m1, m2⟩ := p6.1 k B q3
  subst q2
  rcases m2 with ⟨b, cap, m2, m3, m4⟩ | ⟨m2, m3⟩
  ·have ho := horg k B b q3 (.root m2)
   refine .inl ⟨b, cap, (hi2a k q1).trans m2, ?_, fun _ => ⟨fun hz => ?_, ?_⟩, fun hi => (by rw [Box.ren_ice] at hi; cases B <;> simp [Box.mut, Box.isIce] at m1 hi), (hupB (fun hl => (hle hl).2.nw k B q3) m4).ren hi2n⟩
   ·rcases ho with ⟨_, q⟩ | ⟨_, B0, c, g1, g2, e⟩
    ·exact .inl (by omega)
    ·rcases hF.box _ B0 g1 with ⟨b', c', e1, e2, _⟩ | ⟨e1, _⟩
     ·rw [e] at e1; cases e1; exact e2
     ·rw [e] at e1; cases e1
   ·rcases (hZ3i _ _).1 hz with hz | hz
    ·rcases ho with ⟨_, q⟩ | ⟨_, B0, c, g1, g2, e⟩
     ·have := (hF.zOld b hz).1
      omega
     ·exact hne b _ B0 c g1 g2 e hz
    ·exact m3 b (.root m2) (.inr hz)
   ·rcases ho with ⟨_, q⟩ | ⟨_, B0, c, g1, g2, e⟩
    ·have := hF.kept1.size; exact .inl (by omega)
    ·rcases hF.box _ B0 g1 with ⟨b', c', e1, _, e3, _⟩ | ⟨e1, _⟩
     ·rw [e] at e1; cases e1; exact (e3 g2).2
     ·rw [e] at e1; cases e1
  ·exact .inr ⟨(hi2a k q1).trans m2, .inr (by
    rcases m3 with ⟨t, m, f, rfl⟩ | ⟨t, t2, m2, n2, g, rfl⟩
    ·exact .inl ⟨t, m, f, .inl rfl⟩
    ·exact .inr ⟨t, t2, m2, n2, g, rfl⟩)⟩
 have hft : ∀ x C b, (∃ k, k ∈ (hs' ++ rs).keys ∧ ρ k = x) → updH H1 (outL ρ (hs' ++ rs)) x = some C → Foot C (i2 x) b → ∃ k B, (k, B) ∈ hs' ++ rs ∧ ρ k = x ∧ Foot B (i' k) b := fun x C b hx hC hf => by
  obtain ⟨k, B, q1, q2, q3, rfl⟩ := hH3 x C hx hC
  subst q2
  rw [hi2a k q1] at hf
  exact ⟨k, B, q3, rfl, hf.unren⟩
 have hF2 : Fits S E1 (updH H1 (outL ρ (hs' ++ rs))) Z3 i2 a w' := by
  refine hF.step (fun x => ∃ k, k ∈ (hs' ++ rs).keys ∧ ρ k = x) ⟨p1.os, p1.tape, p1.output, p1.size⟩ (fun b hb hn => ?_) (fun x hx => ?_) (fun x hx => hH2 x (fun k hk e => hx ⟨k, hk, e⟩)) (fun x hx e => ?_) (fun x hx e => ?_) (fun x hx e => ?_) (fun o b hb => (hZ3i _ _).2 (.inl hb)) (fun b hb => ?_) (fun b hb => ?_) hbxo (fun x C b hx hC hm hf => ?_) (fun x x' C C' b hx hx' h1' h2' _ _ f1 f2 => ?_)
  ·refine p1.block b hb (fun ⟨k, c, hk, e⟩ => ?_)
   obtain ⟨B, _, g1, g2⟩ := hkeyBox k hk
   rw [hic1 k hk] at e
   exact hn (ρ k) B ⟨k, by rw [keys_app, List.mem_append, hkeys]; exact .inl hk, rfl⟩ g1 g2 (.root e)
  ·exact (hi2 x).2 (fun k hk e => hx (e ▸ (hrsf k hk).1))
  ·obtain ⟨k, B, q1, q2, q3⟩ := outL_some (H := H1) hx
   rw [q3] at e; cases e
  ·rw [(hi2 x).2 (fun k hk e' => hx ⟨k, by rw [keys_app, List.mem_append]; exact .inr hk, e'⟩)]
   exact hF.nil x e
  ·rw [(hi2 x).2 (fun k hk e' => by have := (hrsf k hk).2; omega)]
   exact hF.nil x e
  ·rcases (hZ3i _ _).1 hb with q | q
   ·exact .inl q
   ·refine .inr ⟨(p2 b q).2, by have := (p2 b q).1; omega, .inl (p2 b q).1, fun x C hx hC hm hf => ?_⟩
    obtain ⟨k, B, q3, _, hf'⟩ := hft x C b hx hC hf
    obtain ⟨_, ⟨b', cap, m2, m3, _⟩ | ⟨m2, _⟩⟩ := p6.1 k B q3
    ·exact m3 b hf' (.inr q)
    ·obtain ⟨_, _, e, _⟩ := hf'
     rw [m2] at e; cases e
  ·rcases (hZ3i _ _).1 hb with q | q
   ·exact ⟨(hZ3i _ _).2 (.inl (hF.zsub b q)), hF.zNew b q⟩
   ·exact ⟨(hZ3i _ _).2 (.inr q), by have := (p2 b q).1; omega⟩
  ·obtain ⟨k, B, q3, rfl, hf'⟩ := hft x C b hx hC hf
   rcases horg k B b q3 hf' with ⟨_, q⟩ | ⟨hk', B0, c, g1, g2, e⟩
   ·refine .inl ⟨q, ?_⟩
    obtain ⟨_, ⟨b', cap, m2, _, m4⟩ | ⟨m2, _⟩⟩ := p6.1 k B q3
    ·exact m4.footLt (m2 ▸ hf')
    ·obtain ⟨_, _, e, _⟩ := hf'
     rw [m2] at e; cases e
   ·exact .inr ⟨ρ k, B0, hx, fun h _ => ⟨h, c, by rw [hi2h k hk', p3 k hk', hic1 k hk']; exact e⟩, g1, g2, .root e⟩
  ·obtain ⟨k, B, q3, rfl, f1'⟩ := hft x C b hx h1' f1
   obtain ⟨k', B', q3', rfl, f2'⟩ := hft x' C' b hx' h2' f2
   rw [p6.2 k k' B B' b q3 q3' f1' f2']
 refine hK _ _ ⟨Z3, i2, hF2.put (by rw [hN]; exact dstLt_spec hd) ((hup (fun hl => (hle hl).1) p7).rename hi2n)⟩
end


def SlotCv (H:Nat→Option Box) (d d':D):Prop:=∀ S E a w Z i v,Fits S E H Z i a w→Rep Z w i v d→Rep Z w i v d'
theorem SlotCv.refl {H:Nat→Option Box} (d:D):SlotCv H d d:=fun _ _ _ _ _ _ _ _ h=>h
theorem SlotCv.any {H:Nat→Option Box} (d:D):SlotCv H d .any:=fun _ _ _ _ _ _ _ _ _=>.any _ _
theorem SlotCv.cvt {H:Nat→Option Box} {d d':D} (h:Cvt d d'):SlotCv H d d':=fun _ _ _ _ _ _ _ hF hv=>h.cv hF.zsub hv
theorem SlotCv.eq {H:Nat→Option Box} {d d':D} (h:d=d'):SlotCv H d d':=h ▸ .refl d
theorem SlotCv.trans {H:Nat→Option Box} {a b c:D} (h:SlotCv H a b) (k:SlotCv H b c):SlotCv H a c:=fun S E x w Z i v hF hv=>k S E x w Z i v hF (h S E x w Z i v hF hv)
theorem SlotCv.ice {H:Nat→Option Box} {ns:List Nat} {d d':D} (h:CvV false [] ns H d d'):SlotCv H d d':=fun S E a w Z i v hF hv=>by
 refine ((h H (fun _ _=>rfl) S E a w Z i v hF (fun k hk=>by cases hk) hv).mem (Z':=Z) (fun o b hz=>⟨?_,rfl⟩)).of_noN
 rcases hz with q | ⟨q,_⟩
 ·exact q
 ·cases q
inductive EnvCv (H:Nat→Option Box) (env:List (Nat × D)):List (Nat × D)→Prop where
 | nil:EnvCv H env []
 | cons {t:Nat} {d:D} {l:List (Nat × D)} (h:SlotCv H (lk env t) d) (k:EnvCv H env l):EnvCv H env ((t,d)::l)
theorem EnvCv.at {H:Nat→Option Box} {env env':List (Nat × D)} (h:EnvCv H env env') (t:Nat):SlotCv H (lk env t) (lk env' t):=by
 induction h with
 | nil=>exact .any _
 | @cons s d l h k ih=>
  simp only [lk]
  by_cases q:s=t
  ·subst q;simpa using h
  ·rw [beq_ne q];exact ih
inductive SlotCvL (H:Nat→Option Box):List D→List D→Prop where
 | nil:SlotCvL H [] []
 | cons {d d':D} {l l':List D} (h:SlotCv H d d') (k:SlotCvL H l l'):SlotCvL H (d::l) (d'::l')
theorem SlotCvL.len {H:Nat→Option Box} {l l':List D} (h:SlotCvL H l l'):l.length=l'.length:=by induction h with | nil=>rfl | cons _ _ ih=>simp [ih]
theorem SlotCvL.at {H:Nat→Option Box} {l l':List D} (h:SlotCvL H l l'):∀ j,SlotCv H (dl l j) (dl l' j):=by
 induction h with
 | nil=>intro j;exact .refl _
 | cons h _ ih=>intro j;cases j with
  | zero=>exact h
  | succ j=>exact ih j
inductive BoxCv (H:Nat→Option Box):Option Box→Box→Prop where
 | refl (B:Box):BoxCv H (some B) B
 | gone (B:Box):BoxCv H (some B) .gone
 | arr {t:TypeId} {n n' m:Nat} {f f':Nat→List D} (hn:n'≤n) (h:∀ e,e<n'→(f' e).length=m∧∀ c,c<m→Cvt (dl (f e) c) (dl (f' e) c)):BoxCv H (some (.arr t n m f)) (.arr t n' m f')
 | ice {t:TypeId} {n n' m:Nat} {f f':Nat→List D} (hn:n'≤n) (h:∀ e,e<n'→(f' e).length=m∧∀ c,c<m→Cvt (dl (f e) c) (dl (f' e) c)):BoxCv H (some (.ice t n m f)) (.ice t n' m f')
 | mat {t t2:TypeId} {nb n m2 n2:Nat} {g g':Nat→Nat→List D} (h:∀ e,e<n→∀ x,x<n2→(g' e x).length=m2∧∀ c,c<m2→Cvt (dl (g e x) c) (dl (g' e x) c)):BoxCv H (some (.mat t t2 nb n m2 n2 g)) (.mat t t2 nb n m2 n2 g')
 | lit {t:TypeId} {l l':List D} (h:SlotCvL H l l'):BoxCv H (some (.lit t l)) (.lit t l')
inductive BoxesCv (H:Nat→Option Box) (box:List (Nat × Option Box)):List (Nat × Option Box)→Prop where
 | nil:BoxesCv H box []
 | cons {k:Nat} {B:Box} {l:List (Nat × Option Box)} (h:BoxCv H (hk box k) B) (r:BoxesCv H box l):BoxesCv H box ((k,some B)::l)
section
variable {ro:Option Nat} {P:Program} {N:Nat} {Q:Post} {c:Code} {S:Cx} {E:Nat→D} {H:Nat→Option Box} {Z:Zn} {i i':Nm} {a:Act} {w:World} {env env':List (Nat × D)} {box box':List (Nat × Option Box)}
theorem ArrAt.cvt {b cap:Nat} {t:TypeId} {n n' m:Nat} {f f':Nat→List D} (hz:∀ b,Z false b→Z true b) (h:ArrAt Z w b cap t n m f) (hn:n'≤n) (hf:∀ e,e<n'→(f' e).length=m∧∀ c,c<m→Cvt (dl (f e) c) (dl (f' e) c)):ArrAt Z w b cap t n' m f':=by
 obtain ⟨cs,h1,h2,h3,h4,h5⟩:=h
 exact ⟨cs,h1,h2,by omega,fun e he=>(hf e he).1,fun e c he hc=>⟨(h5 e c (by omega) hc).1,((hf e he).2 c hc).cv hz (h5 e c (by omega) hc).2⟩⟩
theorem BoxCv.ok (hF:Fits S E H Z i a w) {k:Nat} {B:Box} {p:Nat→Bool} (h:BoxCv H (H k) B) (hp:B.free p=true) (hi:∀ k x,p k=true→i k=some x→i' k=some x) (hk:i' k=i k):BoxOk S Z w i' k B:=by
 generalize hq:H k=oB at h
 cases h with
 | refl B=>
  rcases hF.box k B hq with ⟨b,cap,e1,e2,e3,e4,e5⟩ | ⟨e1,e2⟩
  ·exact .inl ⟨b,cap,hk.trans e1,e2,e3,e4,e5.nm hp hi⟩
  ·exact .inr ⟨hk.trans e1,e2⟩
 | gone B=>
  rcases hF.box k B hq with ⟨b,cap,e1,e2,e3,e4,e5⟩ | ⟨e1,e2⟩
  ·exact .inl ⟨b,cap,hk.trans e1,e2,fun h=>(by cases h),fun h=>(by cases h),e5.lt⟩
  ·exact .inr ⟨hk.trans e1,.inl rfl⟩
 | @arr t n n' m f f' hn h=>
  rcases hF.box k _ hq with ⟨b,cap,e1,e2,e3,e4,e5⟩ | ⟨e1,e2⟩
  ·exact .inl ⟨b,cap,hk.trans e1,e2,e3,fun h=>(by cases h),ArrAt.cvt hF.zsub e5 hn h⟩
  ·rcases e2 with e2 | ⟨t',m',f2,e2 | e2⟩ | ⟨_,_,_,_,_,e2⟩
   ·cases e2
   ·cases e2
    obtain rfl:n'=0:=by omega
    exact .inr ⟨hk.trans e1,.inr (.inl ⟨_,_,_,.inl rfl⟩)⟩
   ·cases e2
   ·cases e2
 | @ice t n n' m f f' hn h=>
  rcases hF.box k _ hq with ⟨b,cap,e1,e2,e3,e4,e5⟩ | ⟨e1,e2⟩
  ·exact .inl ⟨b,cap,hk.trans e1,e2,fun h=>(by cases h),e4,e5.imp fun _ e5=>ArrAt.cvt hF.zsub e5 hn h⟩
  ·rcases e2 with e2 | ⟨t',m',f2,e2 | e2⟩ | ⟨_,_,_,_,_,e2⟩
   ·cases e2
   ·cases e2
   ·cases e2
    obtain rfl:n'=0:=by omega
    exact .inr ⟨hk.trans e1,.inr (.inl ⟨_,_,_,.inr rfl⟩)⟩
   ·cases e2
 | @mat t t2 nb n m2 n2 g g' h=>
  rcases hF.box k _ hq with ⟨b,cap,e1,e2,e3,e4,e5⟩ | ⟨e1,e2⟩
  ·exact .inl ⟨b,cap,hk.trans e1,e2,e3,fun h=>(by cases h),MatAt.map e5 rfl (fun e x c he hx ⟨cs,f1,f2,f3,f4,f5⟩=>⟨cs,f1,f2,f3,fun y hy=>(h e he y hy).1,fun y c hy hc=>⟨(f5 y c hy hc).1,((h e he y hy).2 c hc).cv hF.zsub (f5 y c hy hc).2⟩⟩)⟩
  ·rcases e2 with e2 | ⟨t',m',f2,e2 | e2⟩ | ⟨_,_,_,_,_,e2⟩
   ·cases e2
   ·cases e2
   ·cases e2
   ·cases e2
    exact .inr ⟨hk.trans e1,.inr (.inr ⟨_,_,_,_,_,rfl⟩)⟩
 | @lit t l l' h=>
  rcases hF.box k _ hq with ⟨b,cap,e1,e2,e3,e4,cs,f1,f2,f3⟩ | ⟨e1,e2⟩
  ·refine .inl ⟨b,cap,hk.trans e1,e2,e3,fun h=>(by cases h),BoxAt.nm (B:=.lit t l') ⟨cs,f1,f2.trans h.len,fun j hj=>⟨(f3 j (by rw [h.len];exact hj)).1,h.at j S E a w Z i _ hF (f3 j (by rw [h.len];exact hj)).2⟩⟩ hp hi⟩
  ·rcases e2 with e2 | ⟨t',m',f2,e2 | e2⟩ | ⟨_,_,_,_,_,e2⟩<;>cases e2
def boxFree (p:Nat→Bool):List (Nat × Option Box)→Bool
 | []=>true
 | (_,some B)::l=>B.free p && boxFree p l
 | (_,none)::_=>false
def envFree (p:Nat→Bool):List (Nat × D)→Bool
 | []=>true
 | (_,d)::l=>d.free p && envFree p l
theorem envFree_at {p:Nat→Bool}:∀ {l:List (Nat × D)},envFree p l=true→∀ t,(lk l t).free p=true
 | [],_,t=>rfl
 | (s,d)::l,h,t=>by
  simp only [envFree,Bool.and_eq_true] at h
  simp only [lk]
  by_cases q:s=t
  ·subst q;simpa using h.1
  ·rw [beq_ne q];exact envFree_at h.2 t
theorem boxFree_at {p:Nat→Bool}:∀ {l:List (Nat × Option Box)},boxFree p l=true→∀ k B,hk l k=some B→B.free p=true
 | [],_,k,B,h=>by cases h
 | (s,some C)::l,h,k,B,hB=>by
  simp only [boxFree,Bool.and_eq_true] at h
  simp only [hk] at hB
  by_cases q:s=k
  ·subst q;simp at hB;subst hB;exact h.1
  ·rw [beq_ne q] at hB;exact boxFree_at h.2 k B hB
theorem BoxesCv.at (h:BoxesCv H box box') {k:Nat} {B:Box} (hB:hk box' k=some B):BoxCv H (hk box k) B:=by
 induction h with
 | nil=>cases hB
 | @cons x C l h r ih=>
  simp only [hk] at hB
  by_cases q:x=k
  ·subst q;simp at hB;subst hB;exact h
  ·rw [beq_ne q] at hB;exact ih hB
theorem BoxCv.mut {oB:Option Box} {B:Box} (h:BoxCv H oB B) (hm:B.mut=true):∃ B0,oB=some B0∧B0.mut=true:=by
 cases h with
 | refl=>exact ⟨_,rfl,hm⟩
 | gone=>cases hm
 | arr=>exact ⟨_,rfl,rfl⟩
 | ice=>cases hm
 | mat=>exact ⟨_,rfl,rfl⟩
 | lit=>exact ⟨_,rfl,rfl⟩
theorem BoxCv.foot {oB:Option Box} {B B0:Box} (h:BoxCv H oB B) (hB:oB=Option.some B0) {x:Option (Option (Nat × Cp))} {b:Nat} (hf:Foot B x b):Foot B0 x b:=by
 cases h with
 | refl=>cases hB;exact hf
 | mat=>cases hB;exact hf
 | gone=>obtain ⟨cp,e⟩:=hf.flat rfl;exact .root e
 | arr=>obtain ⟨cp,e⟩:=hf.flat rfl;exact .root e
 | ice=>obtain ⟨cp,e⟩:=hf.flat rfl;exact .root e
 | lit=>obtain ⟨cp,e⟩:=hf.flat rfl;exact .root e
theorem BoxCv.some {oB:Option Box} {B:Box} (h:BoxCv H oB B):oB≠none:=by cases h<;>simp
theorem repS_weak (env':List (Nat × D)) (box':List (Nat × Option Box)) (hE:EnvCv (hk box) env env') (hB:BoxesCv (hk box) box box')
  (hf:(envFree (fun k=>(hk box' k).isSome) env' && boxFree (fun k=>(hk box' k).isSome) box')=true) (hlow:(box.all fun x=>Nat.ble 1000 x.1 || (hk box' x.1).isSome)=true) (hR:RepS S (lk env) (hk box) a w):RepS S (lk env') (hk box') a w:=by
 obtain ⟨Z,i,hF⟩:=hR
 rw [Bool.and_eq_true] at hf
 refine ⟨Z,fun k=>if (hk box' k).isSome then i k else none,?_⟩
 have hi:∀ k x,(hk box' k).isSome=true→i k=some x→(fun k=>if (hk box' k).isSome then i k else none) k=some x:=fun k x q e=>by simp only [q,if_true,e]
 have hlo:∀ k,k<1000→hk box' k=none→i k=none:=fun k hk1 hk2=>by
  refine hF.nil k ?_
  cases hq:hk box k with
  | none=>rfl
  | some B=>
   exfalso
   have:∀ (l:List (Nat × Option Box)),hk l k≠none→∃ B,(k,B)∈l:=by
    intro l
    induction l with
    | nil=>intro h;exact absurd rfl h
    | cons x l ih=>
     intro h
     obtain ⟨x1,x2⟩:=x
     by_cases q:x1=k
     ·subst q;exact ⟨x2,by simp⟩
     ·simp only [hk,beq_ne q] at h
      obtain ⟨B,hB⟩:=ih h
      exact ⟨B,by simp [hB]⟩
   obtain ⟨B',hm⟩:=this box (by rw [hq];simp)
   have:=List.all_eq_true.1 hlow _ hm
   simp only [hk2] at this
   simp at this
   omega
 refine { defers:=hF.defers,size:=hF.size,kept:=hF.kept,kept1:=hF.kept1,zk1:=hF.zk1,zsub:=hF.zsub,zOld:=hF.zOld,zNew:=hF.zNew,env:=fun t=>((hE.at t) S _ a w Z i _ hF (hF.env t)).nm (envFree_at hf.1 t) hi,box:=fun k B hkB=>?_,foot:=fun k B b hkB hm hf=>?_,nil:=fun k hk'=>?_,low:=fun k hk'=>?_,inj:=fun k k' B B' b h1 h2 m1 m2 e1 e2=>?_,plain:=hF.plain }
 ·have hs:(hk box' k).isSome=true:=by rw [hkB];rfl
  exact BoxCv.ok hF (hB.at hkB) (boxFree_at hf.2 k B hkB) hi (if_pos hs)
 ·obtain ⟨B0,q1,q2⟩:=(hB.at hkB).mut hm
  simp only [hkB,Option.isSome,if_true] at hf ⊢
  exact hF.foot k B0 b q1 q2 ((hB.at hkB).foot q1 hf)
 ·simp [hk']
 ·cases hq:hk box' k with
  | some B=>simp;exact hF.low k hk'
  | none=>simp;rw [← hF.low k hk'];exact (hlo k hk' hq).symm
 ·obtain ⟨B0,q1,q2⟩:=(hB.at h1).mut m1
  obtain ⟨B0',q1',q2'⟩:=(hB.at h2).mut m2
  simp only [h1,h2,Option.isSome,if_true] at e1 e2
  exact hF.inj k k' B0 B0' b q1 q1' q2 q2' ((hB.at h1).foot q1 e1) ((hB.at h2).foot q1' e2)
theorem sub_conv (t:Nat) (d:D) {d0:D} (ht:lk env t=d0) (hc:SlotCv (hk box) d0 d):Sub (lk env) (hk box) (lk ((t,d)::env)) (hk box):=fun S a w hR=>by
 obtain ⟨Z,i,hF⟩:=hR
 refine ⟨Z,i,{ hF with env:=fun s=>?_ }⟩
 simp only [lk]
 by_cases q:t=s
 ·subst q
  rw [show Nat.beq t t=true by simp]
  exact hc S _ a w Z i _ hF (ht▸hF.env t)
 ·rw [beq_ne q];exact hF.env s
theorem sub_box (k:Nat) (B:Box) (hc:BoxCv (hk box) (hk box k) B) (hf:B.free (fun k=>(hk box k).isSome)=true):Sub (lk env) (hk box) (lk env) (hk ((k,some B)::box)):=fun S a w hR=>by
 obtain ⟨Z,i,hF⟩:=hR
 have hs:∀ x,hk ((k,some B)::box) x=if k=x then some B else hk box x:=fun x=>by
  simp only [hk]
  by_cases q:k=x
  ·subst q;simp
  ·rw [beq_ne q,if_neg q]
 have get:∀ {x:Nat} {C:Box},hk ((k,some B)::box) x=some C→C.mut=true→∃ C0,hk box x=some C0∧C0.mut=true∧∀ y b,Foot C y b→Foot C0 y b:=fun {x C} hx hm=>by
   rw [hs] at hx
   by_cases q:k=x
   ·subst q;rw [if_pos rfl] at hx;cases hx
    obtain ⟨B0,q1,q2⟩:=hc.mut hm
    exact ⟨B0,q1,q2,fun y b hf=>hc.foot q1 hf⟩
   ·rw [if_neg q] at hx;exact ⟨C,hx,hm,fun _ _ h=>h⟩
 refine ⟨Z,i,{ hF with box:=fun x C hx=>?_,foot:=fun x C b hx hm hf=>?_,nil:=fun x hx=>?_,inj:=fun x x' C C' b h1 h2 m1 m2 e1 e2=>?_ }⟩
 ·rw [hs] at hx
  by_cases q:k=x
  ·subst q;rw [if_pos rfl] at hx;cases hx
   exact BoxCv.ok hF hc hf (fun k x _ e=>e) rfl
  ·rw [if_neg q] at hx;exact hF.box x C hx
 ·obtain ⟨C0,q1,q2,q3⟩:=get hx hm
  exact hF.foot x C0 b q1 q2 (q3 _ _ hf)
 ·rw [hs] at hx
  by_cases q:k=x
  ·rw [if_pos q] at hx;cases hx
  ·rw [if_neg q] at hx;exact hF.nil x hx
 ·obtain ⟨C0,q1,q2,q3⟩:=get h1 m1
  obtain ⟨C0',q1',q2',q3'⟩:=get h2 m2
  exact hF.inj x x' C0 C0' b q1 q1' q2 q2' (q3 _ _ e1) (q3' _ _ e2)
theorem sub_freeze (k:Nat) {t:TypeId} {n m:Nat} {f:Nat→List D} (hb:hk box k=some (.arr t n m f)) (h100:Nat.ble 1000 k=true):Sub (lk env) (hk box) (lk env) (hk ((k,some (.ice t n m f))::box)):=fun S a w hR=>by
 obtain ⟨Z,i,hF⟩:=hR
 replace h100:=Nat.le_of_ble_eq_true h100
 have hs:∀ x,hk ((k,some (.ice t n m f))::box) x=if k=x then some (.ice t n m f) else hk box x:=fun x=>by
  simp only [hk]
  by_cases q:k=x
  ·subst q;simp
  ·rw [beq_ne q,if_neg q]
 rcases hF.box k _ hb with ⟨b,cap,e1,e2,e3,_,e5⟩ | ⟨e1,e2⟩
 ·have hbn:S.w0.heap.size≤b:=by rcases e2 with e2 | ⟨e2,_⟩;exact e2;omega
  refine ⟨fun o x=>Z o x∨x=b,i,?_⟩
  refine hF.step (fun x=>x=k) ⟨rfl,rfl,rfl,Nat.le_refl _⟩ (fun _ _ _=>rfl) (fun _ _=>rfl) (fun x hx=>by rw [hs];exact if_neg (Ne.symm hx)) (fun x hx e=>?_) (fun x hx e=>hF.nil x e) (fun x _ e=>hF.nil x e) (fun o b hb=>.inl hb) (fun x hx=>?_) (fun x hx=>?_) (fun x B hx hB=>?_) (fun x B b1 hx hB hm _=>by rw [hs,if_pos hx.symm] at hB;cases hB;cases hm) (fun x x' B B' b1 hx hx' _ _ _ _ _ _=>hx.trans hx'.symm)
  ·rw [hs,if_pos hx.symm] at e;cases e
  ·rcases hx with hx | rfl
   ·exact .inl hx
   ·exact .inr ⟨e5.lt,hbn,.inr ⟨k,_,rfl,hb,rfl,.root e1⟩,fun y B hy hB hm _=>by rw [hs,if_pos hy.symm] at hB;cases hB;cases hm⟩
  ·rcases hx with hx | rfl
   ·exact ⟨.inl (hF.zsub x hx),hF.zNew x hx⟩
   ·exact ⟨.inr rfl,hbn⟩
  ·rw [hs,if_pos hx.symm] at hB;cases hB
   subst hx
   exact .inl ⟨b,cap,e1,e2,fun h=>(by cases h),fun _=>.inr rfl,cap.c,ArrAt.mem e5 rfl (fun o y hy=>⟨.inl hy,rfl⟩)⟩
 ·rcases e2 with e2 | ⟨t',m',f2,e2 | e2⟩ | ⟨_,_,_,_,_,e2⟩
  ·cases e2
  ·cases e2
   refine ⟨Z,i,?_⟩
   refine hF.step (fun x=>x=k) ⟨rfl,rfl,rfl,Nat.le_refl _⟩ (fun _ _ _=>rfl) (fun _ _=>rfl) (fun x hx=>by rw [hs];exact if_neg (Ne.symm hx)) (fun x hx e=>?_) (fun x hx e=>hF.nil x e) (fun x _ e=>hF.nil x e) (fun o b hb=>hb) (fun x hx=>.inl hx) (fun x hx=>⟨hF.zsub x hx,hF.zNew x hx⟩) (fun x B hx hB=>?_) (fun x B b1 hx hB hm _=>by rw [hs,if_pos hx.symm] at hB;cases hB;cases hm) (fun x x' B B' b1 hx hx' _ _ _ _ _ _=>hx.trans hx'.symm)
   ·rw [hs,if_pos hx.symm] at e;cases e
   ·rw [hs,if_pos hx.symm] at hB;cases hB
    subst hx
    exact .inr ⟨e1,.inr (.inl ⟨_,_,_,.inr rfl⟩)⟩
  ·cases e2
  ·cases e2
theorem sub_frz (k:Nat) {t:TypeId} {l:List D} (hb:hk box k=some (.lit t l)) (h100:Nat.ble 1000 k=true) (hfr:D.free.freeL (fun _=>false) l=true):Sub (lk env) (hk box) (lk env) (hk ((k,some (.ice t 1 l.length (fun _=>l)))::box)):=fun S a w hR=>by
 obtain ⟨Z,i,hF⟩:=hR
 replace h100:=Nat.le_of_ble_eq_true h100
 have hs:∀ x,hk ((k,some (.ice t 1 l.length (fun _=>l)))::box) x=if k=x then some (.ice t 1 l.length (fun _=>l)) else hk box x:=fun x=>by
  simp only [hk]
  by_cases q:k=x
  ·subst q;simp
  ·rw [beq_ne q,if_neg q]
 rcases hF.box k _ hb with ⟨b,cap,e1,e2,e3,_,e5⟩ | ⟨e1,e2⟩
 ·have hbn:S.w0.heap.size≤b:=by rcases e2 with e2 | ⟨e2,_⟩;exact e2;omega
  obtain ⟨cs,f1,f2,f3⟩:=e5
  refine ⟨fun o x=>Z o x∨x=b,i,?_⟩
  refine hF.step (fun x=>x=k) ⟨rfl,rfl,rfl,Nat.le_refl _⟩ (fun _ _ _=>rfl) (fun _ _=>rfl) (fun x hx=>by rw [hs];exact if_neg (Ne.symm hx)) (fun x hx e=>?_) (fun x hx e=>hF.nil x e) (fun x _ e=>hF.nil x e) (fun o b hb=>.inl hb) (fun x hx=>?_) (fun x hx=>?_) (fun x B hx hB=>?_) (fun x B b1 hx hB hm _=>by rw [hs,if_pos hx.symm] at hB;cases hB;cases hm) (fun x x' B B' b1 hx hx' _ _ _ _ _ _=>hx.trans hx'.symm)
  ·rw [hs,if_pos hx.symm] at e;cases e
  ·rcases hx with hx | rfl
   ·exact .inl hx
   ·exact .inr ⟨f1.lt,hbn,.inr ⟨k,_,rfl,hb,rfl,.root e1⟩,fun y B hy hB hm _=>by rw [hs,if_pos hy.symm] at hB;cases hB;cases hm⟩
  ·rcases hx with hx | rfl
   ·exact ⟨.inl (hF.zsub x hx),hF.zNew x hx⟩
   ·exact ⟨.inr rfl,hbn⟩
  ·rw [hs,if_pos hx.symm] at hB;cases hB
   subst hx
   refine .inl ⟨b,cap,e1,e2,fun h=>(by cases h),fun _=>.inr rfl,1,cs,f1,by rw [f2];simp,Nat.le_refl _,fun _ _=>rfl,fun e c he hc=>?_⟩
   obtain rfl:e=0:=by omega
   rw [Nat.zero_mul,Nat.zero_add]
   exact ⟨(f3 c hc).1,((f3 c hc).2.nm (i':=noN) (freeL_at hfr c hc) (fun k x hk=>by cases hk)).mem (fun o y hy=>⟨.inl hy,rfl⟩)⟩
 ·rcases e2 with e2 | ⟨t',m',f2,e2 | e2⟩ | ⟨_,_,_,_,_,e2⟩<;>cases e2
theorem sub_nilB (t k m:Nat) (B:Box) (hNB:((∃ t m f,B = .arr t 0 m f∨B = .ice t 0 m f)∨∃ t t2 m2 n2 g,B = .mat t t2 0 0 m2 n2 g)) (ht:lk env t = .val (.slice none 0 0)) (hb:hk box k=none) (h100:Nat.ble 1000 k=true):Sub (lk env) (hk box) (lk ((t,.sl k m 0)::env)) (hk ((k,some B)::box)):=fun S a w hR=>by
 obtain ⟨Z,i,hF⟩:=hR
 replace h100:=Nat.le_of_ble_eq_true h100
 have hs:∀ x,hk ((k,some B)::box) x=if k=x then some B else hk box x:=fun x=>by
  simp only [hk]
  by_cases q:k=x
  ·subst q;simp
  ·rw [beq_ne q,if_neg q]
 have hF2:Fits S (lk env) (hk ((k,some B)::box)) Z (fun x=>if x=k then some none else i x) a w:=by
  refine hF.step (fun x=>x=k) ⟨rfl,rfl,rfl,Nat.le_refl _⟩ (fun _ _ _=>rfl) (fun x hx=>if_neg (fun e=>hx (by rw [e];exact hb))) (fun x hx=>by rw [hs];exact if_neg (Ne.symm hx)) (fun x hx e=>?_) (fun x hx e=>?_) (fun x hx e=>?_) (fun o b hb=>hb) (fun x hx=>.inl hx) (fun x hx=>⟨hF.zsub x hx,hF.zNew x hx⟩) (fun x B1 hx hB=>?_) (fun x B1 b hx hB hm hf=>by obtain ⟨_,_,e,_⟩:=hf;simp only [if_pos hx] at e;cases e) (fun x x' B B' b1 hx hx' _ _ _ _ _ _=>hx.trans hx'.symm)
  ·rw [hs,if_pos hx.symm] at e;cases e
  ·show (if x=k then _ else _)=none;rw [if_neg hx];exact hF.nil x e
  ·show (if x=k then _ else _)=none;rw [if_neg (by omega)];exact hF.nil x e
  ·rw [hs,if_pos hx.symm] at hB;cases hB
   exact .inr ⟨if_pos hx,.inr hNB⟩
 refine ⟨Z,_,{ hF2 with env:=fun s=>?_ }⟩
 simp only [lk]
 by_cases q:t=s
 ·subst q
  rw [show Nat.beq t t=true by simp]
  have:=hF.env t
  rw [ht] at this
  rw [this.valEq]
  exact .sl0 _ _ _ (by simp)
 ·rw [beq_ne q];exact hF2.env s
theorem sub_nilcellB (kb cc k m:Nat) (B:Box) (hNB:((∃ t m f,B = .arr t 0 m f∨B = .ice t 0 m f)∨∃ t t2 m2 n2 g,B = .mat t t2 0 0 m2 n2 g)) {tb:TypeId} {ds ds':List D} (hl:hk box kb=some (.lit tb ds)) (hds:dl ds cc = .val (.slice none 0 0)) (hds':setL ds cc [.sl k m 0]=ds') (hcl:Nat.blt cc ds.length=true) (hb:hk box k=none) (h100:Nat.ble 1000 k=true):Sub (lk env) (hk box) (lk env) (hk ((kb,some (.lit tb ds'))::(k,some B)::box)):=fun S a w hR=>by
 obtain ⟨Z,i,hF⟩:=hR
 replace h100:=Nat.le_of_ble_eq_true h100
 replace hcl:cc<ds.length:=by simpa using hcl
 have hne:kb≠k:=fun e=>by rw [e,hb] at hl;cases hl
 have hs:∀ x,hk ((k,some B)::box) x=if k=x then some B else hk box x:=fun x=>by
  simp only [hk]
  by_cases q:k=x
  ·subst q;simp
  ·rw [beq_ne q,if_neg q]
 have hF2:Fits S (lk env) (hk ((k,some B)::box)) Z (fun x=>if x=k then some none else i x) a w:=by
  refine hF.step (fun x=>x=k) ⟨rfl,rfl,rfl,Nat.le_refl _⟩ (fun _ _ _=>rfl) (fun x hx=>if_neg (fun e=>hx (by rw [e];exact hb))) (fun x hx=>by rw [hs];exact if_neg (Ne.symm hx)) (fun x hx e=>?_) (fun x hx e=>?_) (fun x hx e=>?_) (fun o b hb=>hb) (fun x hx=>.inl hx) (fun x hx=>⟨hF.zsub x hx,hF.zNew x hx⟩) (fun x B1 hx hB=>?_) (fun x B1 b hx hB hm hf=>by obtain ⟨_,_,e,_⟩:=hf;simp only [if_pos hx] at e;cases e) (fun x x' B B' b1 hx hx' _ _ _ _ _ _=>hx.trans hx'.symm)
  ·rw [hs,if_pos hx.symm] at e;cases e
  ·show (if x=k then _ else _)=none;rw [if_neg hx];exact hF.nil x e
  ·show (if x=k then _ else _)=none;rw [if_neg (by omega)];exact hF.nil x e
  ·rw [hs,if_pos hx.symm] at hB;cases hB
   exact .inr ⟨if_pos hx,.inr hNB⟩
 have hs2:∀ x,hk ((kb,some (.lit tb ds'))::(k,some B)::box) x=if kb=x then some (.lit tb ds') else hk ((k,some B)::box) x:=fun x=>by
  by_cases q:kb=x
  ·subst q;simp [hk]
  ·rw [if_neg q];simp only [hk];rw [beq_ne q]
 have hl2:hk ((k,some B)::box) kb=some (.lit tb ds):=by rw [hs,if_neg (Ne.symm hne)];exact hl
 have get:∀ {x:Nat} {C:Box},hk ((kb,some (.lit tb ds'))::(k,some B)::box) x=some C→C.mut=true→∃ C0,hk ((k,some B)::box) x=some C0∧C0.mut=true∧∀ y b,Foot C y b→Foot C0 y b:=fun {x C} hx hm=>by
   rw [hs2] at hx
   by_cases q:kb=x
   ·subst q;rw [if_pos rfl] at hx;cases hx;exact ⟨_,hl2,rfl,fun _ _ h=>h⟩
   ·rw [if_neg q] at hx;exact ⟨C,hx,hm,fun _ _ h=>h⟩
 refine ⟨Z,_,{ hF2 with box:=fun x C hx=>?_,foot:=fun x C b hx hm hf=>?_,nil:=fun x hx=>?_,inj:=fun x x' C C' b h1 h2 m1 m2 e1 e2=>?_ }⟩
 ·rw [hs2] at hx
  by_cases q:kb=x
  ·subst q;rw [if_pos rfl] at hx;cases hx
   rcases hF2.box kb _ hl2 with ⟨b,cap,e1,e2,e3,e4,cs,f1,f2,f3⟩ | ⟨e1,e2⟩
   ·refine .inl ⟨b,cap,e1,e2,e3,fun h=>(by cases h),cs,f1,by rw [← hds',setL_len (by simp;omega)];exact f2,fun j hj=>?_⟩
    rw [← hds',setL_len (by simp;omega)] at hj
    rw [← hds',setL_at (by simp;omega)]
    by_cases q2:cc≤j∧j<cc+[D.sl k m 0].length
    ·rw [if_pos q2]
     obtain rfl:cc=j:=by simp at q2;omega
     have:=f3 cc hj
     rw [hds] at this
     refine ⟨this.1,?_⟩
     rw [this.2.valEq]
     simp [dl]
     exact .sl0 _ _ _ (by simp)
    ·rw [if_neg q2];exact f3 j hj
   ·rcases e2 with e2 | ⟨t',m',f2,e2 | e2⟩ | ⟨_,_,_,_,_,e2⟩<;>cases e2
  ·rw [if_neg q] at hx;exact hF2.box x C hx
 ·obtain ⟨C0,q1,q2,q3⟩:=get hx hm
  exact hF2.foot x C0 b q1 q2 (q3 _ _ hf)
 ·rw [hs2] at hx
  by_cases q:kb=x
  ·rw [if_pos q] at hx;cases hx
  ·rw [if_neg q] at hx;exact hF2.nil x hx
 ·obtain ⟨C0,q1,q2,q3⟩:=get h1 m1
  obtain ⟨C0',q1',q2',q3'⟩:=get h2 m2
  exact hF2.inj x x' C0 C0' b q1 q1' q2 q2' (q3 _ _ e1) (q3' _ _ e2)
theorem sub_nil (t k:Nat) (tt:TypeId) (m:Nat) (f:Nat→List D) (ht:lk env t = .val (.slice none 0 0)) (hb:hk box k=none) (h100:Nat.ble 1000 k=true):Sub (lk env) (hk box) (lk ((t,.sl k m 0)::env)) (hk ((k,some (.arr tt 0 m f))::box)):=sub_nilB t k m _ (.inl ⟨_,_,_,.inl rfl⟩) ht hb h100
theorem sub_nilcell (kb cc k:Nat) (tt:TypeId) (m:Nat) (f:Nat→List D) {tb:TypeId} {ds ds':List D} (hl:hk box kb=some (.lit tb ds)) (hds:dl ds cc = .val (.slice none 0 0)) (hds':setL ds cc [.sl k m 0]=ds') (hcl:Nat.blt cc ds.length=true) (hb:hk box k=none) (h100:Nat.ble 1000 k=true):Sub (lk env) (hk box) (lk env) (hk ((kb,some (.lit tb ds'))::(k,some (.arr tt 0 m f))::box)):=sub_nilcellB kb cc k m _ (.inl ⟨_,_,_,.inl rfl⟩) hl hds hds' hcl hb h100
end


section
variable {lend:Bool} {L ns:List Nat} {P:Program} {N:Nat} {o:Oper} {E E1:Nat→D} {H H1:Nat→Option Box} {S:Cx} {Z:Zn} {i:Nm} {a:Act} {w w':World}
theorem Fits.row (h:Fits S E H Z i a w) {k nb n m2 n2 e r b cap:Nat} {cp:Cp} {t t2:TypeId} {g:Nat→Nat→List D} (hk:H k=some (.mat t t2 nb n m2 n2 g)) (hi:i k=some (some (r,cp))) (he:e<n) (hr:cp.r e=some (b,cap)):b≠r∧cap≤9223372036854775807∧ArrAt Z w b cap t2 n2 m2 (g e):=by
 rcases h.box k _ hk with ⟨b',_,e1,_,_,_,cs,hB,hs,hnb,hn,hrw,_⟩ | ⟨q,_⟩
 ·rw [hi] at e1;cases e1
  obtain ⟨b2,c2,q1,q2,q3,q4,q5⟩:=hrw e he
  rw [hr] at q1;cases q1
  exact ⟨q2,q4,q5⟩
 ·rw [hi] at q;cases q
/-! ### Rows come in -/
end


section
variable {lend:Bool} {L ns:List Nat} {P:Program} {N:Nat} {o:Oper} {E E1:Nat→D} {H H1:Nat→Option Box} {S:Cx} {Z:Zn} {i:Nm} {a:Act} {w w':World}
theorem Fits.lentF (hF:Fits S E H Z i a w) (hL:∀ k,k∈L→∃ B,H k=some B∧B.mut=true) {k b:Nat} {B:Box} (hk:H k=some B) (hm:B.mut=true) (hf:Foot B (i k) b) (hkL:k ∉ L):ZL true L Z i w true b:=
 .inr ⟨rfl,rfl,(hF.foot k B b hk hm hf).1,fun k' c hk' e=>by
  obtain ⟨B',h1,h2⟩:=hL k' hk'
  exact hkL (hF.inj k k' B B' b hk h1 hm h2 hf (.root e)▸hk')⟩
theorem CvV.slr {k nb n m2 n2 e len:Nat} {t t2:TypeId} {g:Nat→Nat→List D} (h:H k=some (.mat t t2 nb n m2 n2 g)) (he:e<n) (hn:len≤n2) (hkL:memB k L=false) (hns:memB k ns=true):CvV true L ns H (.slr k e m2 len) (.fz true len m2 (g e)):=fun H1 hH S E a w Z i v hF hL hv=>by
 rw [← hH k (memB_spec hns)] at h
 cases hv with | @slr _ r cp _ _ _ _ b cap hib hr h1 h2=>
 obtain ⟨_,_,cs,hB,hs,hnc,hfl,hall⟩:=hF.row h hib he hr
 have hz:=hF.lentF hL h rfl ⟨r,cp,hib,.inr ⟨e,cap,he,hr⟩⟩ (memB_no hkL)
 refine .fz _ _ _ len cap m2 (g e) (fun y c=>cs.getD (y*m2+c) undef) h1 h2 (fun y hy=>hfl y (by omega)) (fun y c hy hc=>⟨b,0,rfl,hz,?_,(hall y c (by omega) hc).1⟩) (fun y c hy hc=>(hall y c (by omega) hc).2.mem (fun o b hz=>⟨.inl hz,rfl⟩))
 have hlt:y*m2+c<cs.size:=by
  have:(y+1)*m2≤cap*m2:=Nat.mul_le_mul_right _ (by omega)
  rw [Nat.add_mul] at this;omega
 rw [Nat.zero_add];exact hB.cell _ hlt
theorem CvV.slm {k nb n m2 n2 len:Nat} {t t2:TypeId} {g:Nat→Nat→List D} (h:H k=some (.mat t t2 nb n m2 n2 g)) (hn:len≤n) (hkL:memB k L=false) (hns:memB k ns=true):CvV true L ns H (.sl k 1 len) (.fz true len 1 (fun e=>[.fz true n2 m2 (g e)])):=fun H1 hH S E a w Z i v hF hL hv=>by
 rw [← hH k (memB_spec hns)] at h
 cases hv with
 | @sl _ b _ _ _ cap hib h1 h2=>
  rcases hF.box k _ h with ⟨_,_,e1,_,_,_,cs,hB,hcs,hnb,hnn,hrw,_⟩ | ⟨e1,_⟩
  ·rw [hib] at e1;cases e1
   have hz:=hF.lentF hL h rfl (.root hib) (memB_no hkL)
   refine .fz _ _ _ len cap.c 1 _ (fun e _=>cs.getD e undef) h1 h2 (fun _ _=>rfl) (fun e c he hc=>⟨b,0,rfl,hz,?_,?_⟩) (fun e c he hc=>?_)
   ·obtain rfl:c=0:=by omega
    rw [Nat.mul_one,Nat.add_zero,Nat.zero_add]
    exact hB.cell _ (by omega)
   ·obtain ⟨b2,c2,p1,p2,p3,p4,p5⟩:=hrw e (by omega)
    rw [p3];rfl
   ·obtain rfl:c=0:=by omega
    obtain ⟨b2,c2,p1,p2,p3,p4,p5⟩:=hrw e (by omega)
    have hle:n2≤c2:=by obtain ⟨_,_,_,h,_⟩:=p5;exact h
    rw [p3]
    have he':e<n:=by omega
    exact (CvV.slr (L:=L) (ns:=ns) (H:=H1) (n:=n) (e:=e) h he' (Nat.le_refl _) hkL hns) H1 (fun _ _=>rfl) S _ a w Z i _ hF hL (.slr _ _ _ _ _ _ _ hib p1 hle p4)
  ·rw [hib] at e1;cases e1
 | sl0=>exact .fz _ _ none 0 0 1 _ (fun _ _=>undef) (Nat.le_refl _) (by omega) (fun e he=>by omega) (fun e c he=>by omega) (fun e c he=>by omega)
end


abbrev InK (k:IntKind) (z:Int):Prop:=match k with
 | .i8=> -128≤z∧z≤127
 | .i16=> -32768≤z∧z≤32767
 | .i32=> -2147483648≤z∧z≤2147483647
 | .i64=> -9223372036854775808≤z∧z≤9223372036854775807
 | .u8=>0≤z∧z≤255
 | .u16=>0≤z∧z≤65535
 | .u32=>0≤z∧z≤4294967295
 | .u64=>0≤z∧z≤18446744073709551615
theorem wrap_in {k:IntKind} {z:Int} (h:InK k z):k.wrap z=z:=by
 cases k<;>simp only [InK] at h<;>simp [IntKind.wrap,IntKind.bits,IntKind.signed]<;>omega
abbrev topK:IntKind→Nat
 | .i8=>127
 | .i16=>32767
 | .i32=>2147483647
 | .i64=>9223372036854775807
 | .u8=>255
 | .u16=>65535
 | .u32=>4294967295
 | .u64=>18446744073709551615
theorem wrap_nat {k:IntKind} {n:Nat} (h:n≤topK k):k.wrap (n:Int)=n:=wrap_in (by cases k<;>simp only [topK] at h<;>simp only [InK]<;>omega)
def NatIs (z:Int) (n:Nat):Prop:=z=(n:Int)
theorem NatIs.cast (n:Nat):NatIs (n:Int) n:=rfl
theorem NatIs.lit (n:Nat):NatIs (@OfNat.ofNat Int n instOfNat) (@OfNat.ofNat Nat n (instOfNatNat n)):=rfl
section
variable {P:Program} {k:IntKind} {x y z:Int} {a b:Nat}
def BinR (P:Program) (op:BinOp) (t:TypeId) (x y:Operand) (vx vy r:Value):Prop:=∀ w,(do eqGuard op t x y vx vy;binOp op t vx vy:Sem Value).run P w = .ok r w
variable {t:TypeId} {ox oy:Operand}
theorem bn_add (hx:NatIs x a) (hy:NatIs y b) (h:a+b≤topK k):BinR P .add t ox oy (.int k x) (.int k y) (.int k ((a+b:Nat):Int)):=fun w=>by
 obtain rfl:=hx;obtain rfl:=hy
 have:=wrap_nat (k:=k) h
 rw [Int.natCast_add] at this
 simp [eqGuard,binOp,Op.intArith,this,Result.andThen]
theorem bi_add (h:InK k (x+y)):BinR P .add t ox oy (.int k x) (.int k y) (.int k (x+y)):=fun w=>by
 simp [eqGuard,binOp,Op.intArith,wrap_in h,Result.andThen]
theorem bw_add:BinR P .add t ox oy (.int k x) (.int k y) (.int k (k.wrap (x+y))):=fun w=>by
 simp [eqGuard,binOp,Op.intArith,Result.andThen]
theorem bn_sub (hx:NatIs x a) (hy:NatIs y b) (h:b≤a) (hk:a≤topK k):BinR P .sub t ox oy (.int k x) (.int k y) (.int k ((a - b:Nat):Int)):=fun w=>by
 obtain rfl:=hx;obtain rfl:=hy
 have:=wrap_nat (k:=k) (n:=a - b) (by omega)
 rw [Int.natCast_sub h] at this
 simp [eqGuard,binOp,Op.intArith,this,Result.andThen,Int.natCast_sub h]
theorem bi_sub (h:InK k (x - y)):BinR P .sub t ox oy (.int k x) (.int k y) (.int k (x - y)):=fun w=>by
 simp [eqGuard,binOp,Op.intArith,wrap_in h,Result.andThen]
theorem bw_sub:BinR P .sub t ox oy (.int k x) (.int k y) (.int k (k.wrap (x - y))):=fun w=>by
 simp [eqGuard,binOp,Op.intArith,Result.andThen]
theorem bn_mul (hx:NatIs x a) (hy:NatIs y b) (h:a*b≤topK k):BinR P .mul t ox oy (.int k x) (.int k y) (.int k ((a*b:Nat):Int)):=fun w=>by
 obtain rfl:=hx;obtain rfl:=hy
 have:=wrap_nat (k:=k) h
 rw [Int.natCast_mul] at this
 simp [eqGuard,binOp,Op.intArith,this,Result.andThen]
theorem bi_mul (h:InK k (x*y)):BinR P .mul t ox oy (.int k x) (.int k y) (.int k (x*y)):=fun w=>by
 simp [eqGuard,binOp,Op.intArith,wrap_in h,Result.andThen]
theorem bw_mul:BinR P .mul t ox oy (.int k x) (.int k y) (.int k (k.wrap (x*y))):=fun w=>by
 simp [eqGuard,binOp,Op.intArith,Result.andThen]
theorem bn_quo (hx:NatIs x a) (hy:NatIs y b) (h:0<b) (hk:a≤topK k):BinR P .quo t ox oy (.int k x) (.int k y) (.int k ((a / b:Nat):Int)):=fun w=>by
 obtain rfl:=hx;obtain rfl:=hy
 have:=wrap_nat (k:=k) (n:=a / b) (Nat.le_trans (Nat.div_le_self a b) hk)
 have h0:¬ b=0:=by omega
 rw [Int.natCast_ediv] at this
 simp [eqGuard,binOp,Op.intDiv,h0,Result.andThen,Int.tdiv_eq_ediv_of_nonneg,this]
theorem bi_quo (h0:y≠0) (h:InK k (x.tdiv y)):BinR P .quo t ox oy (.int k x) (.int k y) (.int k (x.tdiv y)):=fun w=>by
 simp [eqGuard,binOp,Op.intDiv,h0,Result.andThen,wrap_in h]
theorem bn_rem (hx:NatIs x a) (hy:NatIs y b) (h:0<b):BinR P .rem t ox oy (.int k x) (.int k y) (.int k ((a % b:Nat):Int)):=fun w=>by
 obtain rfl:=hx;obtain rfl:=hy
 have h0:¬ b=0:=by omega
 simp [eqGuard,binOp,Op.intDiv,h0,Result.andThen,Int.tmod_eq_emod_of_nonneg,Int.natCast_emod]
theorem bi_rem (h0:y≠0):BinR P .rem t ox oy (.int k x) (.int k y) (.int k (x.tmod y)):=fun w=>by
 simp [eqGuard,binOp,Op.intDiv,h0,Result.andThen]
theorem bn_eql (hx:NatIs x a) (hy:NatIs y b):BinR P .eql t ox oy (.int k x) (.int k y) (.bool (decide (a=b))):=fun w=>by
 obtain rfl:=hx;obtain rfl:=hy
 simp [eqGuard,binOp,Op.intCmp,Result.andThen]
 by_cases q:a=b<;>simp [q]<;>omega
theorem bi_eql:BinR P .eql t ox oy (.int k x) (.int k y) (.bool (decide (x=y))):=fun w=>by
 simp [eqGuard,binOp,Op.intCmp,Result.andThen]
 by_cases q:x=y<;>simp [q]
theorem bn_neq (hx:NatIs x a) (hy:NatIs y b):BinR P .neq t ox oy (.int k x) (.int k y) (.bool (decide (a≠b))):=fun w=>by
 obtain rfl:=hx;obtain rfl:=hy
 simp [eqGuard,binOp,Op.intCmp,Result.andThen]
 by_cases q:a=b<;>simp [q]<;>omega
theorem bi_neq:BinR P .neq t ox oy (.int k x) (.int k y) (.bool (decide (x≠y))):=fun w=>by
 simp [eqGuard,binOp,Op.intCmp,Result.andThen]
 by_cases q:x=y<;>simp [q]
theorem bn_lss (hx:NatIs x a) (hy:NatIs y b):BinR P .lss t ox oy (.int k x) (.int k y) (.bool (decide (a<b))):=fun w=>by
 obtain rfl:=hx;obtain rfl:=hy
 simp [eqGuard,binOp,Op.intCmp,Result.andThen]
theorem bi_lss:BinR P .lss t ox oy (.int k x) (.int k y) (.bool (decide (x<y))):=fun w=>by
 simp [eqGuard,binOp,Op.intCmp,Result.andThen]
theorem bn_leq (hx:NatIs x a) (hy:NatIs y b):BinR P .leq t ox oy (.int k x) (.int k y) (.bool (decide (a≤b))):=fun w=>by
 obtain rfl:=hx;obtain rfl:=hy
 simp [eqGuard,binOp,Op.intCmp,Result.andThen]
theorem bi_leq:BinR P .leq t ox oy (.int k x) (.int k y) (.bool (decide (x≤y))):=fun w=>by
 simp [eqGuard,binOp,Op.intCmp,Result.andThen]
theorem bn_gtr (hx:NatIs x a) (hy:NatIs y b):BinR P .gtr t ox oy (.int k x) (.int k y) (.bool (decide (b<a))):=fun w=>by
 obtain rfl:=hx;obtain rfl:=hy
 simp [eqGuard,binOp,Op.intCmp,Result.andThen]
theorem bi_gtr:BinR P .gtr t ox oy (.int k x) (.int k y) (.bool (decide (y<x))):=fun w=>by
 simp [eqGuard,binOp,Op.intCmp,Result.andThen]
theorem bn_geq (hx:NatIs x a) (hy:NatIs y b):BinR P .geq t ox oy (.int k x) (.int k y) (.bool (decide (b≤a))):=fun w=>by
 obtain rfl:=hx;obtain rfl:=hy
 simp [eqGuard,binOp,Op.intCmp,Result.andThen]
theorem bi_geq:BinR P .geq t ox oy (.int k x) (.int k y) (.bool (decide (y≤x))):=fun w=>by
 simp [eqGuard,binOp,Op.intCmp,Result.andThen]
theorem bb_eql {p q:Bool} {i:TypeInfo} [hT:TI P t i .bool]:BinR P .eql t ox oy (.bool p) (.bool q) (.bool (p == q)):=fun w=>by
 have:=run_equal_bool (P:=P) w t p q hT.under
 simp [eqGuard,binOp,this,Result.andThen]
theorem bb_neq {p q:Bool} {i:TypeInfo} [hT:TI P t i .bool]:BinR P .neq t ox oy (.bool p) (.bool q) (.bool (!(p == q))):=fun w=>by
 have:=run_equal_bool (P:=P) w t p q hT.under
 simp [eqGuard,binOp,this,Result.andThen]
theorem bs_eql {p q:ByteArray}:BinR P .eql t ox oy (.string p) (.string q) (.bool (p.toList == q.toList)):=fun w=>by
 simp [eqGuard,binOp,Op.stringOp,Result.andThen]
theorem bs_neq {p q:ByteArray}:BinR P .neq t ox oy (.string p) (.string q) (.bool (!(p.toList == q.toList))):=fun w=>by
 simp [eqGuard,binOp,Op.stringOp,Result.andThen]
def ConR (P:Program) (s t:TypeId) (vx r:Value):Prop:=∀ w,(convert s t vx).run P w = .ok r w
variable {s:TypeId} {k' ks:IntKind} {i i':TypeInfo}
theorem cn_int [hS:TI P s i (.int ks)] [hT:TI P t i' (.int k')] (hx:NatIs x a) (h:a≤topK k'):ConR P s t (.int k x) (.int k' (a:Int)):=fun w=>by
 obtain rfl:=hx
 simp [convert,run_underlying hS.under,run_underlying hT.under,Conv.intToInt,wrap_nat h,Result.andThen]
theorem ci_int [hS:TI P s i (.int ks)] [hT:TI P t i' (.int k')] (h:InK k' x):ConR P s t (.int k x) (.int k' x):=fun w=>by
 simp [convert,run_underlying hS.under,run_underlying hT.under,Conv.intToInt,wrap_in h,Result.andThen]
theorem cw_int [hS:TI P s i (.int ks)] [hT:TI P t i' (.int k')]:ConR P s t (.int k x) (.int k' (k'.wrap x)):=fun w=>by
 simp [convert,run_underlying hS.under,run_underlying hT.under,Conv.intToInt,Result.andThen]
def UnR (P:Program) (op:UnOp) (vx r:Value):Prop:=∀ w,(Op.unary op vx).run P w = .ok r w
theorem un_not {p:Bool}:UnR P .not (.bool p) (.bool (!p)):=fun w=>by simp [Op.unary]
theorem un_neg (h:InK k (-x)):UnR P .neg (.int k x) (.int k (-x)):=fun w=>by
 have:=wrap_in h
 simp [Op.unary,Op.intArith,this]
end
end Go.Proofs.YtdcenblblimkfaaGreat
