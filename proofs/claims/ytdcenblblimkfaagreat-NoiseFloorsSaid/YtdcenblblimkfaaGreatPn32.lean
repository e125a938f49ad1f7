/- noise: calculate, by data: what it hands on, what it catches.
noise: tests as arguments; Add.
noise: Times.
noise: Mul.
noise: Divide.
noise: what Sealed and Fresh add.
noise: fresh.
noise: bounds of what is multiplied and added. Plain.
noise: the product of a level's primes; a list of one box. (Printed by mknzl.py.) -/
import Derived.Test.YtdcenblblimkfaaGreatPn31
import Derived.Test.YtdcenblblimkfaaGreatPn18
import Derived.OneCell
import Derived.Laws.Rows
set_option linter.unusedSimpArgs false
set_option linter.unusedVariables false
set_option linter.unnecessarySimpa false
set_option linter.unusedSectionVars false
namespace Go.Proofs.YtdcenblblimkfaaGreat
open Go.RowKit Go.Shelf
set_option maxRecDepth 100000
theorem hmf':∀ (fn:Fn) (first cap:Array Value) (w:World),(Instr.makeFunc fn first cap).run Tryz.prog w = .ok (.func fn first cap) w:=fun _ _ _ _=>rfl
def calcW (w:World):World:=(w.alloc (.cells #[.bool false,.string ⟨#[]⟩] 42)).alloc (.cells #[.int .i64 0] 34)
theorem calcW_size (w:World):(calcW w).heap.size=w.heap.size+2:=by simp [calcW]
theorem calcW_old (w:World) (k:Nat) (h:k<w.heap.size):(calcW w).heap[k]? = w.heap[k]?:=by
 unfold calcW
 rw [Below.heap_alloc _ _ _ (by simp;omega),Below.heap_alloc _ _ _ h]
theorem calcW_at0 (w:World):(calcW w).heap[w.heap.size]? = some (.cells #[.bool false,.string ⟨#[]⟩] 42 (0,0)):=by
 unfold calcW
 rw [Below.heap_alloc _ _ _ (by simp)]
 exact (MapKept.heap_alloc w _).1
theorem calcW_at1 (w:World):(calcW w).heap[w.heap.size+1]? = some (.cells #[.int .i64 0] 34 (0,0)):=by
 have:=(MapKept.heap_alloc (w.alloc (.cells #[.bool false,.string ⟨#[]⟩] 42)) (.cells #[.int .i64 0] 34)).1
 rw [World.size_alloc] at this
 exact this
theorem calcW_kept (w:World):Kept (fun _=>False) w (calcW w):=⟨rfl,rfl,rfl,by rw [calcW_size];omega,fun b hb _=>calcW_old w b hb⟩
theorem blk_cell {w:World} {b i:Nat} {t:TypeId} {cs:Array Value} {v:Value} (h:w.heap[b]? = some (.cells cs t (0,0))) (hv:cs[i]? = some v):w.cell? ⟨b,i,none⟩=some v:=by simp [World.cell?,h,hv]
theorem blk_free {w:World} {b i:Nat} {t:TypeId} {cs:Array Value} (h:w.heap[b]? = some (.cells cs t (0,0))):w.frozen? ⟨b,i,none⟩=false:=by simp [World.frozen?,h]
theorem kept_set {M:Nat→Prop} {w w':World} {a:Addr} {v:Value} (h:Kept M w w') (ha:w.heap.size≤a.block):Kept M w (w'.setCell a v):=⟨h.os,h.tape,h.output,by rw [World.size_setCell];exact h.size,fun b hb hm=>(Below.heap_setCell _ _ _ _ (by omega)).trans (h.block b hb hm)⟩
theorem Kept.trans' {w w' w2:World} (h:Kept (fun _=>False) w w') (h2:Kept (fun _=>False) w' w2):Kept (fun _=>False) w w2:=⟨h2.os.trans h.os,h2.tape.trans h.tape,h2.output.trans h.output,Nat.le_trans h.size h2.size,fun b hb hm=>(h2.block b (Nat.lt_of_lt_of_le hb h.size) id).trans (h.block b hb hm)⟩
theorem panW_kept (w w2:World) (n:Int) (h:Kept (fun _=>False) w w2):Kept (fun _=>False) w (panW w2 w.heap.size (w.heap.size+1) n):=by
 have h1:Kept (fun _=>False) w (w2.alloc (.cells #[.int .i64 n] 186)):=⟨h.os,h.tape,h.output,by simp;have:=h.size;omega,fun b hb hm=>(Below.heap_alloc _ _ _ (Nat.lt_of_lt_of_le hb h.size)).trans (h.block b hb hm)⟩
 have h2:=kept_set (v:=.int .i64 n) (a:=⟨w.heap.size+1,0,none⟩) (kept_set (v:=.string ⟨#[]⟩) (a:=⟨w.heap.size,1,none⟩) (kept_set (v:=.bool false) (a:=⟨w.heap.size,0,none⟩) h1 (Nat.le_refl _)) (Nat.le_refl _)) (Nat.le_succ _)
 exact ⟨h2.os,h2.tape,h2.output,h2.size,h2.block⟩
theorem panW_cells (w:World) {p q:Nat} {x0 x1 x2:Value} (k0:w.cell? ⟨p,0,none⟩=some x0) (k1:w.cell? ⟨p,1,none⟩=some x1) (k2:w.cell? ⟨q,0,none⟩=some x2) (l0:p<w.heap.size) (l1:q<w.heap.size) (n:Int) (hpq:p≠q) :
  (panW w p q n).cell? ⟨p,0,none⟩=some (.bool false)∧(panW w p q n).cell? ⟨p,1,none⟩=some (.string ⟨#[]⟩)∧(panW w p q n).cell? ⟨q,0,none⟩=some (.int .i64 n):=by
 have hqp:q≠p:=fun e=>hpq e.symm
 have d0:(w.alloc (.cells #[.int .i64 n] 186)).cell? ⟨p,0,none⟩=some x0:=(World.cell?_alloc_past _ _ _ l0).trans k0
 have d1:(w.alloc (.cells #[.int .i64 n] 186)).cell? ⟨p,1,none⟩=some x1:=(World.cell?_alloc_past _ _ _ l0).trans k1
 have d2:(w.alloc (.cells #[.int .i64 n] 186)).cell? ⟨q,0,none⟩=some x2:=(World.cell?_alloc_past _ _ _ l1).trans k2
 unfold panW
 generalize w.alloc (.cells #[.int .i64 n] 186)=W at *
 refine ⟨?_,?_,?_⟩<;>simp [go_sem,d0,d1,d2,hpq,hqp]
theorem calc_raw_ok (g:FuncId) (caps:Array Value) (hg:∀ args w,(callFunc g args).run Tryz.prog w = .ok (.enter g args) w) (b0:Bool) (s0:ByteArray) (w:World)
  (hcall:Calls Tryz.prog g caps (calcW w) fun e w2=>e = .returned (.agg #[.bool b0,.string s0])∧Kept (fun _=>False) (calcW w) w2) :
  Calls Tryz.prog 78 #[.func (.func g) #[] caps] w fun e w'=>e = .returned (.tuple #[.agg #[.bool b0,.string s0],.int .i64 0])∧Kept (fun _=>False) w w':=by
 have hmf:=hmf'
 go_enter_defers Tryz.func78,Tryz.ntmps78
 go_wp2_with fail
 refine hcall.mono ?_
 rintro e w2 ⟨rfl,hK⟩
 clear hcall
 have hs0:w.heap.size<(calcW w).heap.size:=by rw [calcW_size];omega
 have hs1:w.heap.size+1<(calcW w).heap.size:=by rw [calcW_size];omega
 have hb0:=(hK.block _ hs0 id).trans (calcW_at0 w)
 have hb1:=(hK.block _ hs1 id).trans (calcW_at1 w)
 have k0:w2.cell? ⟨w.heap.size,0,none⟩=some (.bool false):=blk_cell hb0 rfl
 have k1:w2.cell? ⟨w.heap.size,1,none⟩=some (.string ⟨#[]⟩):=blk_cell hb0 rfl
 have k2:w2.cell? ⟨w.heap.size+1,0,none⟩=some (.int .i64 0):=blk_cell hb1 rfl
 have f0:=blk_free (i:=0) hb0
 have f1:=blk_free (i:=1) hb0
 have f2:=blk_free (i:=0) hb1
 have HK:=Lib.hid hK
 clear hK hb0 hb1 hs0 hs1
 go_wp2
 refine leaves_cons (f:=175) (args:=#[.pointer (some ⟨w.heap.size,0,none⟩),.pointer (some ⟨w.heap.size+1,0,none⟩)]) (by simp) (by simp [go_sem]) ?_
 refine (calcD_idle ⟨w.heap.size,0,none⟩ ⟨w.heap.size+1,0,none⟩ _).mono ?_
 rintro e u' w'' ⟨rfl,rfl,rfl⟩
 simp [Leaves,settle,results,Tryz.results78,go_sem,k0,k1,k2]
 exact kept_set (kept_set (kept_set ((calcW_kept w).trans' HK.out) (Nat.le_refl _)) (Nat.le_refl _)) (Nat.le_succ _)
theorem calc_raw_no (g:FuncId) (caps:Array Value) (hg:∀ args w,(callFunc g args).run Tryz.prog w = .ok (.enter g args) w) (n:Int) (w:World)
  (hcall:Calls Tryz.prog g caps (calcW w) fun e w2=>e = .panicked [{ v:=.iface 186 (.agg #[.int .i64 n]),recovered:=false }]∧Kept (fun _=>False) (calcW w) w2) :
  Calls Tryz.prog 78 #[.func (.func g) #[] caps] w fun e w'=>e = .returned (.tuple #[.agg #[.bool false,.string ⟨#[]⟩],.int .i64 n])∧Kept (fun _=>False) w w':=by
 have hmf:=hmf'
 go_enter_defers Tryz.func78,Tryz.ntmps78
 go_wp2_with fail
 refine hcall.mono ?_
 rintro e w2 ⟨rfl,hK⟩
 clear hcall
 have hs0:w.heap.size<(calcW w).heap.size:=by rw [calcW_size];omega
 have hs1:w.heap.size+1<(calcW w).heap.size:=by rw [calcW_size];omega
 have hb0:=(hK.block _ hs0 id).trans (calcW_at0 w)
 have hb1:=(hK.block _ hs1 id).trans (calcW_at1 w)
 have k0:w2.cell? ⟨w.heap.size,0,none⟩=some (.bool false):=blk_cell hb0 rfl
 have k1:w2.cell? ⟨w.heap.size,1,none⟩=some (.string ⟨#[]⟩):=blk_cell hb0 rfl
 have k2:w2.cell? ⟨w.heap.size+1,0,none⟩=some (.int .i64 0):=blk_cell hb1 rfl
 have f0:=blk_free (i:=0) hb0
 have f1:=blk_free (i:=1) hb0
 have f2:=blk_free (i:=0) hb1
 have l0:w.heap.size<w2.heap.size:=Nat.lt_of_lt_of_le hs0 hK.size
 have l1:w.heap.size+1<w2.heap.size:=Nat.lt_of_lt_of_le hs1 hK.size
 have HK:=Lib.hid hK
 clear hK hb0 hb1 hs0 hs1
 refine leaves_cons (f:=175) (args:=#[.pointer (some ⟨w.heap.size,0,none⟩),.pointer (some ⟨w.heap.size+1,0,none⟩)]) (by simp) (by simp [go_sem]) ?_
 refine (calcD_pan w.heap.size (w.heap.size+1) n _ _ _ w2 k0 k1 k2 f0 f1 f2 (by omega)).mono ?_
 rintro e u' w'' ⟨rfl,rfl,rfl⟩
 have HP:=panW_kept w w2 n (calcW_kept w |>.trans' HK.out)
 obtain ⟨p0,p1,p2⟩:=panW_cells w2 k0 k1 k2 l0 l1 n (Nat.ne_of_lt (Nat.lt_succ_self _))
 generalize panW w2 w.heap.size (w.heap.size+1) n=W at *
 simp [Leaves,settle,results,Tryz.results78,go_sem,p0,p1,p2]
 exact HP
theorem reps_on {Zc:Nat→Prop} {w w':World} {i:Nm} {vs:List Value} {l:List D} (hZ:∀ b,Zc b→b<w.heap.size) (hw:∀ b,b<w.heap.size→w'.heap[b]? = w.heap[b]?) (h:∀ j,j<l.length→Rep (fun o b=>o=true∧Zc b) w i (vs.getD j undef) (dl l j)):∀ j,j<l.length→Rep (fun o b=>o=true∧Zc b) w' i (vs.getD j undef) (dl l j):=
 fun j hj=>(h j hj).mem (fun o b hz=>⟨hz,hw b (hZ b hz.2)⟩)
theorem den_plain {P:Program} {f:FuncId} {ds:List D} {r:Value} (h:∀ (Zc:Nat→Prop) (w:World) (i:Nm) (args:List Value),(∀ b,Zc b→b<w.heap.size)→(∀ k,i k=none)→RepsI (fun o b=>o=true∧Zc b) w i args ds→Calls P f args.toArray w fun e w'=>e = .returned r∧Kept (fun _=>False) w w') {d:D} (hd:∀ Z w i,Rep Z w i r d):Den P f ds d:=fun Zc w i args hZ hi _ ha=>by
 have hi':∀ k,i k=none:=fun k=>hi k (by simp [Hs.keys])
 refine (h Zc w i args hZ hi' ha).mono fun e w' ⟨he,hb⟩=>?_
 exact ⟨r,i,fun _=>False,he,⟨hb.os,hb.tape,hb.output,hb.size,fun b hlt _=>hb.block b hlt id⟩,fun b hb=>hb.elim,fun k hk=>by simp [Hs.keys] at hk,fun k _ _=>hi' k,fun k B b hm=>by simp at hm,fun k B hm=>by simp at hm,⟨fun k B hm=>by simp at hm,fun k k' B B' b hm=>by simp at hm⟩,hd _ _ _⟩
theorem rep_w {Z:Zn} {w:World} {i:Nm} (b:Bool) (s:ByteArray):Rep Z w i (.agg #[.bool b,.string s]) (wS b s):=.agg i [.bool b,.string s] _ rfl (fun j hj=>by
  match j,hj with
  | 0,_=>rfl
  | 1,_=>rfl) (fun j hj=>by
  match j,hj with
  | 0,_=>exact .val _ _
  | 1,_=>exact .val _ _)
theorem w_rep {Z:Zn} {w:World} {i:Nm} {v:Value} {b:Bool} {s:ByteArray} (h:Rep Z w i v (wS b s)):v = .agg #[.bool b,.string s]:=by
 cases h with
 | agg _ vs _ hl _ hr=>
  have h0:=(hr 0 (by simp)).valEq
  have h1:=(hr 1 (by simp)).valEq
  match vs,hl with
  | [x,y],_=>
   simp only [List.getD_cons_zero,List.getD_cons_succ] at h0 h1
   rw [h0,h1]
theorem calc_ok {g:FuncId} {F:Func} [hg:FI Tryz.prog g F] {l:List D} {b:Bool} {s:ByteArray} (h:Den Tryz.prog g l (wS b s)):Den Tryz.prog 78 [.clo g l] (.tup [wS b s,.val (.int .i64 0)]):=by
 refine den_plain (r:=.tuple #[.agg #[.bool b,.string s],.int .i64 0]) (fun Zc w i args hZ hi ha=>?_) (fun Z w i=>?_)
 ·obtain ⟨hl,hr⟩:=ha
  match args,hl with
  | [v],_=>
   have hv:=hr 0 (by simp)
   simp only [List.getD_cons_zero] at hv
   cases hv with
   | clo _ _ vs _ hl2 hr2=>
    refine calc_raw_ok g vs.toArray hg.enters b s w ?_
    refine (h Zc (calcW w) i vs (fun b hb=>by have:=hZ b hb;rw [calcW_size];omega) (fun k _=>hi k) ⟨fun k B hm=>by simp at hm,fun k k' B B' b hm=>by simp at hm⟩ ⟨hl2,reps_on hZ (calcW_old w) hr2⟩).mono ?_
    rintro e w2 ⟨v,i',Zn',he,hK,_,_,_,_,_,_,hrv⟩
    rw [w_rep hrv] at he
    exact ⟨he,hK.os,hK.tape,hK.output,hK.size,fun b hb _=>hK.block b hb (fun ⟨k,c,hk,_⟩=>by simp [Hs.keys] at hk)⟩
 ·refine .tup _ [.agg #[.bool b,.string s],.int .i64 0] _ rfl (fun j hj=>?_)
  match j,hj with
  | 0,_=>exact rep_w b s
  | 1,_=>exact .val _ _
theorem calc_no {g:FuncId} {F:Func} [hg:FI Tryz.prog g F] {l:List D} (n:Nat) (hn:n<1000) (h:DenX Tryz.prog g l (flK n)):Den Tryz.prog 78 [.clo g l] (.tup [wZ,.val (.int .i64 (n:Int))]):=by
 refine den_plain (r:=.tuple #[.agg #[.bool false,.string ⟨#[]⟩],.int .i64 (n:Int)]) (fun Zc w i args hZ hi ha=>?_) (fun Z w i=>?_)
 ·obtain ⟨hl,hr⟩:=ha
  match args,hl with
  | [v],_=>
   have hv:=hr 0 (by simp)
   simp only [List.getD_cons_zero] at hv
   cases hv with
   | clo _ _ vs _ hl2 hr2=>
    refine calc_raw_no g vs.toArray hg.enters n w ?_
    refine (h Zc (calcW w) i vs (fun b hb=>by have:=hZ b hb;rw [calcW_size];omega) (fun k=>hi k) ⟨hl2,reps_on hZ (calcW_old w) hr2⟩).mono ?_
    rintro e w2 ⟨he,hK⟩
    refine ⟨he.trans ?_,hK⟩
    have e1:flK n / 1000=186:=by show (1000*186+n) / 1000=186;omega
    have e2:flK n % 1000=n:=by show (1000*186+n) % 1000=n;omega
    show Ending.panicked (panCh (flK n))=_
    unfold panCh
    rw [e1,e2]
 ·refine .tup _ [.agg #[.bool false,.string ⟨#[]⟩],.int .i64 (n:Int)] _ rfl (fun j hj=>?_)
  match j,hj with
  | 0,_=>exact rep_w _ _
  | 1,_=>exact .val _ _

open Go.RowKit
instance fi78:FI Tryz.prog 78 Tryz.f78:=⟨Tryz.func78,Tryz.call78⟩
instance fi44:FI Tryz.prog 44 Tryz.f44:=⟨Tryz.func44,Tryz.call44⟩
instance fi122:FI Tryz.prog 122 Tryz.f122:=⟨Tryz.func122,Tryz.call122⟩
set_option maxRecDepth 20000
set_option maxHeartbeats 8000000
instance (t:Ts):OldD t.d:=by cases t<;>(unfold Ts.d;infer_instance)
theorem cvt_ft {l:List D}:Cvt (.fptr false l) (.fptr true l):=Cvt.fptr (.inr ⟨rfl,rfl⟩) (Nat.le_refl _) (fun c _=>Cvt.of_eq rfl)
theorem cvt_ts (t:Ts):Cvt t.dF t.d:=by
 cases t with
 | v p=>exact Cvt.clo (.cons cvt_ft .nil)
 | w n l h=>exact Cvt.clo (.cons cvt_ft (.cons cvt_ft (.cons cvt_ft .nil)))
 | b neg s=>exact Cvt.clo (.cons cvt_ft .nil)
theorem cvt_tests (n:Nat) (t:Nat→Ts):Cvt (.fz false n 1 (fun e=>[(t e).dF])) (.fz true n 1 (fun e=>[(t e).d])):=by
 refine Cvt.fz (.inr ⟨rfl,rfl⟩) (fun e _=>⟨rfl,fun c hc=>?_⟩)
 obtain rfl:c=0:=by omega
 exact cvt_ts _
instance (n:Nat) (t:Nat→Ts):Cvt (.fz false n 1 (fun e=>[(t e).dF])) (.fz true n 1 (fun e=>[(t e).d])):=cvt_tests n t
def t2 (a b:Ts):Nat→Ts | 0=>a | _=>b
theorem t2_ok (a b : Ts) : ∀ e, e < 2 → [(t2 a b e).dF].length = 1 ∧ ∀ c, c < 1 → dl [(t2 a b e).dF] c = dl [a.dF, b.dF] (e * 1 + c) := by
  intro e he
  obtain rfl | rfl : e = 0 ∨ e = 1 := by omega
  · exact ⟨rfl, fun c hc => by obtain rfl : c = 0 := by omega
                               rfl⟩
  · exact ⟨rfl, fun c hc => by obtain rfl : c = 0 := by omega
                               rfl⟩
abbrev tB (z:Int):Ts:=.b (decide (z<0)) (strN z.natAbs)
theorem tB_ok {z:Int} (hz:Fz z) (h0:0≤z):(tB z).ok=true:=by
 show (vldB (decide (z<0)) (strN z.natAbs) && !decide (z<0))=true
 rw [hz.ok,decide_eq_false (by omega:¬ z<0)];rfl
theorem add1_ok (a b : Int) (ha : Fz a) (hb : Fz b) (ha0 : 0 ≤ a) (hb0 : 0 ≤ b) (hF : Fz (a + b)) : Den Tryz.prog 122 [.fptr true (zL a), .fptr true (zL b)] (zN (a + b)) := by
  have h1 := nzbound_den (decide (a < 0)) (strN a.natAbs)
  have h2 := nzbound_den (decide (b < 0)) (strN b.natAbs)
  refine den_intro (fn := Tryz.f122) rfl rfl rfl rfl rfl ?_
  refine go ?_
  refine r_call h1 ?_
  refine go ?_
  refine r_call h2 ?_
  refine r_bslF (fun e => [(t2 (tB a) (tB b) e).dF]) ?_ (hf := t2_ok _ _)
  refine r_eqS 7 (.fz false 2 1 (fun e => [(t2 (tB a) (tB b) e).dF])) rfl ?_
  refine r_call (nzrequire_ok 2 (t2 (tB a) (tB b)) (by omega) ?gf ?gk) ?_
  case gf => intro e he; obtain rfl | rfl : e = 0 ∨ e = 1 := by omega
             · trivial
             · trivial
  case gk => intro e he; obtain rfl | rfl : e = 0 ∨ e = 1 := by omega
             · exact tB_ok ha ha0
             · exact tB_ok hb hb0
  refine c_end (by kernel_rfl) ?_
  refine goc ?_
  refine c_reg ?_
  refine go1 ?_
  refine go1 ?_
  refine r_bslF (two2 a b) ?_ (hf := two2_ok a b)
  refine r_eqS 11 (.fz false 2 2 (two2 a b)) rfl ?_
  refine r_call (nzsum_of (n := 2) (pk2 a b) rfl (by omega) (fun j _ => by unfold pk2; split <;> assumption) (by rw [pk2_sum]; exact hF) two2_zL) ?_
  rw [pk2_sum]
  refine go ?_
  refine fin ?_
  exact cv
theorem add1_no (a b : Int) (ha : Fz a) (hb : Fz b) (ha0 : 0 ≤ a) (hb0 : 0 ≤ b) (hF : ¬ Fz (a + b)) : DenX Tryz.prog 122 [.fptr true (zL a), .fptr true (zL b)] (flK 7) := by
  have h1 := nzbound_den (decide (a < 0)) (strN a.natAbs)
  have h2 := nzbound_den (decide (b < 0)) (strN b.natAbs)
  refine den_introX (fn := Tryz.f122) rfl rfl ?_
  refine go ?_
  refine r_call h1 ?_
  refine go ?_
  refine r_call h2 ?_
  refine r_bslF (fun e => [(t2 (tB a) (tB b) e).dF]) ?_ (hf := t2_ok _ _)
  refine r_eqS 7 (.fz false 2 1 (fun e => [(t2 (tB a) (tB b) e).dF])) rfl ?_
  refine r_call (nzrequire_ok 2 (t2 (tB a) (tB b)) (by omega) ?gf ?gk) ?_
  case gf => intro e he; obtain rfl | rfl : e = 0 ∨ e = 1 := by omega
             · trivial
             · trivial
  case gk => intro e he; obtain rfl | rfl : e = 0 ∨ e = 1 := by omega
             · exact tB_ok ha ha0
             · exact tB_ok hb hb0
  refine c_end (by kernel_rfl) ?_
  refine goc ?_
  refine c_reg ?_
  refine go1 ?_
  refine go1 ?_
  refine r_bslF (two2 a b) ?_ (hf := two2_ok a b)
  refine r_eqS 11 (.fz false 2 2 (two2 a b)) rfl ?_
  refine r_callX (nzsum_ofX (n := 2) (pk2 a b) rfl (by omega) (fun j _ => by unfold pk2; split <;> assumption) (fun j _ => by unfold pk2; split <;> assumption) (by rw [pk2_sum]; exact hF) two2_zL) ?_
  refine r_deadE ?_
  refine c_end (by kernel_rfl) ?_
  exact c_dead 12
theorem first_no {n:Nat} {p:Nat→Bool} (h:∃ e,e<n∧p e=false):∃ m,m<n∧(∀ e,e<m→p e=true)∧p m=false:=by
 obtain ⟨e,h1,h2⟩:=h
 induction e using Nat.strongRecOn with
 | ind e ih=>
  by_cases q:∃ j,j<e∧p j=false
  ·obtain ⟨j,j1,j2⟩:=q
   exact ih j j1 (by omega) j2
  ·refine ⟨e,h1,fun j hj=>?_,h2⟩
   cases hp:p j with
   | true=>rfl
   | false=>exact absurd ⟨j,hj,hp⟩ q
theorem nzrequire_fail (n:Nat) (t:Nat→Ts) (hn:n≤10) (hf:∀ e,e<n→(t e).fit) (h:∃ e,e<n∧(t e).ok=false):DenX Tryz.prog 80 [.fz true n 1 (fun e=>[(t e).d])] (flK 2):=by
 obtain ⟨m,h1,h2,h3⟩:=first_no (p:=fun e=>(t e).ok) h
 exact nzrequire_no n m t hn h1 hf h2 h3
theorem add1_arg (na nb : Bool) (sa sb : ByteArray) (h : ((Ts.b na sa).ok && (Ts.b nb sb).ok) = false) : DenX Tryz.prog 122 [.fptr true [.val (.bool na), .val (.string sa)], .fptr true [.val (.bool nb), .val (.string sb)]] (flK 2) := by
  have h1 := nzbound_den na sa
  have h2 := nzbound_den nb sb
  refine den_introX (fn := Tryz.f122) rfl rfl ?_
  refine go ?_
  refine r_call h1 ?_
  refine go ?_
  refine r_call h2 ?_
  refine r_bslF (fun e => [(t2 (.b na sa) (.b nb sb) e).dF]) ?_ (hf := t2_ok _ _)
  refine r_eqS 7 (.fz false 2 1 (fun e => [(t2 (.b na sa) (.b nb sb) e).dF])) rfl ?_
  refine r_callX (nzrequire_fail 2 (t2 (.b na sa) (.b nb sb)) (by omega) ?gf ?gk) ?_
  case gf => intro e he; obtain rfl | rfl : e = 0 ∨ e = 1 := by omega
             · trivial
             · trivial
  case gk =>
    cases q : (Ts.b na sa).ok with
    | false => exact ⟨0, by omega, q⟩
    | true => rw [q] at h; rw [Bool.true_and] at h; exact ⟨1, by omega, h⟩
  refine c_end (by kernel_rfl) ?_
  exact c_dead 8
theorem nzAdd_of (na nb b:Bool) (sa sb s:ByteArray) (e:Int) (h:Den Tryz.prog 78 [.clo 122 [.fptr true [.val (.bool na),.val (.string sa)],.fptr true [.val (.bool nb),.val (.string sb)]]] (.tup [wS b s,.val (.int .i64 e)])) :
  Den Tryz.prog 44 [wS na sa,wS nb sb] (.tup [wS b s,.val (.int .i64 e)]):=by
 refine den_intro (fn:=Tryz.f44) rfl rfl rfl rfl rfl ?_
 refine go ?_
 refine r_call h ?_
 refine go ?_
 refine fin ?_
 exact cv
theorem nzAdd_Z (a b:Int) (ha:Fz a) (hb:Fz b) (ha0:0≤a) (hb0:0≤b):Den Tryz.prog 44 [zN a,zN b] (resZ (a+b)):=by
 by_cases hF:Fz (a+b)
 ·rw [resZ_ok hF]
  exact nzAdd_of _ _ _ _ _ _ _ (calc_ok (add1_ok a b ha hb ha0 hb0 hF))
 ·rw [resZ_no hF]
  exact nzAdd_of _ _ _ _ _ _ _ (calc_no 7 (by omega) (add1_no a b ha hb ha0 hb0 hF))
theorem nzAdd_bad (na nb:Bool) (sa sb:ByteArray) (h:((Ts.b na sa).ok && (Ts.b nb sb).ok)=false):Den Tryz.prog 44 [wS na sa,wS nb sb] (.tup [wZ,.val (.int .i64 2)]):=
 nzAdd_of _ _ _ _ _ _ _ (calc_no 2 (by omega) (add1_arg na nb sa sb h))

instance fi46:FI Tryz.prog 46 Tryz.f46:=⟨Tryz.func46,Tryz.call46⟩
instance fi123:FI Tryz.prog 123 Tryz.f123:=⟨Tryz.func123,Tryz.call123⟩
theorem t1_ok (a : Ts) : ∀ e, e < 1 → [a.dF].length = 1 ∧ ∀ c, c < 1 → dl [a.dF] c = dl [a.dF] (e * 1 + c) := by
  intro e he
  obtain rfl : e = 0 := by omega
  exact ⟨rfl, fun c hc => by obtain rfl : c = 0 := by omega
                             rfl⟩
theorem times1_ok (a n:Int) (ha:Fz a) (ha0:0≤a) (h1 : -9223372036854775808≤n) (h2:n≤9223372036854775807) (hF:Fz (a*n.natAbs)):Den Tryz.prog 123 [.fptr true (zL a),.fptr true [.val (.int .i64 n)]] (zN (a*n.natAbs)):=by
 have hb:=nzbound_den (decide (a<0)) (strN a.natAbs)
 have hn:=Fz.i64 h1 h2
 have hna:Fz (n.natAbs:Int):=by unfold Fz at hn ⊢;simpa using hn
 have ho:=wOf_den n h1 h2
 have hA:=wAbs_den n hn
 have hm:=wMul_den a n.natAbs ha hna
 rw [resZ_ok hF] at hm
 refine den_intro (fn:=Tryz.f123) rfl rfl rfl rfl rfl ?_
 refine go ?_
 refine r_call hb ?_
 refine r_bslF (fun _=>[(tB a).dF]) ?_ (hf:=t1_ok _)
 refine r_eqS 5 (.fz false 1 1 (fun _=>[(tB a).dF])) rfl ?_
 refine r_call (nzrequire_ok 1 (fun _=>tB a) (by omega) (fun _ _=>trivial) (fun _ _=>tB_ok ha ha0)) ?_
 refine go ?_
 refine r_call ho ?_
 refine go ?_
 refine r_call hA ?_
 refine go ?_
 refine r_call (nzmust_ok _ _) ?_
 refine go ?_
 refine r_call hm ?_
 refine go ?_
 refine r_call (nzmust_ok _ _) ?_
 refine go ?_
 refine fin ?_
 exact cv
theorem times1_no (a n:Int) (ha:Fz a) (ha0:0≤a) (h1 : -9223372036854775808≤n) (h2:n≤9223372036854775807) (hF:¬ Fz (a*n.natAbs)):DenX Tryz.prog 123 [.fptr true (zL a),.fptr true [.val (.int .i64 n)]] (flK 7):=by
 have hb:=nzbound_den (decide (a<0)) (strN a.natAbs)
 have hn:=Fz.i64 h1 h2
 have hna:Fz (n.natAbs:Int):=by unfold Fz at hn ⊢;simpa using hn
 have ho:=wOf_den n h1 h2
 have hA:=wAbs_den n hn
 have hm:=wMul_den a n.natAbs ha hna
 rw [resZ_no hF] at hm
 refine den_introX (fn:=Tryz.f123) rfl rfl ?_
 refine go ?_
 refine r_call hb ?_
 refine r_bslF (fun _=>[(tB a).dF]) ?_ (hf:=t1_ok _)
 refine r_eqS 5 (.fz false 1 1 (fun _=>[(tB a).dF])) rfl ?_
 refine r_call (nzrequire_ok 1 (fun _=>tB a) (by omega) (fun _ _=>trivial) (fun _ _=>tB_ok ha ha0)) ?_
 refine go ?_
 refine r_call ho ?_
 refine go ?_
 refine r_call hA ?_
 refine go ?_
 refine r_call (nzmust_ok _ _) ?_
 refine go ?_
 refine r_call hm ?_
 refine go1 ?_
 refine go1 ?_
 refine r_callX (nzmust_no _ _) ?_
 refine r_deadE ?_
 refine c_end (by kernel_rfl) ?_
 exact c_dead 17
theorem times1_arg (na:Bool) (sa:ByteArray) (n:Int) (h:(Ts.b na sa).ok=false):DenX Tryz.prog 123 [.fptr true [.val (.bool na),.val (.string sa)],.fptr true [.val (.int .i64 n)]] (flK 2):=by
 have hb:=nzbound_den na sa
 refine den_introX (fn:=Tryz.f123) rfl rfl ?_
 refine go ?_
 refine r_call hb ?_
 refine r_bslF (fun _=>[(Ts.b na sa).dF]) ?_ (hf:=t1_ok _)
 refine r_eqS 5 (.fz false 1 1 (fun _=>[(Ts.b na sa).dF])) rfl ?_
 refine r_callX (nzrequire_fail 1 (fun _=>.b na sa) (by omega) (fun _ _=>trivial) ⟨0,by omega,h⟩) ?_
 refine c_end (by kernel_rfl) ?_
 exact c_dead 6
theorem nzTimes_of (na b:Bool) (sa s:ByteArray) (n e:Int) (h:Den Tryz.prog 78 [.clo 123 [.fptr true [.val (.bool na),.val (.string sa)],.fptr true [.val (.int .i64 n)]]] (.tup [wS b s,.val (.int .i64 e)])) :
  Den Tryz.prog 46 [wS na sa,.val (.int .i64 n)] (.tup [wS b s,.val (.int .i64 e)]):=by
 refine den_intro (fn:=Tryz.f46) rfl rfl rfl rfl rfl ?_
 refine go ?_
 refine r_call h ?_
 refine go ?_
 refine fin ?_
 exact cv
theorem nzTimes_Z (a n:Int) (ha:Fz a) (ha0:0≤a) (h1 : -9223372036854775808≤n) (h2:n≤9223372036854775807):Den Tryz.prog 46 [zN a,.val (.int .i64 n)] (resZ (a*n.natAbs)):=by
 by_cases hF:Fz (a*n.natAbs)
 ·rw [resZ_ok hF]
  exact nzTimes_of _ _ _ _ _ _ (calc_ok (times1_ok a n ha ha0 h1 h2 hF))
 ·rw [resZ_no hF]
  exact nzTimes_of _ _ _ _ _ _ (calc_no 7 (by omega) (times1_no a n ha ha0 h1 h2 hF))
theorem nzTimes_bad (na:Bool) (sa:ByteArray) (n:Int) (h:(Ts.b na sa).ok=false):Den Tryz.prog 46 [wS na sa,.val (.int .i64 n)] (.tup [wZ,.val (.int .i64 2)]):=
 nzTimes_of _ _ _ _ _ _ (calc_no 2 (by omega) (times1_arg na sa n h))

instance fi48:FI Tryz.prog 48 Tryz.f48:=⟨Tryz.func48,Tryz.call48⟩
instance fi126:FI Tryz.prog 126 Tryz.f126:=⟨Tryz.func126,Tryz.call126⟩
def t3 (a b c:Ts):Nat→Ts | 0=>a | 1=>b | _=>c
theorem t3_ok (a b c : Ts) : ∀ e, e < 3 → [(t3 a b c e).dF].length = 1 ∧ ∀ j, j < 1 → dl [(t3 a b c e).dF] j = dl [a.dF, b.dF, c.dF] (e * 1 + j) := by
  intro e he
  obtain rfl | rfl | rfl : e = 0 ∨ e = 1 ∨ e = 2 := by omega
  · exact ⟨rfl, fun c hc => by obtain rfl : c = 0 := by omega
                               rfl⟩
  · exact ⟨rfl, fun c hc => by obtain rfl : c = 0 := by omega
                               rfl⟩
  · exact ⟨rfl, fun c hc => by obtain rfl : c = 0 := by omega
                               rfl⟩
theorem Fz.mulL {x n:Int} (hx:0≤x) (hn:1≤n) (h:Fz (x*n)):Fz x:=h.le (by
 have h1:x*1≤x*n:=Int.mul_le_mul_of_nonneg_left hn hx
 omega)
theorem mul1_ok (p : PD) (a b : Int) (hp : PFit p) (hg : goodB p = true) (ha : Fz a) (hb : Fz b) (ha0 : 0 ≤ a) (hb0 : 0 ≤ b) (hF1 : Fz (a * b)) (hF : Fz (a * b * p.n)) : Den Tryz.prog 126 [.fptr true (parL true p), .fptr true (zL a), .fptr true (zL b)] (zN (a * b * p.n)) := by
  have hv := nzvalid_den p
  have h1 := nzbound_den (decide (a < 0)) (strN a.natAbs)
  have h2 := nzbound_den (decide (b < 0)) (strN b.natAbs)
  have ho := wOf_den p.n hp.n1 hp.n2
  have hm := wMul_den a b ha hb
  rw [resZ_ok hF1] at hm
  have hm2 := wMul_den (a * b) p.n hF1 (Fz.i64 hp.n1 hp.n2)
  rw [resZ_ok hF] at hm2
  refine den_intro (fn := Tryz.f126) rfl rfl rfl rfl rfl ?_
  refine go ?_
  refine r_callO hv ?_
  refine go ?_
  refine r_call h1 ?_
  refine go ?_
  refine r_call h2 ?_
  refine r_bslF (fun e => [(t3 (.v p) (tB a) (tB b) e).dF]) ?_ (hf := t3_ok _ _ _)
  refine r_eqS 10 (.fz false 3 1 (fun e => [(t3 (.v p) (tB a) (tB b) e).dF])) rfl ?_
  refine r_call (nzrequire_ok 3 (t3 (.v p) (tB a) (tB b)) (by omega) ?gf ?gk) ?_
  case gf => intro e he; obtain rfl | rfl | rfl : e = 0 ∨ e = 1 ∨ e = 2 := by omega
             · exact hp
             · trivial
             · trivial
  case gk => intro e he; obtain rfl | rfl | rfl : e = 0 ∨ e = 1 ∨ e = 2 := by omega
             · exact hg
             · exact tB_ok ha ha0
             · exact tB_ok hb hb0
  refine go ?_
  refine r_call hm ?_
  refine go ?_
  refine r_call (nzmust_ok _ _) ?_
  refine go ?_
  refine r_call ho ?_
  refine go ?_
  refine r_call hm2 ?_
  refine go ?_
  refine r_call (nzmust_ok _ _) ?_
  refine go ?_
  refine fin ?_
  exact cv
theorem mul1_no2 (p : PD) (a b : Int) (hp : PFit p) (hg : goodB p = true) (ha : Fz a) (hb : Fz b) (ha0 : 0 ≤ a) (hb0 : 0 ≤ b) (hF1 : Fz (a * b)) (hF : ¬ Fz (a * b * p.n)) : DenX Tryz.prog 126 [.fptr true (parL true p), .fptr true (zL a), .fptr true (zL b)] (flK 7) := by
  have hv := nzvalid_den p
  have h1 := nzbound_den (decide (a < 0)) (strN a.natAbs)
  have h2 := nzbound_den (decide (b < 0)) (strN b.natAbs)
  have ho := wOf_den p.n hp.n1 hp.n2
  have hm := wMul_den a b ha hb
  rw [resZ_ok hF1] at hm
  have hm2 := wMul_den (a * b) p.n hF1 (Fz.i64 hp.n1 hp.n2)
  rw [resZ_no hF] at hm2
  refine den_introX (fn := Tryz.f126) rfl rfl ?_
  refine go ?_
  refine r_callO hv ?_
  refine go ?_
  refine r_call h1 ?_
  refine go ?_
  refine r_call h2 ?_
  refine r_bslF (fun e => [(t3 (.v p) (tB a) (tB b) e).dF]) ?_ (hf := t3_ok _ _ _)
  refine r_eqS 10 (.fz false 3 1 (fun e => [(t3 (.v p) (tB a) (tB b) e).dF])) rfl ?_
  refine r_call (nzrequire_ok 3 (t3 (.v p) (tB a) (tB b)) (by omega) ?gf ?gk) ?_
  case gf => intro e he; obtain rfl | rfl | rfl : e = 0 ∨ e = 1 ∨ e = 2 := by omega
             · exact hp
             · trivial
             · trivial
  case gk => intro e he; obtain rfl | rfl | rfl : e = 0 ∨ e = 1 ∨ e = 2 := by omega
             · exact hg
             · exact tB_ok ha ha0
             · exact tB_ok hb hb0
  refine go ?_
  refine r_call hm ?_
  refine go ?_
  refine r_call (nzmust_ok _ _) ?_
  refine go ?_
  refine r_call ho ?_
  refine go ?_
  refine r_call hm2 ?_
  refine go1 ?_
  refine go1 ?_
  refine r_callX (nzmust_no _ _) ?_
  refine r_deadE ?_
  refine c_end (by kernel_rfl) ?_
  exact c_dead 24
theorem mul1_no1 (p : PD) (a b : Int) (hp : PFit p) (hg : goodB p = true) (ha : Fz a) (hb : Fz b) (ha0 : 0 ≤ a) (hb0 : 0 ≤ b) (hF1 : ¬ Fz (a * b)) : DenX Tryz.prog 126 [.fptr true (parL true p), .fptr true (zL a), .fptr true (zL b)] (flK 7) := by
  have hv := nzvalid_den p
  have h1 := nzbound_den (decide (a < 0)) (strN a.natAbs)
  have h2 := nzbound_den (decide (b < 0)) (strN b.natAbs)
  have ho := wOf_den p.n hp.n1 hp.n2
  have hm := wMul_den a b ha hb
  rw [resZ_no hF1] at hm
  refine den_introX (fn := Tryz.f126) rfl rfl ?_
  refine go ?_
  refine r_callO hv ?_
  refine go ?_
  refine r_call h1 ?_
  refine go ?_
  refine r_call h2 ?_
  refine r_bslF (fun e => [(t3 (.v p) (tB a) (tB b) e).dF]) ?_ (hf := t3_ok _ _ _)
  refine r_eqS 10 (.fz false 3 1 (fun e => [(t3 (.v p) (tB a) (tB b) e).dF])) rfl ?_
  refine r_call (nzrequire_ok 3 (t3 (.v p) (tB a) (tB b)) (by omega) ?gf ?gk) ?_
  case gf => intro e he; obtain rfl | rfl | rfl : e = 0 ∨ e = 1 ∨ e = 2 := by omega
             · exact hp
             · trivial
             · trivial
  case gk => intro e he; obtain rfl | rfl | rfl : e = 0 ∨ e = 1 ∨ e = 2 := by omega
             · exact hg
             · exact tB_ok ha ha0
             · exact tB_ok hb hb0
  refine go ?_
  refine r_call hm ?_
  refine go1 ?_
  refine go1 ?_
  refine r_callX (nzmust_no _ _) ?_
  refine go1 ?_
  refine go1 ?_
  refine r_call ho ?_
  refine r_dead ?_
  refine r_dead ?_
  refine r_dead ?_
  refine r_dead ?_
  refine r_deadE ?_
  refine c_end (by kernel_rfl) ?_
  exact c_dead 24
theorem mul1_arg (p : PD) (na nb : Bool) (sa sb : ByteArray) (hp : PFit p) (h : (goodB p && (Ts.b na sa).ok && (Ts.b nb sb).ok) = false) : DenX Tryz.prog 126 [.fptr true (parL true p), .fptr true [.val (.bool na), .val (.string sa)], .fptr true [.val (.bool nb), .val (.string sb)]] (flK 2) := by
  have hv := nzvalid_den p
  have h1 := nzbound_den na sa
  have h2 := nzbound_den nb sb
  refine den_introX (fn := Tryz.f126) rfl rfl ?_
  refine go ?_
  refine r_callO hv ?_
  refine go ?_
  refine r_call h1 ?_
  refine go ?_
  refine r_call h2 ?_
  refine r_bslF (fun e => [(t3 (.v p) (.b na sa) (.b nb sb) e).dF]) ?_ (hf := t3_ok _ _ _)
  refine r_eqS 10 (.fz false 3 1 (fun e => [(t3 (.v p) (.b na sa) (.b nb sb) e).dF])) rfl ?_
  refine r_callX (nzrequire_fail 3 (t3 (.v p) (.b na sa) (.b nb sb)) (by omega) ?gf ?gk) ?_
  case gf => intro e he; obtain rfl | rfl | rfl : e = 0 ∨ e = 1 ∨ e = 2 := by omega
             · exact hp
             · trivial
             · trivial
  case gk =>
    cases q : goodB p with
    | false => exact ⟨0, by omega, q⟩
    | true =>
      rw [q, Bool.true_and] at h
      cases q2 : (Ts.b na sa).ok with
      | false => exact ⟨1, by omega, q2⟩
      | true => rw [q2, Bool.true_and] at h; exact ⟨2, by omega, h⟩
  refine c_end (by kernel_rfl) ?_
  exact c_dead 11
theorem nzMul_of (p:PD) (na nb b:Bool) (sa sb s:ByteArray) (e:Int) (h:Den Tryz.prog 78 [.clo 126 [.fptr true (parL true p),.fptr true [.val (.bool na),.val (.string sa)],.fptr true [.val (.bool nb),.val (.string sb)]]] (.tup [wS b s,.val (.int .i64 e)])) :
  Den Tryz.prog 48 [.agg (parL true p),wS na sa,wS nb sb] (.tup [wS b s,.val (.int .i64 e)]):=by
 refine den_intro (fn:=Tryz.f48) rfl rfl rfl rfl rfl ?_
 refine go ?_
 refine r_call h ?_
 refine go ?_
 refine fin ?_
 exact cv
theorem nzMul_Z (p:PD) (a b:Int) (hp:PFit p) (hg:goodB p=true) (ha:Fz a) (hb:Fz b) (ha0:0≤a) (hb0:0≤b):Den Tryz.prog 48 [.agg (parL true p),zN a,zN b] (resZ (a*b*p.n)):=by
 have hn:1≤p.n:=by
  have h4:p.n=4∨p.n=8∨p.n=16∨p.n=32:=(goodB_iff.1 hg).1
  omega
 by_cases hF:Fz (a*b*p.n)
 ·rw [resZ_ok hF]
  exact nzMul_of _ _ _ _ _ _ _ _ (calc_ok (mul1_ok p a b hp hg ha hb ha0 hb0 (Fz.mulL (Int.mul_nonneg ha0 hb0) hn hF) hF))
 ·rw [resZ_no hF]
  by_cases hF1:Fz (a*b)
  ·exact nzMul_of _ _ _ _ _ _ _ _ (calc_no 7 (by omega) (mul1_no2 p a b hp hg ha hb ha0 hb0 hF1 hF))
  ·exact nzMul_of _ _ _ _ _ _ _ _ (calc_no 7 (by omega) (mul1_no1 p a b hp hg ha hb ha0 hb0 hF1))
theorem nzMul_bad (p:PD) (na nb:Bool) (sa sb:ByteArray) (hp:PFit p) (h:(goodB p && (Ts.b na sa).ok && (Ts.b nb sb).ok)=false):Den Tryz.prog 48 [.agg (parL true p),wS na sa,wS nb sb] (.tup [wZ,.val (.int .i64 2)]):=
 nzMul_of _ _ _ _ _ _ _ _ (calc_no 2 (by omega) (mul1_arg p na nb sa sb hp h))

instance fi29:FI Tryz.prog 29 Tryz.f29:=⟨Tryz.func29,Tryz.call29⟩
instance fi105:FI Tryz.prog 105 Tryz.f105:=⟨Tryz.func105,Tryz.call105⟩
theorem divide1_ok (p : PD) (a : Int) (hp : PFit p) (hg : goodB p = true) (ha : Fz a) (ha0 : 0 ≤ a) (hq : 1 ≤ p.prime) : Den Tryz.prog 105 [.fptr true (parL true p), .fptr true (zL a)] (zN (a / p.prime)) := by
  have hv := nzvalid_den p
  have h1 := nzbound_den (decide (a < 0)) (strN a.natAbs)
  have hpp := hp.prime
  have ho := wOf_den (p.prime : Int) (by omega) (by omega)
  have hb0 : (0 : Int) < p.prime := by omega
  have e1 : qtV p.prime 1 a 0 = a / p.prime := by rw [qtV_eq hb0]; congr 1; omega
  have m1 : a % (p.prime : Int) ≤ a := by
    have := Int.mul_ediv_add_emod a p.prime
    have := Int.mul_nonneg (Int.le_of_lt hb0) (Int.ediv_nonneg ha0 (Int.le_of_lt hb0))
    omega
  have m0 : 0 ≤ a % (p.prime : Int) := Int.emod_nonneg _ (by omega)
  have m2 : a / (p.prime : Int) ≤ a := Int.ediv_le_self _ ha0
  have m3 : 0 ≤ a / (p.prime : Int) := Int.ediv_nonneg ha0 (Int.le_of_lt hb0)
  have hqt := nzqt_nil_ok p.prime 1 a hb0 (Fz.i64 (by omega) (by omega)) ha0 ha (by omega) (by omega) (ha.le (by omega)) (by rw [e1]; exact ha.le (by omega))
  rw [e1] at hqt
  refine den_intro (fn := Tryz.f105) rfl rfl rfl rfl rfl ?_
  refine go ?_
  refine r_callO hv ?_
  refine go ?_
  refine r_call h1 ?_
  refine r_bslF (fun e => [(t2 (.v p) (tB a) e).dF]) ?_ (hf := t2_ok _ _)
  refine r_eqS 7 (.fz false 2 1 (fun e => [(t2 (.v p) (tB a) e).dF])) rfl ?_
  refine r_call (nzrequire_ok 2 (t2 (.v p) (tB a)) (by omega) ?gf ?gk) ?_
  case gf => intro e he; obtain rfl | rfl : e = 0 ∨ e = 1 := by omega
             · exact hp
             · trivial
  case gk => intro e he; obtain rfl | rfl : e = 0 ∨ e = 1 := by omega
             · exact hg
             · exact tB_ok ha ha0
  refine go ?_
  refine r_call ho ?_
  refine go ?_
  refine r_call hqt ?_
  refine go ?_
  refine fin ?_
  exact cv
theorem divide1_arg (p : PD) (na : Bool) (sa : ByteArray) (hp : PFit p) (h : (goodB p && (Ts.b na sa).ok) = false) : DenX Tryz.prog 105 [.fptr true (parL true p), .fptr true [.val (.bool na), .val (.string sa)]] (flK 2) := by
  have hv := nzvalid_den p
  have h1 := nzbound_den na sa
  refine den_introX (fn := Tryz.f105) rfl rfl ?_
  refine go ?_
  refine r_callO hv ?_
  refine go ?_
  refine r_call h1 ?_
  refine r_bslF (fun e => [(t2 (.v p) (.b na sa) e).dF]) ?_ (hf := t2_ok _ _)
  refine r_eqS 7 (.fz false 2 1 (fun e => [(t2 (.v p) (.b na sa) e).dF])) rfl ?_
  refine r_callX (nzrequire_fail 2 (t2 (.v p) (.b na sa)) (by omega) ?gf ?gk) ?_
  case gf => intro e he; obtain rfl | rfl : e = 0 ∨ e = 1 := by omega
             · exact hp
             · trivial
  case gk =>
    cases q : goodB p with
    | false => exact ⟨0, by omega, q⟩
    | true => rw [q, Bool.true_and] at h; exact ⟨1, by omega, h⟩
  refine c_end (by kernel_rfl) ?_
  exact c_dead 8
theorem nzDivide_of (p:PD) (na b:Bool) (sa s:ByteArray) (e:Int) (h:Den Tryz.prog 78 [.clo 105 [.fptr true (parL true p),.fptr true [.val (.bool na),.val (.string sa)]]] (.tup [wS b s,.val (.int .i64 e)])) :
  Den Tryz.prog 29 [.agg (parL true p),wS na sa] (.tup [wS b s,.val (.int .i64 e)]):=by
 refine den_intro (fn:=Tryz.f29) rfl rfl rfl rfl rfl ?_
 refine go ?_
 refine r_call h ?_
 refine go ?_
 refine fin ?_
 exact cv
theorem nzDivide_Z (p:PD) (a:Int) (hp:PFit p) (hg:goodB p=true) (ha:Fz a) (ha0:0≤a) (hq:1≤p.prime):Den Tryz.prog 29 [.agg (parL true p),zN a] (.tup [zN (a / p.prime),.val (.int .i64 0)]):=
 nzDivide_of _ _ _ _ _ _ (calc_ok (divide1_ok p a hp hg ha ha0 hq))
theorem nzDivide_bad (p:PD) (na:Bool) (sa:ByteArray) (hp:PFit p) (h:(goodB p && (Ts.b na sa).ok)=false):Den Tryz.prog 29 [.agg (parL true p),wS na sa] (.tup [wZ,.val (.int .i64 2)]):=
 nzDivide_of _ _ _ _ _ _ (calc_no 2 (by omega) (divide1_arg p na sa hp h))

instance fi103:FI Tryz.prog 103 Tryz.f103:=⟨Tryz.func103,Tryz.call103⟩
instance fi99:FI Tryz.prog 99 Tryz.f99:=⟨Tryz.func99,Tryz.call99⟩
def z2 (x y:Int):Nat→Int | 0=>x | _=>y
def z3 (x y z:Int):Nat→Int | 0=>x | 1=>y | _=>z
abbrev iD (x:Nat→Int):Nat→List D:=fun e=>[.val (.int .i64 (x e))]
theorem z2_ok (x y : Int) : ∀ e, e < 2 → (iD (z2 x y) e).length = 1 ∧ ∀ c, c < 1 → dl (iD (z2 x y) e) c = dl [.val (.int .i64 x), .val (.int .i64 y)] (e * 1 + c) := by
  intro e he
  obtain rfl | rfl : e = 0 ∨ e = 1 := by omega
  · exact ⟨rfl, fun c hc => by obtain rfl : c = 0 := by omega
                               rfl⟩
  · exact ⟨rfl, fun c hc => by obtain rfl : c = 0 := by omega
                               rfl⟩
theorem sealed1_den (small t h err:Int) (h1 : -9223372036854775808≤small∧small≤9223372036854775807) (h2 : -9223372036854775808≤err∧err≤9223372036854775807):Den Tryz.prog 103 [.val (.int .i64 small),.val (.int .i64 t),.val (.int .i64 h),.val (.int .i64 err)] (zN (prZ (z2 small err) 2)):=by
 have hp:=nzproduct_den 2 (z2 small err) (by omega) (fun j=>by unfold z2;split<;>assumption)
 refine den_intro (fn:=Tryz.f103) rfl rfl rfl rfl rfl ?_
 refine goc ?_
 refine c_reg ?_
 refine go1 ?_
 refine c_end (by kernel_rfl) ?_
 refine goc ?_
 refine c_reg ?_
 refine go1 ?_
 refine go1 ?_
 refine r_bslF (iD (z2 small err)) ?_ (hf:=z2_ok _ _)
 refine r_eqS 11 (.fz false 2 1 (iD (z2 small err))) rfl ?_
 refine r_call hp ?_
 refine go ?_
 refine fin ?_
 exact cv
theorem z3_ok (x y z : Int) : ∀ e, e < 3 → (iD (z3 x y z) e).length = 1 ∧ ∀ c, c < 1 → dl (iD (z3 x y z) e) c = dl [.val (.int .i64 x), .val (.int .i64 y), .val (.int .i64 z)] (e * 1 + c) := by
  intro e he
  obtain rfl | rfl | rfl : e = 0 ∨ e = 1 ∨ e = 2 := by omega
  · exact ⟨rfl, fun c hc => by obtain rfl : c = 0 := by omega
                               rfl⟩
  · exact ⟨rfl, fun c hc => by obtain rfl : c = 0 := by omega
                               rfl⟩
  · exact ⟨rfl, fun c hc => by obtain rfl : c = 0 := by omega
                               rfl⟩
theorem fresh1_den (small t h err:Int) (h1:0≤small∧small≤9223372036854775807) (h2:0≤t∧t≤9223372036854775807) (h3:0≤h∧h≤1000) (h4:0≤err∧err≤9223372036854775807) (hF:Fz (prZ (z3 t h err) 3+prZ (z3 small (h+1) err) 3)) :
  Den Tryz.prog 99 [.val (.int .i64 small),.val (.int .i64 t),.val (.int .i64 h),.val (.int .i64 err)] (zN (prZ (z3 t h err) 3+prZ (z3 small (h+1) err) 3)):=by
 have p1:=nzproduct_den 3 (z3 t h err) (by omega) (fun j=>by unfold z3;split<;>omega)
 have p2:=nzproduct_den 3 (z3 small (h+1) err) (by omega) (fun j=>by unfold z3;split<;>omega)
 have n1:0≤prZ (z3 t h err) 3:=Int.mul_nonneg (Int.mul_nonneg (Int.mul_nonneg (show (0:Int)≤1 by omega) h2.1) h3.1) h4.1
 have n2:0≤prZ (z3 small (h+1) err) 3:=Int.mul_nonneg (Int.mul_nonneg (Int.mul_nonneg (show (0:Int)≤1 by omega) h1.1) (show 0≤h+1 by omega)) h4.1
 refine den_intro (fn:=Tryz.f99) rfl rfl rfl rfl rfl ?_
 refine goc ?_
 refine c_reg ?_
 refine go1 ?_
 refine c_end (by kernel_rfl) ?_
 refine goc ?_
 refine c_reg ?_
 refine go1 ?_
 refine go1 ?_
 refine go1 ?_
 refine r_bslF (iD (z3 t h err)) ?_ (hf:=z3_ok _ _ _)
 refine r_eqS 12 (.fz false 3 1 (iD (z3 t h err))) rfl ?_
 refine r_call p1 ?_
 generalize prZ (z3 t h err) 3=A at *
 refine go1 ?_
 refine go1 ?_
 refine go1 ?_
 refine go1 ?_
 refine r_bslF (iD (z3 small (h+1) err)) ?_ (hf:=z3_ok _ _ _)
 refine r_eqS 18 (.fz false 3 1 (iD (z3 small (h+1) err))) rfl ?_
 refine r_call p2 ?_
 generalize prZ (z3 small (h+1) err) 3=B at *
 refine r_bslF (two2 A B) ?_ (hf:=two2_ok A B)
 refine r_eqS 20 (.fz false 2 2 (two2 A B)) rfl ?_
 refine r_call (nzsum_of (n:=2) (pk2 A B) rfl (by omega) (fun j _=>by unfold pk2;split<;>assumption) (by rw [pk2_sum];exact hF) two2_zL) ?_
 rw [pk2_sum]
 refine go ?_
 refine fin ?_
 exact cv

instance ti122:TI Tryz.prog 122 Tryz.t122 Tryz.t122.desc:=⟨by kernel_rfl,by kernel_rfl⟩
instance fi98:FI Tryz.prog 98 Tryz.f98:=⟨Tryz.func98,Tryz.call98⟩
instance fi188:FI Tryz.prog 188 Tryz.f188:=⟨Tryz.func188,Tryz.call188⟩
theorem good_plain {p:PD} (hg:goodB p=true):3≤p.prime∧p.prime<65536∧1≤p.power∧p.power.toNat≤30∧∀ i,i≤p.power.toNat→1≤p.prime ^ i∧p.prime ^ i≤2147483647:=by
 obtain ⟨_,_,_,_,_,_,⟨h1,h2,_,_,h5,h6⟩,_⟩:=goodB_iff.1 hg
 have h1:3≤p.prime:=h1
 have h6:p.prime ^ p.power.toNat≤2147483647:=h6
 have hp:p.power.toNat≤30:=by
  rcases Nat.lt_or_ge 30 p.power.toNat with q | q
  ·have a1:2 ^ 31≤p.prime ^ p.power.toNat:=Nat.le_trans (Nat.pow_le_pow_right (by omega) q) (Nat.pow_le_pow_left (by omega) _)
   have a2:(2:Nat) ^ 31=2147483648:=by decide
   omega
  ·exact q
 exact ⟨h1,h2,h5,hp,fun i hi=>⟨Nat.pow_pos (by omega),Nat.le_trans (Nat.pow_le_pow_right (by omega) hi) h6⟩⟩
abbrev tW (n l h:Int):Ts:=.w n l h
theorem tW_ok {n l h:Int} (h1:l≤n) (h2:n≤h):(tW n l h).ok=true:=by
 show (decide (l≤n) && decide (n≤h))=true
 rw [decide_eq_true h1,decide_eq_true h2];rfl
theorem tW_no {n l h:Int} (h1:¬ (l≤n∧n≤h)):(tW n l h).ok=false:=by
 show (decide (l≤n) && decide (n≤h))=false
 by_cases q:l≤n
 ·rw [decide_eq_false (fun r=>h1 ⟨q,r⟩),Bool.and_false]
 ·rw [decide_eq_false q,Bool.false_and]
def tl (l:List Ts) (e:Nat):Ts:=l.getD e (.w 0 0 0)
def AllT (P:Ts→Prop):List Ts→Prop
 | []=>True
 | a::l=>P a∧AllT P l
theorem AllT.at {P:Ts→Prop}:∀ {l:List Ts},AllT P l→∀ e,e<l.length→P (tl l e)
 | [],_,e,he=>absurd he (Nat.not_lt_zero _)
 | _::_,h,0,_=>h.1
 | _::_,h,e+1,he=>AllT.at h.2 e (Nat.lt_of_succ_lt_succ he)
noncomputable def okT:List Ts→Bool
 | []=>true
 | a::l=>a.ok && okT l
theorem okT_at:∀ {l:List Ts},okT l=true→∀ e,e<l.length→(tl l e).ok=true
 | [],_,e,he=>absurd he (Nat.not_lt_zero _)
 | _::_,h,0,_=>by
  unfold okT at h
  rw [Bool.and_eq_true] at h
  exact h.1
 | _::_,h,e+1,he=>by
  unfold okT at h
  rw [Bool.and_eq_true] at h
  exact okT_at h.2 e (Nat.lt_of_succ_lt_succ he)
theorem okT_no:∀ {l:List Ts},okT l=false→∃ e,e<l.length∧(tl l e).ok=false
 | [],h=>by cases h
 | a::l,h=>by
  unfold okT at h
  cases q:a.ok with
  | false=>exact ⟨0,Nat.zero_lt_succ _,q⟩
  | true=>
   rw [q,Bool.true_and] at h
   obtain ⟨e,h1,h2⟩:=okT_no h
   exact ⟨e+1,Nat.succ_lt_succ h1,h2⟩
theorem tl_ok (l:List Ts):∀ e,e<l.length→[(tl l e).dF].length=1∧∀ c,c<1→dl [(tl l e).dF] c=dl (l.map Ts.dF) (e*1+c):=by
 intro e he
 refine ⟨rfl,fun c hc=>?_⟩
 obtain rfl:c=0:=by omega
 show (tl l e).dF=_
 rw [Nat.mul_one,Nat.add_zero,dl_eq,List.getD_eq_getElem?_getD,List.getElem?_map,List.getElem?_eq_getElem he]
 unfold tl
 rw [List.getD_eq_getElem?_getD,List.getElem?_eq_getElem he];rfl
theorem require_ok (l:List Ts) (hn:l.length≤10) (hf:AllT Ts.fit l) (hk:okT l=true):Den Tryz.prog 80 [.fz true l.length 1 (fun e=>[(tl l e).d])] (.tup []):=nzrequire_ok l.length (tl l) hn hf.at (okT_at hk)
theorem require_no (l:List Ts) (hn:l.length≤10) (hf:AllT Ts.fit l) (hk:okT l=false):DenX Tryz.prog 80 [.fz true l.length 1 (fun e=>[(tl l e).d])] (flK 2):=nzrequire_fail l.length (tl l) hn hf.at (okT_no hk)
theorem tW_iff {n l h:Int}:(tW n l h).ok=true↔l≤n∧n≤h:=by
 show (decide (l≤n) && decide (n≤h))=true↔_
 simp
theorem tB_iff {b:Bool} {s:ByteArray}:(Ts.b b s).ok=true↔∃ z:Int,0≤z∧Fz z∧b=false∧decide (z<0)=false∧s=strN z.natAbs:=by
 show (vldB b s && !b)=true↔_
 constructor
 ·intro h
  rw [Bool.and_eq_true] at h
  obtain ⟨h1,h2⟩:=h
  have hb:b=false:=by simpa using h2
  subst hb
  obtain ⟨A,v,rfl⟩:=vldB_num h1
  exact ⟨A,by omega,by unfold Fz;rw [Int.natAbs_natCast];exact v.lt,rfl,decide_eq_false (by omega),by rw [Int.natAbs_natCast]⟩
 ·rintro ⟨z,h0,hz,rfl,h1,rfl⟩
  have:=hz.ok
  rw [h1] at this
  rw [this];rfl
theorem fresh1_ok {g:FuncId} {G:Func} [hgi:FI Tryz.prog g G] (p:PD) (ex sm tm:Nat) (most y:Int) (hp:PFit p) (hg:goodB p=true) (e1:1≤ex) (e2:(ex:Int)≤p.power) (hsm:p.prime ^ ex=sm) (htm:p.prime ^ p.power.toNat=tm) (hk1:okT [.v p,tW (ex:Int) (1) (p.power)]=true) (hk2:okT [tW most (0) (((sm - 1) / 2:Nat))]=true) (m1:0≤most) (m2:most≤9223372036854775807) (hy0:0≤y) (hy:Fz y) (hF:Fz (most+y))
  (hden:Den Tryz.prog g [.val (.int .i64 (sm:Int)),.val (.int .i64 (tm:Int)),.val (.int .i64 p.weight),.val (.int .i64 (p.err:Int))] (zN y)) :
  Den Tryz.prog 188 [.fptr true (parL true p),.fptr true [.val (.int .i64 (ex:Int))],.fptr true [.val (.int .i64 most)],.fptr true [.val (.func (.func g) #[] #[])]] (zN (most+y)):=by
 obtain ⟨q1,q2,q3,q4,q5⟩:=good_plain hg
 have q6:=q5 ex (by omega)
 have hM:=nzmodulus_den p ex (fun i hi=>(q5 i (by omega)).2) (by omega)
 rw [hsm] at hM q6
 have hv:=nzvalid_den p
 have hw1:=hp.weight1
 have hw2:=hp.weight2
 have q7:=q5 p.power.toNat (by omega)
 have hM2:=nzmodulus_den p p.power.toNat (fun i hi=>(q5 i hi).2) (by omega)
 rw [show ((p.power.toNat:Nat):Int)=p.power by omega] at hM2
 rw [htm] at hM2 q7
 have ho:=wOf_den most (by omega) (by omega)
 have hpe:=hp.err
 clear hsm htm q5
 refine den_intro (fn:=Tryz.f188) rfl rfl rfl rfl rfl ?_
 refine go ?_
 refine r_callO hv ?_
 refine go ?_
 refine r_call (nzwithin_den (ex:Int) (1) (p.power)) ?_
 refine r_bslF (fun e=>[(tl [.v p,tW (ex:Int) (1) (p.power)] e).dF]) ?_ (hf:=tl_ok [.v p,tW (ex:Int) (1) (p.power)])
 refine r_eqH (.fz false (List.length [.v p,tW (ex:Int) (1) (p.power)]) 1 (fun e=>[(tl [.v p,tW (ex:Int) (1) (p.power)] e).dF])) rfl ?_
 refine r_call (require_ok [.v p,tW (ex:Int) (1) (p.power)] (Nat.le_of_ble_eq_true rfl) ⟨hp,trivial,trivial⟩ hk1) ?_
 refine go ?_
 refine r_call hM ?_
 refine go ?_
 refine r_call (nzwithin_den most (0) (((sm - 1) / 2:Nat))) ?_
 refine r_bslF (fun e=>[(tl [tW most (0) (((sm - 1) / 2:Nat))] e).dF]) ?_ (hf:=tl_ok [tW most (0) (((sm - 1) / 2:Nat))])
 refine r_eqH (.fz false (List.length [tW most (0) (((sm - 1) / 2:Nat))]) 1 (fun e=>[(tl [tW most (0) (((sm - 1) / 2:Nat))] e).dF])) rfl ?_
 refine r_call (require_ok [tW most (0) (((sm - 1) / 2:Nat))] (Nat.le_of_ble_eq_true rfl) ⟨trivial,trivial⟩ hk2) ?_
 refine c_end (by kernel_rfl) ?_
 refine goc ?_
 refine c_reg ?_
 refine go1 ?_
 refine r_call ho ?_
 refine go ?_
 refine r_call hM2 ?_
 refine go ?_
 refine r_call hden ?_
 refine r_bslF (two2 most y) ?_ (hf:=two2_ok most y)
 refine r_eqH (.fz false 2 2 (two2 most y)) rfl ?_
 refine r_call (nzsum_of (n:=2) (pk2 most y) rfl (by omega) (fun j _=>by unfold pk2;split<;>assumption) (by rw [pk2_sum];exact hF) two2_zL) ?_
 rw [pk2_sum]
 refine go ?_
 refine fin ?_
 exact cv
theorem fresh1_arg {g:FuncId} {G:Func} [hgi:FI Tryz.prog g G] (p:PD) (ex most:Int) (hp:PFit p) (hk1:okT [.v p,tW ex (1) (p.power)]=false) :
  DenX Tryz.prog 188 [.fptr true (parL true p),.fptr true [.val (.int .i64 ex)],.fptr true [.val (.int .i64 most)],.fptr true [.val (.func (.func g) #[] #[])]] (flK 2):=by
 have hv:=nzvalid_den p
 refine den_introX (fn:=Tryz.f188) rfl rfl ?_
 refine go ?_
 refine r_callO hv ?_
 refine go ?_
 refine r_call (nzwithin_den ex (1) (p.power)) ?_
 refine r_bslF (fun e=>[(tl [.v p,tW ex (1) (p.power)] e).dF]) ?_ (hf:=tl_ok [.v p,tW ex (1) (p.power)])
 refine r_eqH (.fz false (List.length [.v p,tW ex (1) (p.power)]) 1 (fun e=>[(tl [.v p,tW ex (1) (p.power)] e).dF])) rfl ?_
 refine r_callX (require_no [.v p,tW ex (1) (p.power)] (Nat.le_of_ble_eq_true rfl) ⟨hp,trivial,trivial⟩ hk1) ?_
 refine c_end (by kernel_rfl) ?_
 exact c_deadF
theorem fresh1_arg2 {g:FuncId} {G:Func} [hgi:FI Tryz.prog g G] (p:PD) (ex sm:Nat) (most:Int) (hp:PFit p) (hg:goodB p=true) (e1:1≤ex) (e2:(ex:Int)≤p.power) (hsm:p.prime ^ ex=sm) (hk1:okT [.v p,tW (ex:Int) (1) (p.power)]=true) (hk2:okT [tW most (0) (((sm - 1) / 2:Nat))]=false) :
  DenX Tryz.prog 188 [.fptr true (parL true p),.fptr true [.val (.int .i64 (ex:Int))],.fptr true [.val (.int .i64 most)],.fptr true [.val (.func (.func g) #[] #[])]] (flK 2):=by
 obtain ⟨q1,q2,q3,q4,q5⟩:=good_plain hg
 have q6:=q5 ex (by omega)
 have hM:=nzmodulus_den p ex (fun i hi=>(q5 i (by omega)).2) (by omega)
 rw [hsm] at hM q6
 have hv:=nzvalid_den p
 have hw1:=hp.weight1
 have hw2:=hp.weight2
 clear hsm q5
 refine den_introX (fn:=Tryz.f188) rfl rfl ?_
 refine go ?_
 refine r_callO hv ?_
 refine go ?_
 refine r_call (nzwithin_den (ex:Int) (1) (p.power)) ?_
 refine r_bslF (fun e=>[(tl [.v p,tW (ex:Int) (1) (p.power)] e).dF]) ?_ (hf:=tl_ok [.v p,tW (ex:Int) (1) (p.power)])
 refine r_eqH (.fz false (List.length [.v p,tW (ex:Int) (1) (p.power)]) 1 (fun e=>[(tl [.v p,tW (ex:Int) (1) (p.power)] e).dF])) rfl ?_
 refine r_call (require_ok [.v p,tW (ex:Int) (1) (p.power)] (Nat.le_of_ble_eq_true rfl) ⟨hp,trivial,trivial⟩ hk1) ?_
 refine go ?_
 refine r_call hM ?_
 refine go ?_
 refine r_call (nzwithin_den most (0) (((sm - 1) / 2:Nat))) ?_
 refine r_bslF (fun e=>[(tl [tW most (0) (((sm - 1) / 2:Nat))] e).dF]) ?_ (hf:=tl_ok [tW most (0) (((sm - 1) / 2:Nat))])
 refine r_eqH (.fz false (List.length [tW most (0) (((sm - 1) / 2:Nat))]) 1 (fun e=>[(tl [tW most (0) (((sm - 1) / 2:Nat))] e).dF])) rfl ?_
 refine r_callX (require_no [tW most (0) (((sm - 1) / 2:Nat))] (Nat.le_of_ble_eq_true rfl) ⟨trivial,trivial⟩ hk2) ?_
 refine c_end (by kernel_rfl) ?_
 exact c_deadF
noncomputable def freshOk (p:PD) (most ex:Int):Bool:=okT [.v p,tW ex (1) (p.power)] && okT [tW most (0) (((p.prime ^ ex.toNat - 1) / 2:Nat))]
theorem fresh_of {g:FuncId} {G:Func} [hgi:FI Tryz.prog g G] (p:PD) (most ex:Int) (b:Bool) (s:ByteArray) (e:Int) (h:Den Tryz.prog 78 [.clo 188 [.fptr true (parL true p),.fptr true [.val (.int .i64 ex)],.fptr true [.val (.int .i64 most)],.fptr true [.val (.func (.func g) #[] #[])]]] (.tup [wS b s,.val (.int .i64 e)])) :
  Den Tryz.prog 98 [.agg (parL true p),.val (.int .i64 most),.val (.int .i64 ex),.val (.func (.func g) #[] #[])] (.tup [wS b s,.val (.int .i64 e)]):=by
 refine den_intro (fn:=Tryz.f98) rfl rfl rfl rfl rfl ?_
 refine go ?_
 refine r_call h ?_
 refine go ?_
 refine fin ?_
 exact cv
theorem nzfresh_bad {g:FuncId} {G:Func} [hgi:FI Tryz.prog g G] (p:PD) (most ex:Int) (hp:PFit p) (h:freshOk p most ex=false) :
  Den Tryz.prog 98 [.agg (parL true p),.val (.int .i64 most),.val (.int .i64 ex),.val (.func (.func g) #[] #[])] (.tup [wZ,.val (.int .i64 2)]):=by
 unfold freshOk at h
 cases q:okT [.v p,tW ex (1) (p.power)] with
 | false=>exact fresh_of p most ex _ _ _ (calc_no 2 (by omega) (fresh1_arg p ex most hp q))
 | true=>
  rw [q,Bool.true_and] at h
  have hg:goodB p=true:=okT_at q 0 (by simp)
  have hx:=tW_iff.1 (okT_at q 1 (by simp))
  obtain ⟨x,rfl⟩:∃ x:Nat,ex=(x:Int):=⟨ex.toNat,by omega⟩
  rw [Int.toNat_natCast] at h
  exact fresh_of p most _ _ _ _ (calc_no 2 (by omega) (fresh1_arg2 p x _ most hp hg (by omega) (by omega) rfl q h))
theorem nzfresh_ok {g:FuncId} {G:Func} [hgi:FI Tryz.prog g G] (p:PD) (ex:Nat) (most y:Int) (hp:PFit p) (h:freshOk p most ex=true) (hm:most≤9223372036854775807) (hy0:0≤y) (hy:Fz y) (hF:Fz (most+y))
  (hden:Den Tryz.prog g [.val (.int .i64 ((p.prime ^ ex:Nat):Int)),.val (.int .i64 ((p.prime ^ p.power.toNat:Nat):Int)),.val (.int .i64 p.weight),.val (.int .i64 (p.err:Int))] (zN y)) :
  Den Tryz.prog 98 [.agg (parL true p),.val (.int .i64 most),.val (.int .i64 (ex:Int)),.val (.func (.func g) #[] #[])] (.tup [zN (most+y),.val (.int .i64 0)]):=by
 unfold freshOk at h
 rw [Bool.and_eq_true] at h
 have hg:goodB p=true:=okT_at h.1 0 (by simp)
 have hx:=tW_iff.1 (okT_at h.1 1 (by simp))
 have h2:=h.2
 rw [Int.toNat_natCast] at h2
 have hy2:=tW_iff.1 (okT_at h2 0 (by simp))
 exact fresh_of p most _ _ _ _ (calc_ok (fresh1_ok p ex _ _ most y hp hg (by omega) (by omega) rfl rfl h.1 h2 (by omega) hm hy0 hy hF hden))

def Bb (k:Nat) (z:Int):Prop:=z.natAbs≤256 ^ k
theorem Bb.mono {k m:Nat} {z:Int} (h:Bb k z) (hk:k≤m):Bb m z:=Nat.le_trans h (Nat.pow_le_pow_right (by omega) hk)
theorem Bb.add {k:Nat} {a b:Int} (ha:Bb k a) (hb:Bb k b):Bb (k+1) (a+b):=by
 unfold Bb at *
 rw [Nat.pow_succ]
 have:=Int.natAbs_add_le a b
 omega
theorem Bb.mul {k m:Nat} {a b:Int} (ha:Bb k a) (hb:Bb m b):Bb (k+m) (a*b):=by
 unfold Bb at *
 rw [Int.natAbs_mul,Nat.pow_add]
 exact Nat.mul_le_mul ha hb
theorem Bb.fz {k:Nat} {z:Int} (h:Bb k z) (hk:k<256):Fz z:=Fz.of_lt (Nat.lt_of_le_of_lt h (Nat.pow_lt_pow_right (by omega) hk))
theorem Bb.le {k:Nat} {y z:Int} (h:Bb k z) (h0:0≤y) (h1:y≤z):Bb k y:=by
 unfold Bb at *
 omega
theorem Bb.div {k:Nat} {a b:Int} (h:Bb k a) (h0:0≤a) (hb:0≤b):Bb k (a / b):=h.le (Int.ediv_nonneg h0 hb) (Int.ediv_le_self _ h0)
theorem Bb.mod {k:Nat} {a b:Int} (h:Bb k b) (hb:0<b):Bb k (a % b):=h.le (Int.emod_nonneg _ (by omega)) (Int.le_of_lt (Int.emod_lt_of_pos _ hb))
theorem Bb.i64 {z:Int} (h1 : -9223372036854775808≤z) (h2:z≤9223372036854775807):Bb 8 z:=by
 unfold Bb
 have e:(256:Nat) ^ 8=18446744073709551616:=by decide
 omega
theorem Bb.u32 {z:Int} (h1:0≤z) (h2:z≤4294967295):Bb 4 z:=by
 unfold Bb
 have e:(256:Nat) ^ 4=4294967296:=by decide
 omega
theorem Bb.prZ {k:Nat} {x:Nat→Int}:∀ n,(∀ j,j<n→Bb k (x j))→Bb (k*n) (prZ x n)
 | 0,_=>by
  show (1:Int).natAbs≤256 ^ 0
  decide
 | n+1,h=>by
  show Bb _ (Go.Proofs.YtdcenblblimkfaaGreat.prZ x n*x n)
  rw [Nat.mul_succ]
  exact (Bb.prZ n (fun j hj=>h j (by omega))).mul (h n (by omega))
theorem prZ_pos {x:Nat→Int}:∀ n,(∀ j,j<n→0≤x j)→0≤prZ x n
 | 0,_=>show (0:Int)≤1 by decide
 | n+1,h=>Int.mul_nonneg (prZ_pos n (fun j hj=>h j (by omega))) (h n (by omega))
theorem prZ_pos1 {x:Nat→Int}:∀ n,(∀ j,j<n→1≤x j)→1≤prZ x n
 | 0,_=>show (1:Int)≤1 by decide
 | n+1,h=>by
  have h1:=prZ_pos1 n (fun j hj=>h j (by omega))
  have h2:=h n (by omega)
  show 1≤prZ x n*x n
  have:=Int.mul_le_mul_of_nonneg_left h2 (show 0≤prZ x n by omega)
  omega
theorem smZ_bb {k:Nat} {x:Nat→Int}:∀ n,(∀ j,j<n→(x j).natAbs≤256 ^ k)→(smZ x n).natAbs≤n*256 ^ k
 | 0,_=>by simp [smZ]
 | n+1,h=>by
  have h1:=smZ_bb n (fun j hj=>h j (by omega))
  have h2:=h n (by omega)
  have h3:=Int.natAbs_add_le (smZ x n) (x n)
  show (smZ x n+x n).natAbs≤_
  rw [Nat.succ_mul]
  omega
theorem Bb.smZ {k n:Nat} {x:Nat→Int} (hn:n≤256) (h:∀ j,j<n→Bb k (x j)):Bb (k+1) (smZ x n):=by
 refine Nat.le_trans (smZ_bb n h) ?_
 rw [Nat.pow_succ,Nat.mul_comm]
 exact Nat.mul_le_mul_left _ hn
theorem smZ_pos {x:Nat→Int}:∀ n,(∀ j,j<n→0≤x j)→0≤smZ x n
 | 0,_=>show (0:Int)≤0 by decide
 | n+1,h=>by
  have h1:=smZ_pos n (fun j hj=>h j (by omega))
  have h2:=h n (by omega)
  show 0≤smZ x n+x n
  omega
structure Gn (p:PD):Prop where
 n1:4≤p.n
 n2:p.n≤32
 len1:1≤p.chain.length
 len2:p.chain.length≤24
 weight1:1≤p.weight
 weight2:p.weight≤32
 err:p.err≤64
 special:1073741824<p.special∧p.special≤2147483647∧p.special % 2=1
 chain:∀ i,i<p.chain.length→1073741824<p.chain.getD i 0∧p.chain.getD i 0≤2147483647∧p.chain.getD i 0 % 2=1
theorem goodQ_odd {n t q:Nat} (h:GoodQ (2*n*t) q):q % 2=1:=by
 have:=goodQ_mod (by rw [Nat.mul_assoc];exact Nat.mul_mod_right _ _) h
 unfold modOk at this
 simp at this
 omega
theorem good_gn {p:PD} (hg:goodB p=true):Gn p:=by
 have hG:=goodB_iff.1 hg
 have hn:=(good_VP hG).n
 obtain ⟨_,h2,h3,h4,h5,h6,_,h8,h9,_⟩:=hG
 have h4:1≤p.weight:=h4
 have h5:p.weight≤p.n:=h5
 exact ⟨by omega,by omega,h2,h3,h4,by omega,h6,⟨h8.1,h8.2.1,goodQ_odd h8⟩,fun i hi=>⟨(h9 i hi).1.1,(h9 i hi).1.2.1,goodQ_odd (h9 i hi).1⟩⟩
def chZ (p:PD) (i:Nat):Int:=((p.chain.getD i 0:Nat):Int)
theorem chZ_in {p:PD} (h:Gn p) {i:Nat} (hi:i<p.chain.length):1073741824<chZ p i∧chZ p i≤2147483647:=by
 have:=h.chain i hi
 unfold chZ
 omega
theorem pq_in {p:PD} (h:Gn p) {lv:Nat} (hl:lv≤p.chain.length):1≤prZ (chZ p) lv∧Bb 96 (prZ (chZ p) lv):=by
 have h24:=h.len2
 refine ⟨prZ_pos1 lv (fun j hj=>by have:=chZ_in h (i:=j) (by omega);omega),?_⟩
 exact (Bb.prZ (k:=4) lv (fun j hj=>by have:=chZ_in h (i:=j) (by omega);exact Bb.u32 (by omega) (by omega))).mono (by omega)

instance fi86:FI Tryz.prog 86 Tryz.f86:=⟨Tryz.func86,Tryz.call86⟩
instance {n m:Nat} {l:List D} [h:OldDL l]:OldDL (takeL n (dropL m l)):=⟨fun j=>by
 by_cases q:j<n
 ·rw [dl_eq,takeL_eq,dropL_eq,List.getD_eq_getElem?_getD,List.getElem?_take_of_lt q,List.getElem?_drop,← List.getD_eq_getElem?_getD,← dl_eq]
  exact h.od _
 ·rw [dl_eq,takeL_eq,List.getD_eq_getElem?_getD,List.getElem?_take_eq_none (by omega)]
  exact inferInstanceAs (OldD .any)⟩
theorem DenU.boxA {P:Program} {F:FuncId} {ds:List D} {n m:Nat} {t:TypeId} {f:Nat→List D} {e0:Ending} (f1:Nat→List D) (he:∀ e,e<n→f e=f1 e) (h:DenU P F ds (.arr t n m f1) e0):DenU P F ds (.arr t n m f) e0:=fun Zc w i args hZ hi hH ha=>by
 refine h Zc w i args hZ hi ⟨fun k' B' hm=>?_,fun k1 k2 B1 B2 b h1 h2 _ _=>?_⟩ ha
 ·obtain ⟨rfl,rfl⟩:k'=1998∧B' = .arr t n m f1:=by simpa using hm
  obtain ⟨_,h2⟩:=hH.1 1998 (.arr t n m f) (by simp)
  refine ⟨rfl,?_⟩
  rcases h2 with ⟨b,cap,h3,h4,h5⟩ | ⟨h3,h4⟩
  ·exact .inl ⟨b,cap,h3,h4,ArrAt.congr he h5⟩
  ·refine .inr ⟨h3,.inl ?_⟩
   rcases h4 with ⟨t',m',f',h4⟩ | ⟨_,_,_,_,_,h4⟩
   ·cases h4;exact ⟨_,_,_,rfl⟩
   ·cases h4
 ·obtain ⟨rfl,_⟩:k1=1998∧B1 = .arr t n m f1:=by simpa using h1
  obtain ⟨rfl,_⟩:k2=1998∧B2 = .arr t n m f1:=by simpa using h2
  rfl
theorem parProduct_den (p:PD) (lv:Nat) (hp:PFit p) (hg:goodB p=true) (h1:1≤lv) (h2:lv≤p.chain.length):Den Tryz.prog 86 [.agg (parL true p),.val (.int .i64 (lv:Int))] (.tup [zN (prZ (chZ p) lv),.val (.int .i64 0)]):=by
 have hc:=pcheck_den p hp
 rw [hg] at hc
 have hgn:=good_gn hg
 have hl:=hgn.len2
 have hone:=wOf_den 1 (by omega) (by omega)
 refine den_intro (fn:=Tryz.f86) rfl rfl rfl rfl rfl ?_
 refine go ?_
 refine r_call hc ?_
 refine go ?_
 refine c_no (hb:=by simp;omega) ?_
 refine go ?_
 refine r_call hone ?_
 refine go ?_
 refine c_eq 29 (.val (.int .i64 (lv:Int))) (d:=.val (.int .i64 ((lv - 0:Nat):Int))) (by rw [Nat.sub_zero]) ?_
 refine c_eq 28 (.fz true lv 1 (fun e=>[.val (.int .u32 ((p.chain.getD e 0:Nat):Int))])) (d:=.fz true (lv - 0) 1 (fun e=>[.val (.int .u32 ((p.chain.getD (0+e) 0:Nat):Int))])) (by rw [Nat.sub_zero];simp only [Nat.zero_add]) ?_
 refine c_up lv (fun i=>[(30,.val (.int .i64 (i:Nat)))]) (fun i=>[(1006,some (.lit 42 (zL (prZ (chZ p) i))))]) (fun i hi=>?_)
 refine go ?_
 refine c_if (fun h=>?_) (fun h=>?_)
 ·have hq:=pq_in hgn (lv:=i) (by omega)
  have hq2:=pq_in hgn (lv:=i+1) (by omega)
  have hci:=chZ_in hgn (i:=i) (by omega)
  have hm:=wMul_den (prZ (chZ p) i) (chZ p i) (hq.2.fz (by omega)) (Fz.i64 (by omega) (by omega))
  rw [show prZ (chZ p) i*chZ p i=prZ (chZ p) (i+1) from rfl,resZ_ok (hq2.2.fz (by omega))] at hm
  have ho:=wOf_den (chZ p i) (by omega) (by omega)
  have hpc:=hp.chain i (by omega)
  refine go ?_
  refine r_call ho ?_
  refine go ?_
  refine r_call hm ?_
  refine go ?_
  refine ⟨h,?_⟩
  exact sub
 ·obtain rfl:i=lv:=by omega
  refine go ?_
  refine fin ?_
  exact cv
end Go.Proofs.YtdcenblblimkfaaGreat
