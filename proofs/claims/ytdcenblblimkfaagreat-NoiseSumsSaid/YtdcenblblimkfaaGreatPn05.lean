/- Memory: which of the old blocks have turned; an array of numbers at the head of a block; slices that are read. No walk.
Slices of integers of 64 bits that are read. No walk. -/
import Derived.Test.YtdcenblblimkfaaGreatRows
import Derived.WalkKit
import Derived.WalkSpells
import Derived.WalkLawsBesides
import Derived.BigQuiet
import Derived.Outline
import Derived.Deep.LoopGhost
import Derived.Deep.Draws
import Derived.Deep.OwnRows
import Derived.Lib.Hide
import Derived.Sort.LotA
set_option linter.unusedSimpArgs false
set_option linter.unusedVariables false
set_option linter.unnecessarySimpa false
set_option linter.unusedSectionVars false
namespace Go.Proofs.YtdcenblblimkfaaGreat
open Go.RowKit

theorem block_lt {w:World} {b:Nat} {o:Obj} (h:w.heap[b]? = some o):b<w.heap.size:=by
 rcases Nat.lt_or_ge b w.heap.size with h1 | h1
 ·exact h1
 ·rw [Array.getElem?_eq_none h1] at h;cases h
theorem add_zero_addr (b o k:Nat):(⟨b,o,none⟩:Addr).add k=⟨b,o+k,none⟩:=by
 unfold Addr.add
 by_cases h:k=0
 ·subst h;simp
 ·simp [h]

structure Turn (w w':World) (S:List Nat):Prop where
 os:w'.os=w.os
 tape:w'.tape=w.tape
 output:w'.output=w.output
 size:w.heap.size≤w'.heap.size
 block:∀ k,k<w.heap.size→k ∉ S→w'.heap[k]? = w.heap[k]?
section
variable {a b c w w':World} {S T:List Nat}
theorem Turn.refl (w:World) (S:List Nat):Turn w w S:=⟨rfl,rfl,rfl,Nat.le_refl _,fun _ _ _=>rfl⟩
theorem Turn.drewN (h:Turn a w S) (n:Nat):Turn a (w.drewN n) S:=⟨h.os,h.tape,h.output,h.size,h.block⟩
theorem Turn.drew (h:Turn a w S):Turn a w.drew S:=⟨h.os,h.tape,h.output,h.size,h.block⟩
theorem Turn.trans (h:Turn a b S) (k:Turn b c S):Turn a c S:=
 ⟨k.os.trans h.os,k.tape.trans h.tape,k.output.trans h.output,Nat.le_trans h.size k.size,fun i hi hne=>(k.block i (Nat.lt_of_lt_of_le hi h.size) hne).trans (h.block i hi hne)⟩
theorem Turn.new (h:Turn a b S) (k:Turn b c T) (hr:∀ j,j∈T→a.heap.size≤j∨j∈S):Turn a c S:=
 ⟨k.os.trans h.os,k.tape.trans h.tape,k.output.trans h.output,Nat.le_trans h.size k.size,fun i hi hne=>(k.block i (Nat.lt_of_lt_of_le hi h.size) (fun e=>by
  rcases hr i e with hh | hh
  ·omega
  ·exact hne hh)).trans (h.block i hi hne)⟩
theorem Turn.alloc (h:Turn a w S) (o:Obj):Turn a (w.alloc o) S:=
 ⟨h.os,h.tape,h.output,Nat.le_trans h.size (by simp),fun i hi hne=>(Below.heap_alloc w o i (Nat.lt_of_lt_of_le hi h.size)).trans (h.block i hi hne)⟩
theorem Turn.setCell (h:Turn a w S) {p:Addr} (hp:p.block∈S∨a.heap.size≤p.block) (u:Value):Turn a (w.setCell p u) S:=
 ⟨h.os,h.tape,h.output,by simpa [World.setCell] using h.size,fun i hi hne=>(Below.heap_setCell w p u i (by
  rintro rfl
  rcases hp with hp | hp
  ·exact hne hp
  ·omega)).trans (h.block i hi hne)⟩
theorem Turn.of_grown {r:Option Nat} (h:w.grownBy w' r) (hb:∀ k,r=some k→k∈S∨w.heap.size≤k):Turn w w' S:=
 ⟨h.os,h.tape,h.output,h.size,fun i hi hne=>h.block i hi (fun e=>by
  rcases hb i e.symm with hh | hh
  ·exact hne hh
  ·omega)⟩
theorem Turn.mono (h:Turn a w S) (hs:∀ x,x∈S→x∈T):Turn a w T:=⟨h.os,h.tape,h.output,h.size,fun i hi hn=>h.block i hi (fun e=>hn (hs i e))⟩
theorem Turn.below (h:Turn w w' []):Below w.heap.size w w':=⟨h.os,h.tape,h.output,h.size,fun i hi=>h.block i hi (by simp)⟩
theorem Turn.belowN {B:Nat} (h:Turn w w' S) (hB:B≤w.heap.size) (hs:∀ k,k∈S→B≤k):Below B w w':=
 ⟨h.os,h.tape,h.output,h.size,fun i hi=>h.block i (by omega) (fun e=>by have:=hs i e;omega)⟩
theorem Turn.at (h:Turn w w' S) {k:Nat} {o:Obj} (hk:w.heap[k]? = some o) (hn:k ∉ S):w'.heap[k]? = some o:=(h.block k (block_lt hk) hn).trans hk
theorem Turn.cell (h:Turn w w' S) {p:Addr} {v:Value} (hc:w.cell? p=some v) (hn:p.block ∉ S):w'.cell? p=some v:=
 (World.cell?_of_block (h.block p.block (World.block_lt_of_cell? w p hc) hn)).trans hc
end

def Arr (w:World) (g:Nat) (d:Array Int):Prop:=∃ (r:Array Value) (e:TypeId),w.heap[g]? = some (.cells (d.map (Value.int .u32)++r) e (0,0))
section
variable {w w':World} {g i j:Nat} {d:Array Int} {S:List Nat}
theorem Arr.lt (h:Arr w g d):g<w.heap.size:=by obtain ⟨r,e,h⟩:=h;exact block_lt h
theorem Arr.cell (h:Arr w g d) (hi:i<d.size):w.cell? ⟨g,i,none⟩=some (.int .u32 d[i]!):=by
 obtain ⟨r,e,h⟩:=h
 simp [World.cell?,h,Array.getElem?_append,hi]
theorem Arr.free (h:Arr w g d) (i:Nat):w.frozen? ⟨g,i,none⟩=false:=by
 obtain ⟨r,e,h⟩:=h
 simp [World.frozen?,h]
theorem Arr.set (h:Arr w g d) (hi:i<d.size) (x:Int):Arr (w.setCell ⟨g,i,none⟩ (.int .u32 x)) g (d.setIfInBounds i x):=by
 obtain ⟨r,e,h⟩:=h
 refine ⟨r,e,?_⟩
 simp only [World.setCell,Array.getElem?_modify,h,if_true,Option.map_some,Option.isSome_none,Bool.false_eq_true,if_false]
 congr 2
 apply Array.ext_getElem?
 intro k
 simp only [Array.getElem?_setIfInBounds,Array.getElem?_append,Array.size_map,Array.size_append,Array.size_setIfInBounds,Array.getElem?_map]
 by_cases hk:i=k
 ·subst hk;simp [hi];omega
 ·simp [hk]
theorem Arr.turn (h:Arr w g d) (ht:Turn w w' S) (hn:g ∉ S):Arr w' g d:=by obtain ⟨r,e,h⟩:=h;exact ⟨r,e,ht.at h hn⟩
theorem Arr.drewN (h:Arr w g d) (n:Nat):Arr (w.drewN n) g d:=h
theorem Arr.drew (h:Arr w g d):Arr w.drew g d:=h
theorem Arr.alloc (h:Arr w g d) (o:Obj):Arr (w.alloc o) g d:=h.turn ((Turn.refl w []).alloc o) (by simp)
theorem Arr.other (h:Arr w g d) {p:Addr} (hp:g≠p.block) (u:Value):Arr (w.setCell p u) g d:=by
 obtain ⟨r,e,h⟩:=h;exact ⟨r,e,(Below.heap_setCell w p u g hp).trans h⟩
theorem Arr.swp (h:Arr w g d) (hi:i<d.size) (hj:j<d.size):Arr ((w.setCell ⟨g,i,none⟩ (.int .u32 d[j]!)).setCell ⟨g,j,none⟩ (.int .u32 d[i]!)) g (Sort.swp d i j):=
 (h.set hi d[j]!).set (by simpa using hj) d[i]!
end
def SrtPost (w:World) (g:Nat) (Q:Array Int→Prop) (e:Ending) (w':World):Prop:=e = .returned (.tuple #[])∧∃ d',Arr w' g d'∧Q d'∧Turn w w' [g]


def RdI (w:World) (ao:Option Addr) (l:List Int):Prop:=
 ∀ k,k<l.length→∃ b off,ao=some ⟨b,off,none⟩∧∀ j,j<l.length→w.cell? ⟨b,off+j,none⟩=some (.int .i64 (l.getD j 0))
section
variable {w w':World} {ao:Option Addr} {l:List Int} {S:List Nat}
theorem RdI.nil (w:World) (ao:Option Addr):RdI w ao []:=fun k hk=>by simp at hk
end
end Go.Proofs.YtdcenblblimkfaaGreat
