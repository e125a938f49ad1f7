/- The product of two rows modulo x^n + 1 and q: as the program adds, as the reference adds. Plain.
The plain law of a supply of bits: bits, the number of the next bits, a number below n, lists of such numbers. No program.
Small laws on the memory of a supply: its block, behind draws, new blocks, stores, writes to other blocks. No walk.
The program's supply: some. -/
import Derived.Test.YtdcenblblimkfaaGreatRows
import Derived.WalkKit
import Derived.Deep.Draws
import Derived.Deep.OwnRows
import Derived.WalkSpells
import Derived.WalkLawsBesides
import Derived.BigQuiet
import Derived.Outline
set_option linter.unusedSimpArgs false
set_option linter.unusedVariables false
set_option linter.unnecessarySimpa false
set_option linter.unusedSectionVars false
namespace Go.Proofs.YtdcenblblimkfaaGreat

def ncSum (x y:Nat→Nat) (n k:Nat):Nat→Int
 | 0=>0
 | j+1=>ncSum x y n k j+(if j≤k then ((x j*y (k - j):Nat):Int) else -((x j*y (k+n - j):Nat):Int))
def nc (x y:Nat→Nat) (q n k:Nat):Nat:=(ncSum x y n k n % (q:Int)).toNat
def mpl (x y:Nat→Nat) (q k:Nat):Nat→Nat
 | 0=>0
 | j+1=>if j≤k then (mpl x y q k j+x j*y (k - j)) % q else mpl x y q k j
def mmi (x y:Nat→Nat) (q n k:Nat):Nat→Nat
 | 0=>0
 | j+1=>if j≤k then mmi x y q n k j else (mmi x y q n k j+x j*y (k+n - j)) % q
theorem mpl_lt {x y:Nat→Nat} {q k:Nat} (hq:0<q):∀ j,mpl x y q k j<q
 | 0=>hq
 | j+1=>by unfold mpl;split;exact Nat.mod_lt _ hq;exact mpl_lt hq j
theorem mmi_lt {x y:Nat→Nat} {q n k:Nat} (hq:0<q):∀ j,mmi x y q n k j<q
 | 0=>hq
 | j+1=>by unfold mmi;split;exact mmi_lt hq j;exact Nat.mod_lt _ hq
theorem mpl_mmi {x y:Nat→Nat} {q n k:Nat}:∀ j,((mpl x y q k j:Nat) - (mmi x y q n k j:Nat) - ncSum x y n k j:Int) % (q:Int)=0
 | 0=>by simp [mpl,mmi,ncSum]
 | j+1=>by
  have ih:=mpl_mmi (x:=x) (y:=y) (q:=q) (n:=n) (k:=k) j
  unfold mpl mmi ncSum
  by_cases h:j≤k
  ·rw [if_pos h,if_pos h,if_pos h]
   generalize mpl x y q k j=a at *
   generalize mmi x y q n k j=b at *
   generalize ncSum x y n k j=s at *
   generalize x j*y (k - j)=z at *
   have e:(((a+z) % q:Nat):Int)=(a+z:Int) - q*((a+z:Int) / q):=by
    have:=Int.emod_add_mul_ediv ((a:Int)+z) q
    push_cast
    omega
   rw [e]
   have e2:(a+z:Int) - q*((a+z:Int) / q) - b - (s+z)=(a - b - s:Int)+q*(-((a+z:Int) / q)):=by
    rw [Int.mul_neg];omega
   rw [e2,Int.add_mul_emod_self_left]
   exact ih
  ·rw [if_neg h,if_neg h,if_neg h]
   generalize mpl x y q k j=a at *
   generalize mmi x y q n k j=b at *
   generalize ncSum x y n k j=s at *
   generalize x j*y (k+n - j)=z at *
   have e:(((b+z) % q:Nat):Int)=(b+z:Int) - q*((b+z:Int) / q):=by
    have:=Int.emod_add_mul_ediv ((b:Int)+z) q
    push_cast
    omega
   rw [e]
   have e2:(a:Int) - ((b+z:Int) - q*((b+z:Int) / q)) - (s + -z)=(a - b - s:Int)+q*((b+z:Int) / q):=by omega
   rw [e2,Int.add_mul_emod_self_left]
   exact ih
theorem prog_nc {x y:Nat→Nat} {q n k:Nat} (hq:0<q):(mpl x y q k n+q - mmi x y q n k n) % q=nc x y q n k:=by
 have h1:=mpl_lt (x:=x) (y:=y) (k:=k) hq n
 have h2:=mmi_lt (x:=x) (y:=y) (n:=n) (k:=k) hq n
 have h3:=mpl_mmi (x:=x) (y:=y) (q:=q) (n:=n) (k:=k) n
 unfold nc
 generalize mpl x y q k n=a at *
 generalize mmi x y q n k n=b at *
 generalize ncSum x y n k n=s at *
 apply Int.ofNat.inj
 show (((a+q - b) % q:Nat):Int)=((s % (q:Int)).toNat:Int)
 rw [Int.toNat_of_nonneg (Int.emod_nonneg _ (by omega))]
 have e:((a+q - b:Nat):Int)=(s+(a - b - s))+q*1:=by omega
 rw [Int.natCast_emod,e,Int.add_mul_emod_self_left,Int.add_emod,h3,Int.add_zero,Int.emod_emod]
def kOf (n t i:Nat):Nat:=if i≤t then t - i else t+n - i
def rfRow (x y:Nat→Nat) (q n i k t:Nat):Nat:=(ncSum x y n t (if kOf n t i<k then i+1 else i) % (q:Int)).toNat
theorem rfRow_lt {x y:Nat→Nat} {q n i k t:Nat} (hq:0<q):rfRow x y q n i k t<q:=by
 unfold rfRow
 generalize ncSum x y n t (if kOf n t i<k then i+1 else i)=s
 have:=Int.emod_lt_of_pos s (show (0:Int)<(q:Int) by omega)
 have:=Int.emod_nonneg s (show (q:Int)≠0 by omega)
 omega
theorem rfRow_zero {x y:Nat→Nat} {q n t:Nat}:rfRow x y q n 0 0 t=0:=by
 unfold rfRow
 rw [if_neg (by omega)]
 simp [ncSum]
theorem rfRow_next {x y:Nat→Nat} {q n i t:Nat} (hi:i<n) (ht:t<n):rfRow x y q n i n t=rfRow x y q n (i+1) 0 t:=by
 unfold rfRow
 rw [if_pos (by unfold kOf;split<;>omega),if_neg (by omega)]
theorem rfRow_end {x y:Nat→Nat} {q n t:Nat}:rfRow x y q n n 0 t=nc x y q n t:=by
 unfold rfRow nc
 rw [if_neg (by omega)]
theorem rfRow_other {x y:Nat→Nat} {q n i k t:Nat} (hi:i<n) (hk:k<n) (ht:t<n) (h:t≠if i+k<n then i+k else i+k - n):rfRow x y q n i (k+1) t=rfRow x y q n i k t:=by
 unfold rfRow
 have:(kOf n t i<k+1)↔(kOf n t i<k):=by
  unfold kOf
  split at h<;>split<;>omega
 simp only [this]
theorem rfRow_low {x y:Nat→Nat} {q n i k:Nat} (hq:0<q) (_:i<n) (h:i+k<n):(rfRow x y q n i k (i+k)+x i*y k % q) % q=rfRow x y q n i (k+1) (i+k):=by
 unfold rfRow
 have e:kOf n (i+k) i=k:=by unfold kOf;rw [if_pos (by omega)];omega
 rw [e,if_neg (by omega),if_pos (by omega)]
 conv=>rhs;unfold ncSum
 rw [if_pos (by omega),show i+k - i=k by omega]
 generalize ncSum x y n (i+k) i=s
 generalize x i*y k=z
 apply Int.ofNat.inj
 show ((((s % (q:Int)).toNat+z % q) % q:Nat):Int)=(((s+(z:Int)) % (q:Int)).toNat:Int)
 rw [Int.toNat_of_nonneg (Int.emod_nonneg _ (by omega)),Int.natCast_emod,Int.natCast_add,Int.toNat_of_nonneg (Int.emod_nonneg _ (by omega)),Int.natCast_emod,← Int.add_emod]
theorem rfRow_high {x y:Nat→Nat} {q n i k:Nat} (hq:0<q) (hi:i<n) (hk:k<n) (h:n≤i+k):(rfRow x y q n i k (i+k - n)+(q - x i*y k % q) % q) % q=rfRow x y q n i (k+1) (i+k - n):=by
 unfold rfRow
 have e:kOf n (i+k - n) i=k:=by unfold kOf;rw [if_neg (by omega)];omega
 rw [e,if_neg (by omega),if_pos (by omega)]
 conv=>rhs;unfold ncSum
 rw [if_neg (by omega),show i+k - n+n - i=k by omega]
 generalize ncSum x y n (i+k - n) i=s
 generalize x i*y k=z
 have hz:z % q<q:=Nat.mod_lt _ hq
 apply Int.ofNat.inj
 show ((((s % (q:Int)).toNat+(q - z % q) % q) % q:Nat):Int)=(((s + -(z:Int)) % (q:Int)).toNat:Int)
 rw [Int.toNat_of_nonneg (Int.emod_nonneg _ (by omega)),Int.natCast_emod,Int.natCast_add,Int.toNat_of_nonneg (Int.emod_nonneg _ (by omega)),Int.natCast_emod]
 have e1:((q - z % q:Nat):Int) = -(z:Int)+q*(1+(z:Int) / q):=by
  have:=Int.emod_add_mul_ediv (z:Int) q
  have e2:((z % q:Nat):Int)=(z:Int) % q:=by simp
  rw [Int.mul_add]
  omega
 rw [e1,Int.add_mul_emod_self_left,← Int.add_emod]


def sByteAt (s:ByteArray) (i:Nat):Nat:=(s.data.toList.getD i 0).toNat
def bitAt (s:ByteArray) (i:Nat):Nat:=sByteAt s (i / 8) / 2 ^ (7 - i % 8) % 2
def valAt (s:ByteArray) (a:Nat):Nat→Nat
 | 0=>0
 | k+1=>2*valAt s a k+bitAt s (a+k)

theorem bitAt_lt (s:ByteArray) (i:Nat):bitAt s i<2:=Nat.mod_lt _ (by decide)
theorem valAt_lt (s:ByteArray) (a k:Nat):valAt s a k<2 ^ k:=by
 induction k with
 | zero=>exact Nat.one_pos
 | succ k ih=>have:=bitAt_lt s (a+k);rw [valAt,Nat.pow_succ];omega

def lenBits (n:Nat):Nat:=if n=0 then 0 else Nat.log2 n+1

theorem lenBits_zero:lenBits 0=0:=rfl
theorem lenBits_pos {n:Nat} (h:0<n):0<lenBits n:=by unfold lenBits;rw [if_neg (by omega)];omega
theorem lenBits_half {n:Nat} (h:0<n):lenBits n=lenBits (n / 2)+1:=by
 unfold lenBits
 rw [if_neg (by omega)]
 by_cases h2:n / 2=0
 ·rw [if_pos h2]
  have:n=1:=by omega
  subst this;rfl
 ·rw [if_neg h2]
  have hn:2≤n:=by omega
  rw [Nat.log2_def,if_pos hn]
theorem lenBits_le {n k:Nat} (h:n<2 ^ k):lenBits n≤k:=by
 unfold lenBits
 by_cases h0:n=0
 ·rw [if_pos h0];omega
 ·rw [if_neg h0]
  have:=(Nat.log2_lt h0).2 h
  omega

def belowF (s:ByteArray) (n k:Nat):Nat→Nat→Option (Nat × Nat)
 | 0,_=>none
 | f+1,a=>if a+k≤8*s.size then (if valAt s a k<n then some (valAt s a k,a+k) else belowF s n k f (a+k)) else none

def belowL (s:ByteArray) (n a:Nat):Option (Nat × Nat):=belowF s n (lenBits (n - 1)) (8*s.size+1 - a) a

theorem belowF_more (s:ByteArray) (n k:Nat) (hk:0<k):∀ (f g a:Nat),8*s.size+1 - a≤f→8*s.size+1 - a≤g→a≤8*s.size→belowF s n k f a=belowF s n k g a
 | 0,g,a,hf,_,ha=>by omega
 | f+1,0,a,_,hg,ha=>by omega
 | f+1,g+1,a,hf,hg,ha=>by
  unfold belowF
  by_cases h:a+k≤8*s.size
  ·rw [if_pos h,if_pos h]
   by_cases h2:valAt s a k<n
   ·rw [if_pos h2,if_pos h2]
   ·rw [if_neg h2,if_neg h2];exact belowF_more s n k hk f g (a+k) (by omega) (by omega) h
  ·rw [if_neg h,if_neg h]

theorem belowL_none {s:ByteArray} {n a:Nat} (ha:a≤8*s.size) (h:8*s.size<a+lenBits (n - 1)):belowL s n a=none:=by
 unfold belowL
 rw [show 8*s.size+1 - a=(8*s.size - a)+1 from by omega,belowF,if_neg (by omega)]
theorem belowL_some {s:ByteArray} {n a:Nat} (h:a+lenBits (n - 1)≤8*s.size) (hv:valAt s a (lenBits (n - 1))<n):belowL s n a=some (valAt s a (lenBits (n - 1)),a+lenBits (n - 1)):=by
 unfold belowL
 rw [show 8*s.size+1 - a=(8*s.size - a)+1 from by omega,belowF,if_pos h,if_pos hv]
theorem belowL_again {s:ByteArray} {n a:Nat} (hn:0<n) (h:a+lenBits (n - 1)≤8*s.size) (hv:¬ valAt s a (lenBits (n - 1))<n):belowL s n a=belowL s n (a+lenBits (n - 1)):=by
 have hk:0<lenBits (n - 1):=by
  rcases Nat.eq_zero_or_pos (n - 1) with h0 | h0
  ·exfalso;apply hv
   have:=valAt_lt s a (lenBits (n - 1))
   rw [h0,lenBits_zero] at this ⊢
   simp at this;omega
  ·exact lenBits_pos h0
 conv=>lhs;unfold belowL
 rw [show 8*s.size+1 - a=(8*s.size - a)+1 from by omega,belowF,if_pos h,if_neg hv]
 unfold belowL
 exact belowF_more s n _ hk _ _ _ (by omega) (by omega) h
theorem belowF_spec (s:ByteArray) (n k:Nat):∀ (f a v c:Nat),belowF s n k f a=some (v,c)→v<n∧a+k≤c∧c≤8*s.size∧k≤c
 | 0,_,_,_,h=>by simp [belowF] at h
 | f+1,a,v,c,h=>by
  unfold belowF at h
  by_cases h1:a+k≤8*s.size
  ·rw [if_pos h1] at h
   by_cases h2:valAt s a k<n
   ·rw [if_pos h2] at h;simp at h;obtain ⟨rfl,rfl⟩:=h;exact ⟨h2,by omega,h1,by omega⟩
   ·rw [if_neg h2] at h;have:=belowF_spec s n k f _ _ _ h;omega
  ·rw [if_neg h1] at h;simp at h
theorem belowL_spec {s:ByteArray} {n a v c:Nat} (h:belowL s n a=some (v,c)):v<n∧a≤c∧c≤8*s.size:=by
 have:=belowF_spec s n _ _ _ _ _ h;omega

def tkL (s:ByteArray) (m:Nat):Nat→Nat→Option (List Nat × Nat)
 | 0,c=>some ([],c)
 | k+1,c=>match tkL s m k c with
  | none=>none
  | some (l,d)=>match belowL s m d with
   | none=>none
   | some (v,d')=>some (l++[v],d')
theorem tkL_more {s:ByteArray} {m k c d v d':Nat} {l:List Nat} (h:tkL s m k c=some (l,d)) (h2:belowL s m d=some (v,d')):tkL s m (k+1) c=some (l++[v],d'):=by
 rw [tkL,h];simp only [h2]
theorem tkL_stop {s:ByteArray} {m k c d:Nat} {l:List Nat} (h:tkL s m k c=some (l,d)) (h2:belowL s m d=none):tkL s m (k+1) c=none:=by
 rw [tkL,h];simp only [h2]
theorem tkL_none {s:ByteArray} {m k c:Nat} (h:tkL s m k c=none):∀ n,k≤n→tkL s m n c=none:=by
 intro n hn
 obtain ⟨j,rfl⟩:∃ j,n=k+j:=⟨n - k,by omega⟩
 clear hn
 induction j with
 | zero=>exact h
 | succ j ih=>rw [← Nat.add_assoc,tkL,ih]
theorem tkL_spec {s:ByteArray} {m c:Nat} (hc:c≤8*s.size):∀ {k d:Nat} {l:List Nat},tkL s m k c=some (l,d)→l.length=k∧(∀ v∈l,v<m)∧c≤d∧d≤8*s.size
 | 0,d,l,h=>by simp [tkL] at h;obtain ⟨rfl,rfl⟩:=h;simp [hc]
 | k+1,d,l,h=>by
  rw [tkL] at h
  rcases h1:tkL s m k c with _ | ⟨l1,d1⟩
  ·rw [h1] at h;simp at h
  ·rw [h1] at h
   obtain ⟨e1,e2,e3,e4⟩:=tkL_spec hc h1
   simp only at h
   rcases h2:belowL s m d1 with _ | ⟨v,d2⟩
   ·rw [h2] at h;simp at h
   ·rw [h2] at h
    simp only [Option.some.injEq,Prod.mk.injEq] at h
    obtain ⟨rfl,rfl⟩:=h
    have:=belowL_spec h2
    refine ⟨by simp [e1],?_,by omega,by omega⟩
    intro x hx
    rw [List.mem_append] at hx
    rcases hx with hx | hx
    ·exact e2 x hx
    ·simp at hx;omega
theorem tkL_spec1 {s:ByteArray} {m c k d:Nat} {l:List Nat} (hc:c≤8*s.size) (h:tkL s m k c=some (l,d)):l.length=k:=(tkL_spec hc h).1
theorem fill_set {α:Type} (L:List α) (x z:α) (n:Nat) (h:L.length<n):(L++List.replicate (n - L.length) z).set L.length x=(L++[x])++List.replicate (n - (L.length+1)) z:=by
 obtain ⟨j,hj⟩:∃ j,n - L.length=j+1:=⟨n - L.length - 1,by omega⟩
 rw [hj,List.set_append_right _ _ (Nat.le_refl _),Nat.sub_self,List.replicate_succ,List.set_cons_zero,show n - (L.length+1)=j from by omega]
 simp

theorem byteAt_eq (s:ByteArray) (i:Nat) (h:i<s.size):sByteAt s i=(s[i]'h).toNat:=by
 unfold sByteAt
 rw [List.getD_eq_getElem?_getD,List.getElem?_eq_getElem (by simpa using h)]
 rfl
theorem and_one_u8 (x:Nat) (h:x<256):bits .and .u8 (x:Int) 1=((x % 2:Nat):Int):=by
 have:=bits_mask .u8 8 (by decide) wraps_u8 1 (by decide) (x:Int) (by omega) (by omega)
 simpa using this
theorem bit_code (x e:Nat) (h:x<256):bits .and .u8 ((x:Int) / 2 ^ e) 1=((x / 2 ^ e % 2:Nat):Int):=by
 have e1:((x:Int) / 2 ^ e)=((x / 2 ^ e:Nat):Int):=by simp
 rw [e1]
 exact and_one_u8 _ (Nat.lt_of_le_of_lt (Nat.div_le_self _ _) h)
theorem bit_shift (v x e:Nat) (hv:v<9223372036854775808) (hx:x<256) :
  bits .or .u64 (IntKind.u64.wrap ((v:Int)*2)) (IntKind.u64.wrap (bits .and .u8 ((x:Int) / 2 ^ e) 1))=((2*v+x / 2 ^ e % 2:Nat):Int):=by
 rw [bit_code x e hx,IntWalk.u64_in _ (by omega),IntWalk.u64_in _ (by omega)]
 have e1:((v:Int)*2)=((2 ^ 1*v:Nat):Int):=by omega
 rw [e1,bits_or_u64_nat _ _ (by omega) (by omega),← Nat.two_pow_add_eq_or_of_lt (by omega) v]
theorem valAt_step (s:ByteArray) (a k:Nat) (hk:k<64) (h:(a+k) / 8<s.size) :
  bits .or .u64 (IntKind.u64.wrap ((valAt s a k:Int)*2)) (IntKind.u64.wrap (bits .and .u8 (((s[(a+k) / 8]'h).toNat:Int) / 2 ^ (7 - (a+k) % 8)) 1))=((valAt s a (k+1):Nat):Int):=by
 have hv:valAt s a k<9223372036854775808:=Nat.lt_of_lt_of_le (valAt_lt s a k) (by
  have:=Nat.pow_le_pow_right (n:=2) (by decide) (show k≤63 by omega)
  exact this)
 rw [bit_shift _ _ _ hv (UInt8.toNat_lt _),valAt,bitAt,byteAt_eq s _ h]

open Go.RowKit

theorem only_refl (w:World) (row:Option Nat):w.grownBy w row:=⟨rfl,rfl,rfl,Nat.le_refl _,fun _ _ _=>rfl⟩
theorem only_drewN {a w:World} {row:Option Nat} (h:a.grownBy w row) (n:Nat):a.grownBy (w.drewN n) row:=⟨h.os,h.tape,h.output,h.size,h.block⟩
theorem only_drew {a w:World} {row:Option Nat} (h:a.grownBy w row):a.grownBy w.drew row:=⟨h.os,h.tape,h.output,h.size,h.block⟩
theorem only_setCell {a w:World} {row:Option Nat} (h:a.grownBy w row) {p:Addr} (hp:row=some p.block∨a.heap.size≤p.block) (u:Value):a.grownBy (w.setCell p u) row:=
 ⟨h.os,h.tape,h.output,by simpa [World.setCell] using h.size,fun i hi hne=>(Below.heap_setCell w p u i (by
  rintro rfl
  rcases hp with hp | hp
  ·exact hne (by rw [hp])
  ·omega)).trans (h.block i hi hne)⟩
theorem only_trans {a b c:World} {row:Option Nat} (h:a.grownBy b row) (k:b.grownBy c row):a.grownBy c row:=
 ⟨k.os.trans h.os,k.tape.trans h.tape,k.output.trans h.output,Nat.le_trans h.size k.size,fun i hi hne=>(k.block i (Nat.lt_of_lt_of_le hi h.size) hne).trans (h.block i hi hne)⟩
def SupAt (w:World) (b:Nat) (s:ByteArray) (c:Nat):Prop:=w.heap[b]? = some (.cells #[.string s,.int .i64 c,.bool true] 142 (0,0))
def RefAt (w:World) (b:Nat) (s:ByteArray) (c:Nat):Prop:=w.heap[b]? = some (.cells #[.string s,.int .i64 c] 144 (0,0))

theorem s_block_lt {w:World} {b:Nat} {o:Obj} (h:w.heap[b]? = some o):b<w.heap.size:=by
 rcases Nat.lt_or_ge b w.heap.size with h1 | h1
 ·exact h1
 ·rw [Array.getElem?_eq_none h1] at h;cases h

section
variable {w:World} {b:Nat} {s:ByteArray} {c:Nat}
theorem SupAt.lt (h:SupAt w b s c):b<w.heap.size:=s_block_lt h
theorem SupAt.c0 (h:SupAt w b s c):w.cell? ⟨b,0,none⟩=some (.string s):=by unfold SupAt at h;simp [World.cell?,h]
theorem SupAt.c1 (h:SupAt w b s c):w.cell? ⟨b,1,none⟩=some (.int .i64 c):=by unfold SupAt at h;simp [World.cell?,h]
theorem SupAt.c2 (h:SupAt w b s c):w.cell? ⟨b,2,none⟩=some (.bool true):=by unfold SupAt at h;simp [World.cell?,h]
theorem SupAt.f1 (h:SupAt w b s c):w.frozen? ⟨b,1,none⟩=false:=by unfold SupAt at h;simp [World.frozen?,h]
theorem SupAt.drewN (h:SupAt w b s c) (n:Nat):SupAt (w.drewN n) b s c:=h
theorem SupAt.drew (h:SupAt w b s c):SupAt w.drew b s c:=h
theorem SupAt.alloc (h:SupAt w b s c) (o:Obj):SupAt (w.alloc o) b s c:=(Below.heap_alloc w o b h.lt).trans h
theorem SupAt.other (h:SupAt w b s c) {p:Addr} (hp:b≠p.block) (u:Value):SupAt (w.setCell p u) b s c:=(Below.heap_setCell w p u b hp).trans h
theorem SupAt.set (h:SupAt w b s c) (d:Nat):SupAt (w.setCell ⟨b,1,none⟩ (.int .i64 d)) b s d:=by
 unfold SupAt at *
 simp [World.setCell,Array.getElem?_modify,h]
theorem RefAt.lt (h:RefAt w b s c):b<w.heap.size:=s_block_lt h
theorem RefAt.c0 (h:RefAt w b s c):w.cell? ⟨b,0,none⟩=some (.string s):=by unfold RefAt at h;simp [World.cell?,h]
theorem RefAt.c1 (h:RefAt w b s c):w.cell? ⟨b,1,none⟩=some (.int .i64 c):=by unfold RefAt at h;simp [World.cell?,h]
theorem RefAt.f1 (h:RefAt w b s c):w.frozen? ⟨b,1,none⟩=false:=by unfold RefAt at h;simp [World.frozen?,h]
theorem RefAt.drewN (h:RefAt w b s c) (n:Nat):RefAt (w.drewN n) b s c:=h
theorem RefAt.alloc (h:RefAt w b s c) (o:Obj):RefAt (w.alloc o) b s c:=(Below.heap_alloc w o b h.lt).trans h
theorem RefAt.kept {w':World} {row:Option Nat} (h:RefAt w b s c) (hg:w.grownBy w' row) (hr:some b≠row):RefAt w' b s c:=(hg.block b h.lt hr).trans h
theorem RefAt.set (h:RefAt w b s c) (d:Nat):RefAt (w.setCell ⟨b,1,none⟩ (.int .i64 d)) b s d:=by
 unfold RefAt at *
 simp [World.setCell,Array.getElem?_modify,h]
end

structure STurn (w w':World) (S:List Nat):Prop where
 os:w'.os=w.os
 tape:w'.tape=w.tape
 output:w'.output=w.output
 size:w.heap.size≤w'.heap.size
 block:∀ k,k<w.heap.size→k ∉ S→w'.heap[k]? = w.heap[k]?
theorem STurn.refl (w:World) (S:List Nat):STurn w w S:=⟨rfl,rfl,rfl,Nat.le_refl _,fun _ _ _=>rfl⟩
theorem STurn.trans {a b c:World} {S:List Nat} (h:STurn a b S) (k:STurn b c S):STurn a c S:=
 ⟨k.os.trans h.os,k.tape.trans h.tape,k.output.trans h.output,Nat.le_trans h.size k.size,fun i hi hne=>(k.block i (Nat.lt_of_lt_of_le hi h.size) hne).trans (h.block i hi hne)⟩
theorem STurn.new {a b c:World} {S T:List Nat} (h:STurn a b S) (k:STurn b c T) (hr:∀ j,j∈T→a.heap.size≤j∨j∈S):STurn a c S:=
 ⟨k.os.trans h.os,k.tape.trans h.tape,k.output.trans h.output,Nat.le_trans h.size k.size,fun i hi hne=>(k.block i (Nat.lt_of_lt_of_le hi h.size) (fun e=>by
  rcases hr i e with hh | hh
  ·omega
  ·exact hne hh)).trans (h.block i hi hne)⟩
theorem STurn.alloc {a w:World} {S:List Nat} (h:STurn a w S) (o:Obj):STurn a (w.alloc o) S:=
 ⟨h.os,h.tape,h.output,Nat.le_trans h.size (by simp),fun i hi hne=>(Below.heap_alloc w o i (Nat.lt_of_lt_of_le hi h.size)).trans (h.block i hi hne)⟩
theorem STurn.setCell {a w:World} {S:List Nat} (h:STurn a w S) {p:Addr} (hp:p.block∈S∨a.heap.size≤p.block) (u:Value):STurn a (w.setCell p u) S:=
 ⟨h.os,h.tape,h.output,by simpa [World.setCell] using h.size,fun i hi hne=>(Below.heap_setCell w p u i (by
  rintro rfl
  rcases hp with hp | hp
  ·exact hne hp
  ·omega)).trans (h.block i hi hne)⟩
theorem STurn.of_grown {w w':World} {b:Nat} {S:List Nat} (h:w.grownBy w' (some b)) (hb:b∈S):STurn w w' S:=
 ⟨h.os,h.tape,h.output,h.size,fun i hi hne=>h.block i hi (fun e=>hne (by injection e with e;rw [e];exact hb))⟩
theorem STurn.at {w w':World} {S:List Nat} (h:STurn w w' S) {k:Nat} {o:Obj} (hk:w.heap[k]? = some o) (hn:k ∉ S):w'.heap[k]? = some o:=(h.block k (s_block_lt hk) hn).trans hk
theorem STurn.cell {w w':World} {S:List Nat} (h:STurn w w' S) {p:Addr} {v:Value} (hc:w.cell? p=some v) (hn:p.block ∉ S):w'.cell? p=some v:=
 (World.cell?_of_block (h.block p.block (World.block_lt_of_cell? w p hc) hn)).trans hc
theorem SupAt.turn {w w':World} {S:List Nat} {b:Nat} {s:ByteArray} {c:Nat} (h:SupAt w b s c) (ht:STurn w w' S) (hn:b ∉ S):SupAt w' b s c:=ht.at h hn
def IntRow (w:World) (g:Nat) (e:TypeId) (kd:IntKind) (l:List Int):Prop:=w.heap[g]? = some (.cells (l.map (Value.int kd)).toArray e (0,0))
section
variable {w:World} {g:Nat} {e:TypeId} {kd:IntKind} {l:List Int}
theorem IntRow.lt (h:IntRow w g e kd l):g<w.heap.size:=s_block_lt h
theorem IntRow.cell (h:IntRow w g e kd l) (k:Nat) (hk:k<l.length):w.cell? ⟨g,k,none⟩=some (.int kd (l.getD k 0)):=by
 unfold IntRow at h;simp [World.cell?,h,List.getD_eq_getElem?_getD,hk]
theorem IntRow.free (h:IntRow w g e kd l) (k:Nat):w.frozen? ⟨g,k,none⟩=false:=by
 unfold IntRow at h;simp [World.frozen?,h]
theorem IntRow.turn {w':World} {S:List Nat} (h:IntRow w g e kd l) (ht:STurn w w' S) (hn:g ∉ S):IntRow w' g e kd l:=ht.at h hn
theorem IntRow.other (h:IntRow w g e kd l) {p:Addr} (hp:g≠p.block) (u:Value):IntRow (w.setCell p u) g e kd l:=(Below.heap_setCell w p u g hp).trans h
theorem IntRow.set (h:IntRow w g e kd l) (k:Nat) (x:Int):IntRow (w.setCell ⟨g,k,none⟩ (.int kd x)) g e kd (l.set k x):=by
 unfold IntRow at *
 simp [World.setCell,Array.getElem?_modify,h,List.map_set]
theorem IntRow.owns (h:IntRow w g e kd l) {n:Nat} (hn:l.length=n) (hm:n≤maxLen):w.ownsRow 0 e 1 (.slice (some ⟨g,0,none⟩) n n) n (l.map (Value.int kd)):=by
 subst hn
 exact ⟨by simp,.inr ⟨g,l.length,_,rfl,Nat.zero_le _,h,Nat.le_refl _,hm,by simp,by simp only [Nat.mul_one];exact List.take_of_length_le (by simp)⟩⟩
end
theorem heap_past (w:World) (o:Obj) (k:Nat) (h:k<w.heap.size):(w.alloc o).heap[k]? = w.heap[k]?:=Below.heap_alloc w o k h
theorem heap_other (w:World) (p:Addr) (u:Value) (k:Nat) (h:k≠p.block):(w.setCell p u).heap[k]? = w.heap[k]?:=Below.heap_setCell w p u k h


set_option maxHeartbeats 400000 in
theorem some_no (b:Nat) (s:ByteArray) (c n:Nat) (w:World) (hs:s.size≤1048576) (hc:c≤8*s.size) (hn:n≤64) (hlt:8*s.size<c+n) (hS:SupAt w b s c) :
  Calls Tryz.prog 269 #[.pointer (some ⟨b,0,none⟩),.int .i64 n] w fun e w'=>e = .returned (.tuple #[.int .u64 0,.bool false])∧∃ k,w'=w.drewN k:=by
 have h0:=hS.c0
 have h1:=hS.c1
 go_enter Tryz.func269,Tryz.ntmps269
 go_wp2
 go_quiet (fail)
 go_wp2
 go_ret2
 exact ⟨rfl,_,rfl⟩

set_option maxHeartbeats 400000 in
theorem some_yes (b:Nat) (s:ByteArray) (c n:Nat) (w:World) (hs:s.size≤1048576) (hn:n≤64) (hlt:c+n≤8*s.size) (hS:SupAt w b s c) :
  Calls Tryz.prog 269 #[.pointer (some ⟨b,0,none⟩),.int .i64 n] w fun e w'=>e = .returned (.tuple #[.int .u64 (valAt s c n),.bool true])∧SupAt w' b s (c+n)∧w.grownBy w' (some b):=by
 have h0:=hS.c0
 have h1:=hS.c1
 go_enter Tryz.func269,Tryz.ntmps269
 go_wp2
 go_quiet (fail)
 go_wp2
 go_loopw [6,21] (fun v i wr=>∃ k d:Nat,d=c+k∧k≤n∧i = .int .i64 k∧v = .int .u64 (valAt s c k)∧SupAt wr b s d∧w.grownBy wr (some b)) (fun _ i _=>n - (intOf i).toNat)
 case atStart=>exact ⟨0,c,rfl,Nat.zero_le _,rfl,rfl,hS,only_drewN (only_refl _ _) _⟩
 case round=>
  obtain ⟨k,d,hd,hk,rfl,rfl,hSr,hg⟩:=hrel
  have g0:=hSr.c0
  have g1:=hSr.c1
  have gf:=hSr.f1
  by_cases hlt2:k<n
  ·have hi1:(0:Int)≤(d:Int) / 8:=by omega
   have hi2:(d:Int) / 8<(s.size:Int):=by omega
   have hi3:((d:Int) / 8).toNat=d / 8:=by omega
   have HD:Hid (d=c+k):=hd
   clear hd
   go_wp2
   go_region
   go_wp2
   go_roundw
   case rel=>
    have hd:=HD.out
    subst hd
    exact ⟨k+1,c+k+1,by omega,by omega,by go_num,by rw [valAt_step s c k (by omega)],(hSr.set (c+k+1)).drew,only_drew (only_setCell hg (.inl rfl) _)⟩
   case measure=>simp [intOf];omega
  ·go_wp2
   go_ret2
   obtain rfl:k=n:=by omega
   exact ⟨rfl,hd▸hSr,hg⟩
end Go.Proofs.YtdcenblblimkfaaGreat
