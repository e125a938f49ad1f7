/- Rows of the call's own, built by append. No walk.
The reference's default parameters. -/
import Derived.Test.YtdcenblblimkfaaGreatPn07
import Derived.Maps.AppendAt
set_option linter.unusedSimpArgs false
set_option linter.unusedVariables false
set_option linter.unnecessarySimpa false
set_option linter.unusedSectionVars false
namespace Go.Proofs.YtdcenblblimkfaaGreat
open Go.RowKit

theorem Turn.trans' {a b c:World} {S T:List Nat} (h:Turn a b S) (k:Turn b c T):Turn a c (S++T):=(h.mono (fun _ hx=>List.mem_append_left _ hx)).trans (k.mono (fun _ hx=>List.mem_append_right _ hx))
def U32 (w:World) (g:Nat):Prop:=∃ cs,w.heap[g]? = some (.cells cs 22 (0,0))
theorem U32.lt {w:World} {g:Nat} (h:U32 w g):g<w.heap.size:=by
 obtain ⟨cs,h⟩:=h
 exact block_lt h
theorem U32.cells {w w':World} {g:Nat} (h:U32 w g) (hk:∀ cs:Array Value,w.heap[g]? = some (.cells cs 22 (0,0))→w'.heap[g]? = some (.cells cs 22 (0,0))):U32 w' g:=by
 obtain ⟨cs,h⟩:=h
 exact ⟨cs,hk _ h⟩
theorem OwU.u32 {w:World} {base:Nat} {v:Value} {l:List Nat} (h:OwU w base v l) {a:Addr} {n c:Nat} (e:v = .slice (some a) n c):U32 w a.block:=by
 rcases h.2 with ⟨rfl,h0⟩ | ⟨g,cap,cur,rfl,hg,hh,_⟩
 ·cases e
 ·cases e
  exact ⟨cur,hh⟩
def OwR (w:World) (base:Nat) (v:Value) (rows:List (List Nat)):Prop:=
 ∃ vals:List Value,w.ownsRow base 23 1 v rows.length vals∧(∀ g,v.ownBlock=some g→g<w.heap.size) ∧
  ∀ j,j<rows.length→∃ ro rc,vals[j]? = some (.slice ro (rows.getD j []).length rc)∧Rd w ro (rows.getD j [])∧(rows.getD j []).length≤rc∧∀ a:Addr,ro=some a→v.ownBlock≠some a.block∧U32 w a.block∧base≤a.block
theorem OwR.nil (w:World) (base:Nat):OwR w base (.slice none 0 0) []:=⟨[],World.ownsRow_nil w _ _ _,fun g h=>by simp [Value.ownBlock] at h,fun j hj=>by simp at hj⟩
def Kp (T:TypeId→Bool) (base:Nat) (a b:World):Prop:=a.heap.size≤b.heap.size∧∀ (k:Nat) (cs:Array Value) (t:TypeId),base≤k→T t=true→a.heap[k]? = some (.cells cs t (0,0))→b.heap[k]? = some (.cells cs t (0,0))
section
variable {T:TypeId→Bool} {base:Nat} {a b c w:World}
theorem Kp.refl (T:TypeId→Bool) (base:Nat) (a:World):Kp T base a a:=⟨Nat.le_refl _,fun _ _ _ _ _ h=>h⟩
theorem Kp.trans (h:Kp T base a b) (k:Kp T base b c):Kp T base a c:=⟨Nat.le_trans h.1 k.1,fun x cs t hx ht e=>k.2 x cs t hx ht (h.2 x cs t hx ht e)⟩
end


set_option maxHeartbeats 6400000 in
set_option maxRecDepth 100000 in
theorem r12default_own (n prime lv t q0 : Nat) (power : Int) (qs : List Nat) (w : World) (hn : n = 4 ∨ n = 8 ∨ n = 16 ∨ n = 32) (hp : prime ≤ 4294967295) (hw1 : -9223372036854775808 ≤ power) (hw2 : power ≤ 9223372036854775807) (hl1 : 1 ≤ lv) (hl2 : lv ≤ 24)
    (hT : plainV n prime power = t) (ht : 3 ≤ t) (ht2 : t ≤ 2147483647) (hto : t % 2 = 1) (hst : 2 * n * t ≤ 2147483647) (hch : chainOf n t (lv + 1) = q0 :: qs) (hqs : qs.length = lv) :
    Calls Tryz.prog 159 #[.int .i64 n, .int .u32 prime, .int .i64 power, .int .i64 lv] w fun e w' => ∃ ca cc, e = .returned (.tuple #[.agg (Par.cells ⟨n, prime, power, qs, q0, 4, 2⟩ ca cc), .int .i64 0]) ∧ ParIn w' ⟨n, prime, power, qs, q0, 4, 2⟩ ca cc ∧ (∀ W S, Turn w' W S → (∀ x, x ∈ S → x < w.heap.size) → ParIn W ⟨n, prime, power, qs, q0, 4, 2⟩ ca cc) ∧ Below w.heap.size w w' := by
  have HD := Lib.hid (fun w => r12dim_walk (n : Int) w)
  rw [tr_pos (show IsDim (n : Int) by rcases hn with h | h | h | h <;> subst h <;> simp [IsDim])] at HD
  have HP := Lib.hid (fun w => r12plain_walk n prime power w hn hp hw1 hw2)
  rw [hT] at HP
  have hC : ∀ w, Calls Tryz.prog 244 #[.int .i64 n, .int .u32 t, .int .i64 ((lv : Int) + 1)] w fun e w' => ChainEnd w.heap.size (chainOf n t (lv + 1)) (lv + 1) e w' ∧ Below w.heap.size w w' := fun w => r03chain_walk n t (lv + 1) w hn ht ht2 hto (by omega) (by omega)
  have HC := Lib.hid hC
  clear hC
  have hn4 : 4 ≤ n := by omega
  have hn32 : n ≤ 32 := by omega
  have hle : ∀ i, i < (q0 :: qs).length → (q0 :: qs).getD i 0 ≤ 2147483647 := by
    rw [← hch]
    exact chainL_le (Nat.mul_pos (by omega) (by omega)) _ [] (Nat.div_mul_le_self _ _) (fun i hi => by simp at hi)
  have hq0 : q0 ≤ 2147483647 := hle 0 (by simp)
  have HQ : Hid (∀ i, i < qs.length → qs.getD i 0 ≤ 4294967295) := Lib.hid (fun i hi => by have := hle (i + 1) (by simpa using hi); simp at this ⊢; omega)
  rw [hch] at HC
  have HQL := Lib.hid hqs
  obtain ⟨z, hz⟩ : ∃ z, 2 * n * t = z := ⟨_, rfl⟩
  have hzi : (2 * (n : Int)) * (t : Int) = (z : Int) := by rw [← hz]; simp
  rw [hz] at hst
  unfold Par.cells
  simp only
  rw [hqs]
  clear hn hT hch hle hqs hz
  go_enter Tryz.func159, Tryz.ntmps159
  go_wp2_with fail
  (with_reducible refine Calls.mono (HD.out _) ?_)
  rintro e w1 ⟨rfl, rfl⟩
  go_wp2_with fail
  (with_reducible refine Calls.mono (HP.out _) ?_)
  rintro e w2 ⟨rfl, rfl⟩
  go_wp2_with fail
  (with_reducible refine Calls.mono (HC.out _) ?_)
  rintro e w3 ⟨hend, hb⟩
  have HB3 : Hid (Below w.heap.size w w3) := Lib.hid (((Below.refl _ w).alloc (Nat.le_refl _) _).trans (hb.mono (by simp)))
  rcases hend with ⟨hlt, _⟩ | ⟨ao, cap, _, rfl, hrd, hca, hcm, hab⟩
  · rw [List.length_cons, HQL.out] at hlt; omega
  obtain ⟨b, off, rfl, hcc⟩ := hrd 0 (by simp)
  have hlen : (q0 :: qs).length = lv + 1 := by rw [List.length_cons, HQL.out]
  have c0 : w3.cell? ⟨b, off, none⟩ = some (.int .u32 (q0 : Int)) := hcc 0 (by simp)
  have HR : Hid (Rd w3 (some ⟨b, off + 1, none⟩) qs) := Lib.hid (fun k hk => ⟨b, off + 1, rfl, fun j hj => by
    have := hcc (j + 1) (by simpa using hj)
    rw [show off + 1 + j = off + (j + 1) by omega, this]
    simp⟩)
  rw [hlen] at hca
  have hbx : w.heap.size < w3.heap.size := by have := hb.size; simp at this; omega
  have hbk : Blk w3 w.heap.size 25 #[.int .i64 0, .int .u32 0, .int .i64 0, .slice none 0 0, .int .u32 0, .int .i64 0, .int .u32 0] := (Blk.new w _ _).below hb
  have hcl : w.heap.size < b := by have := hab _ rfl; simp at this; omega
  have HCL := Lib.hid hcl
  have hcm0 : cap ≤ 9223372036854775807 := by unfold maxLen at hcm; omega
  have HFI : Hid (∀ W4 S, Turn w3 W4 S → (∀ x, x ∈ S → x ≤ w.heap.size) → ParIn W4 ⟨n, prime, power, qs, q0, 4, 2⟩ (some ⟨b, off + 1, none⟩) (cap - 1)) := Lib.hid (fun W4 S hT hS =>
     { rd := fun k hk => ⟨b, off + 1, rfl, fun j hj => hT.cell (by
         have := hcc (j + 1) (by simpa using hj)
         rw [show off + 1 + j = off + (j + 1) by omega, this]
         simp) (fun hx => by have := hS _ hx; simp only at this; omega)⟩
       n1 := by simp only; omega
       n2 := by simp only; omega
       prime := hp
       power1 := hw1
       power2 := hw2
       len := by simp only [HQL.out]; omega
       room := by simp only [HQL.out]; omega
       room2 := by omega
       chain := HQ.out
       special := by simp only; omega
       weight1 := by simp only; omega
       weight2 := by simp only; omega
       err := by simp only; omega })
  have HF : Hid (∀ W4, Turn w3 W4 [w.heap.size] → ParIn W4 ⟨n, prime, power, qs, q0, 4, 2⟩ (some ⟨b, off + 1, none⟩) (cap - 1) ∧ (∀ W S, Turn W4 W S → (∀ x, x ∈ S → x < w.heap.size) → ParIn W ⟨n, prime, power, qs, q0, 4, 2⟩ (some ⟨b, off + 1, none⟩) (cap - 1)) ∧ Below w.heap.size w W4) := Lib.hid (fun W4 hT =>
    ⟨HFI.out W4 _ hT (by simp), fun W S hT2 hS => HFI.out W _ (hT.trans' hT2) (fun x hx => by
      rcases List.mem_append.1 hx with h | h
      · simp at h; omega
      · have := hS x h; omega), HB3.out.trans (hT.belowN (by omega) (by simp))⟩)
  have hlen2 : (q0 :: qs).length = lv + 1 := hlen
  rw [hlen]
  have hcap1 : (1 : Int) ≤ (cap : Int) := by omega
  have hcap2 : ¬ cap = 1 := by omega
  have hcap3 : (1 : Int) ≤ ((lv : Int) + 1) := by omega
  unfold maxLen at hcm
  have k0 := hbk.cell 0
  have k1 := hbk.cell 1
  have k2 := hbk.cell 2
  have k3 := hbk.cell 3
  have k4 := hbk.cell 4
  have k5 := hbk.cell 5
  have k6 := hbk.cell 6
  have f0 := hbk.free 0
  have f1 := hbk.free 1
  have f2 := hbk.free 2
  have f3 := hbk.free 3
  have f4 := hbk.free 4
  have f5 := hbk.free 5
  have f6 := hbk.free 6
  clear hb hrd hcc hlen HD HP HC hab
  go_wp2
  go_region
  all_goals go_wp2
  all_goals
    refine bodyPost_ret (v := .tuple #[.agg #[.int .i64 n, .int .u32 prime, .int .i64 power, .slice (some ⟨b, off + 1, none⟩) lv (cap - 1), .int .u32 q0, .int .i64 4, .int .u32 2], .int .i64 0]) (by simp [results, Tryz.results159, go_sem, k0, k1, k2, k3, k4, k5, k6]) rfl ⟨_, _, rfl, HF.out _ ?_⟩
    have T0 := (((((((Turn.refl w3 [w.heap.size]).setCell (p := ⟨w.heap.size, 0, none⟩) (.inl (by simp)) (.int .i64 n)).setCell (p := ⟨w.heap.size, 1, none⟩) (.inl (by simp)) (.int .u32 prime)).setCell (p := ⟨w.heap.size, 2, none⟩) (.inl (by simp)) (.int .i64 power)).setCell (p := ⟨w.heap.size, 3, none⟩) (.inl (by simp)) (.slice (some ⟨b, off + 1, none⟩) lv (cap - 1))).setCell
      (p := ⟨w.heap.size, 4, none⟩) (.inl (by simp)) (.int .u32 q0)).setCell (p := ⟨w.heap.size, 5, none⟩) (.inl (by simp)) (.int .i64 4)).setCell (p := ⟨w.heap.size, 6, none⟩) (.inl (by simp)) (.int .u32 2)
    first | exact T0.drew | exact T0
end Go.Proofs.YtdcenblblimkfaaGreat
