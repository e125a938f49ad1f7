/- The functions that fill the rows of sums and differences.
The reference's product of two rows.
The function that fills the rows of a difference.
What the closures of Add and Sub fill; slices.Contains; the program's modulus and place.
The program's ring: good parameters are valid ones. -/
import Derived.Test.YtcipjbckcnkfaaaGreatPs09
import Derived.Test.YtcipjbckcnkfaaaGreatPs10
import Derived.Test.YtcipjbckcnkfaaaGreatPs06
import Derived.Test.YtcipjbckcnkfaaaGreatPs01
import Derived.Test.YtcipjbckcnkfaaaGreatPs07
import Derived.Deep.RegionHeld3
import Derived.Deep.DrawnRows
import Derived.BigQuiet
set_option linter.unusedSimpArgs false
set_option linter.unusedVariables false
namespace Go.Proofs.YtcipjbckcnkfaaaGreat
open Go.RowKit Go.Shelf
attribute [local go_sem ↓] Go.wp_at_zero Go.wp_at_succ

/-- A row, filled up to j. -/
def rowAt (n : Nat) (f : Nat → Nat) (j : Nat) : List Nat := (List.range n).map fun t => if t < j then f t else 0
theorem rowAt_zero (n : Nat) (f : Nat → Nat) : rowAt n f 0 = List.replicate n 0 := by
  apply List.ext_getElem
  · simp [rowAt]
  · intro i h1 h2
    simp [rowAt]
theorem rowAt_full (n : Nat) (f : Nat → Nat) : rowAt n f n = (List.range n).map f := by
  apply List.map_congr_left
  intro i hi
  rw [if_pos (List.mem_range.1 hi)]
theorem RowB.step {w : World} {g n j : Nat} {f : Nat → Nat} (h : RowB w g (rowAt n f j)) (hj : j < n) : RowB (w.setCell ⟨g, j, none⟩ (.int .u32 (f j : Int))) g (rowAt n f (j + 1)) := by
  have h2 := Blk.set h j (.int .u32 (f j : Int))
  have e : ((rowAt n f j).map fun x : Nat => Value.int .u32 (x : Int)).toArray.setIfInBounds j (.int .u32 (f j : Int)) = ((rowAt n f (j + 1)).map fun x : Nat => Value.int .u32 (x : Int)).toArray := by
    apply Array.ext_getElem?
    intro i
    rw [Array.getElem?_setIfInBounds]
    by_cases hij : j = i
    · subst hij
      rw [if_pos rfl, if_pos (by simp [rowAt]; exact hj)]
      simp [rowAt, hj]
    · rw [if_neg hij]
      rcases Nat.lt_or_ge i n with h | h
      · have : (i < j) ↔ (i < j + 1) := by omega
        simp [rowAt, h, this]
      · simp [rowAt, h]
  unfold RowB
  rw [← e]
  exact h2
theorem RowB.cellAt {w : World} {g n j : Nat} {f : Nat → Nat} (h : RowB w g (rowAt n f j)) (hj : j < n) : w.cell? ⟨g, j, none⟩ = some (.int .u32 0) := by
  rw [Blk.cell h j]
  simp [rowAt, hj]
/-- The two elements that a closure captured. -/
structure TwoAt (w : World) (ba bb lv m n : Nat) (sp : Bool) (A B : El) (aa ab : Option Addr) (cA cB : Nat) : Prop where
  a : Blk w ba 54 #[.int .i64 lv, .bool sp, .slice aa m cA]
  b : Blk w bb 54 #[.int .i64 lv, .bool sp, .slice ab m cB]
  ra : RdR w aa A.rows
  rb : RdR w ab B.rows
  la : A.rows.length = m
  lb : B.rows.length = m
  na : ∀ i, i < m → (A.row i).length = n ∧ (B.row i).length = n
theorem TwoAt.below {w w' : World} {ba bb lv m n : Nat} {sp : Bool} {A B : El} {aa ab : Option Addr} {cA cB : Nat} (h : TwoAt w ba bb lv m n sp A B aa ab cA cB) (hb : Below w.heap.size w w') : TwoAt w' ba bb lv m n sp A B aa ab cA cB :=
  { h with a := h.a.below hb, b := h.b.below hb, ra := h.ra.below hb, rb := h.rb.below hb }
/-- What is read of them for a coefficient. -/
theorem TwoAt.read {w : World} {ba bb lv m n : Nat} {sp : Bool} {A B : El} {aa ab : Option Addr} {cA cB : Nat} (h : TwoAt w ba bb lv m n sp A B aa ab cA cB) {i j : Nat} (hi : i < m) (hj : j < n) :
    ∃ b1 o1 b2 o2 b3 o3 r3 b4 o4 r4, aa = some ⟨b1, o1, none⟩ ∧ ab = some ⟨b2, o2, none⟩ ∧ w.cell? ⟨ba, 2, none⟩ = some (.slice aa m cA) ∧ w.cell? ⟨bb, 2, none⟩ = some (.slice ab m cB) ∧ w.cell? ⟨b1, o1 + i, none⟩ = some (.slice (some ⟨b3, o3, none⟩) n r3) ∧ w.cell? ⟨b2, o2 + i, none⟩ = some (.slice (some ⟨b4, o4, none⟩) n r4) ∧
      w.cell? ⟨b3, o3 + j, none⟩ = some (.int .u32 (A.get i j : Int)) ∧ w.cell? ⟨b4, o4 + j, none⟩ = some (.int .u32 (B.get i j : Int)) := by
  obtain ⟨b1, o1, rfl, h1⟩ := h.ra i (by rw [h.la]; exact hi)
  obtain ⟨r1, c1, d1, e1, _⟩ := h1 i (by rw [h.la]; exact hi)
  obtain ⟨b2, o2, rfl, h2⟩ := h.rb i (by rw [h.lb]; exact hi)
  obtain ⟨r2, c2, d2, e2, _⟩ := h2 i (by rw [h.lb]; exact hi)
  have n1 : (A.rows.getD i []).length = n := (h.na i hi).1
  have n2 : (B.rows.getD i []).length = n := (h.na i hi).2
  obtain ⟨b3, o3, rfl, h3⟩ := e1 j (by rw [n1]; exact hj)
  obtain ⟨b4, o4, rfl, h4⟩ := e2 j (by rw [n2]; exact hj)
  rw [n1] at d1
  rw [n2] at d2
  exact ⟨b1, o1, b2, o2, b3, o3, c1, b4, o4, c2, rfl, rfl, h.a.cell 2, h.b.cell 2, d1, d2, h3 j (by rw [n1]; exact hj), h4 j (by rw [n2]; exact hj)⟩
theorem enters_add1 : ∀ args w, (callFunc 73 args).run Tryz.prog w = .ok (.enter 73 args) w := enters_of Tryz.func73 (by kernel_rfl) rfl

set_option maxHeartbeats 6400000 in
set_option maxRecDepth 100000 in
theorem add1_walk (ba bb lv m n g i x : Nat) (sp : Bool) (A B : El) (aa ab : Option Addr) (cA cB : Nat) (w : World) (hg : RowB w g (List.replicate n 0)) (hn : n ≤ 32) (hi : i < m) (hx : 0 < x) (hx2 : x ≤ 2147483647)
    (hv : ∀ j, j < n → A.get i j < x ∧ B.get i j < x) (hW : ∃ w0, Below w0.heap.size w0 w ∧ TwoAt w0 ba bb lv m n sp A B aa ab cA cB ∧ w0.heap.size ≤ g) :
    Calls Tryz.prog 73 #[.int .i64 i, .int .u64 x, .slice (some ⟨g, 0, none⟩) n n, .pointer (some ⟨ba, 0, none⟩), .pointer (some ⟨bb, 0, none⟩)] w fun e w' => e = .returned (.tuple #[]) ∧ RowB w' g ((List.range n).map fun j => (A.get i j + B.get i j) % x) ∧ Turn w w' [g] := by
  obtain ⟨w0, hb0, hT0, hg0⟩ := hW
  have HR : Hid (∀ w', Turn w w' [g] → Below w0.heap.size w0 w') := Lib.hid (fun w' ht => hb0.trans (ht.belowN hb0.size (fun k hk => by simp at hk; omega)))
  have HT0 := Lib.hid hT0
  obtain ⟨f, hf⟩ : ∃ f : Nat → Nat, (fun j => (A.get i j + B.get i j) % x) = f := ⟨_, rfl⟩
  have HF : Hid (∀ j, f j = (A.get i j + B.get i j) % x) := Lib.hid (fun j => by rw [← hf])
  rw [hf]
  rw [← rowAt_zero n f] at hg
  have HG := Lib.hid hg
  have HV := Lib.hid hv
  clear hg hb0 hT0 hf hv hg0
  go_enter Tryz.func73, Tryz.ntmps73
  go_wp2
  go_loopg [11] n (fun fu v11 wr => ∃ j : Nat, v11 = .int .i64 j ∧ j ≤ n ∧ n - j ≤ fu ∧ Hid (RowB wr g (rowAt n f j)) ∧ Hid (Turn w wr [g]))
  case atStart => exact ⟨0, rfl, by omega, by omega, HG, Lib.hid (Turn.refl _ _)⟩
  case round =>
    obtain ⟨j, rfl, hj, hfu, HRo, HTu⟩ := hrel
    by_cases hjl : j < n
    case neg =>
      obtain rfl : j = n := by omega
      go_wp2
      refine bodyPost_end (results_none rfl _ _ _) rfl ?_
      exact ⟨rfl, by have := HRo.out; rw [rowAt_full] at this; exact this, HTu.out⟩
    obtain ⟨b1, o1, b2, o2, b3, o3, r3, b4, o4, r4, rfl, rfl, t1, t2, t3, t4, t5, t6⟩ := HT0.out.read hi hjl
    have hv := HV.out j hjl
    have hfj := HF.out j
    obtain ⟨xa, hxa⟩ : ∃ xa, A.get i j = xa := ⟨_, rfl⟩
    obtain ⟨xb, hxb⟩ : ∃ xb, B.get i j = xb := ⟨_, rfl⟩
    rw [hxa] at t5 hv hfj
    rw [hxb] at t6 hv hfj
    have HSK : Hid (∀ w', Turn w w' [g] → w'.cell? ⟨ba, 2, none⟩ = some (.slice (some ⟨b1, o1, none⟩) m cA) ∧ w'.cell? ⟨bb, 2, none⟩ = some (.slice (some ⟨b2, o2, none⟩) m cB) ∧ w'.cell? ⟨b1, o1 + i, none⟩ = some (.slice (some ⟨b3, o3, none⟩) n r3) ∧ w'.cell? ⟨b2, o2 + i, none⟩ = some (.slice (some ⟨b4, o4, none⟩) n r4) ∧
      w'.cell? ⟨b3, o3 + j, none⟩ = some (.int .u32 (xa : Int)) ∧ w'.cell? ⟨b4, o4 + j, none⟩ = some (.int .u32 (xb : Int))) := Lib.hid (fun w' ht => by
      have t : ∀ {a : Addr} {v : Value}, w0.cell? a = some v → w'.cell? a = some v := fun {a v} h => ((HR.out w' ht).cell (World.block_lt_of_cell? w0 _ h)).trans h
      exact ⟨t t1, t t2, t t3, t t4, t t5, t t6⟩)
    obtain ⟨su, hsu⟩ : ∃ su, xa + xb = su := ⟨_, rfl⟩
    rw [hsu] at hfj
    have hsub : su ≤ 4294967294 := by omega
    obtain ⟨t, ht⟩ : ∃ t, su % x = t := ⟨_, rfl⟩
    have htb : t < x := by rw [← ht]; exact Nat.mod_lt _ (by omega)
    rw [ht] at hfj
    have hsi : (xa : Int) + (xb : Int) = (su : Int) := by omega
    have hti : (su : Int) % (x : Int) = (t : Int) := by rw [← ht]; simp
    have htm : (su : Int).tmod (x : Int) = (t : Int) := by rw [Int.tmod_eq_emod_of_nonneg (by omega)]; exact hti
    have hw1 : IntKind.u64.wrap (xa : Int) = (xa : Int) := IntWalk.u64_in _ (by omega)
    have hw2 : IntKind.u64.wrap (xb : Int) = (xb : Int) := IntWalk.u64_in _ (by omega)
    have hw3 : IntKind.u64.wrap (su : Int) = (su : Int) := IntWalk.u64_in _ (by omega)
    have hw4 : IntKind.u64.wrap (t : Int) = (t : Int) := IntWalk.u64_in _ (by omega)
    have hw5 : IntKind.u32.wrap (t : Int) = (t : Int) := IntWalk.u32_in _ (by omega)
    have hxz : ¬ x = 0 := by omega
    have i0 : (0 : Int) ≤ (i : Int) := Int.natCast_nonneg _
    have i1 : (i : Int) < (m : Int) := by omega
    have j0 : (0 : Int) ≤ (j : Int) := Int.natCast_nonneg _
    have j1 : (j : Int) < (n : Int) := by omega
    have cg := HRo.out.cellAt hjl
    have fg : wr.frozen? ⟨g, j, none⟩ = false := Blk.free HRo.out j
    have HRs : Hid (RowB (wr.setCell ⟨g, j, none⟩ (.int .u32 (t : Int))) g (rowAt n f (j + 1))) := Lib.hid (by rw [← hfj]; exact HRo.out.step hjl)
    have HTs : Hid (Turn w (wr.setCell ⟨g, j, none⟩ (.int .u32 (t : Int))) [g]) := Lib.hid (HTu.out.setCell (p := ⟨g, j, none⟩) (.inl (by simp)) _)
    clear t1 t2 t3 t4 t5 t6
    go_wp2
    go_region_held3 (fun w' => w'.cell? ⟨ba, 2, none⟩ = some (.slice (some ⟨b1, o1, none⟩) m cA) ∧ w'.cell? ⟨bb, 2, none⟩ = some (.slice (some ⟨b2, o2, none⟩) m cB) ∧ w'.cell? ⟨b1, o1 + i, none⟩ = some (.slice (some ⟨b3, o3, none⟩) n r3) ∧ w'.cell? ⟨b2, o2 + i, none⟩ = some (.slice (some ⟨b4, o4, none⟩) n r4) ∧
      w'.cell? ⟨b3, o3 + j, none⟩ = some (.int .u32 (xa : Int)) ∧ w'.cell? ⟨b4, o4 + j, none⟩ = some (.int .u32 (xb : Int)))
      (first | exact HSK.out _ HTu.out.drew | exact HSK.out _ HTs.out.drew | exact HSK.out _ HTs.out) (fail)
    all_goals (
      go_wp2
      go_roundg (n - (j + 1))
      case measure => omega
      case rel => exact ⟨j + 1, by go_num, by omega, Nat.le_refl _, HRs, Lib.hid HTs.out.drew⟩)
end Go.Proofs.YtcipjbckcnkfaaaGreat

namespace Go.Proofs.YtcipjbckcnkfaaaGreat
open Go.RowKit
attribute [local go_sem ↓] Go.wp_at_zero Go.wp_at_succ

theorem RowB.put {w : World} {g n t : Nat} {h : Nat → Nat} (hr : RowB w g ((List.range n).map h)) (_ : t < n) (v : Nat) : RowB (w.setCell ⟨g, t, none⟩ (.int .u32 (v : Int))) g ((List.range n).map fun s => if s = t then v else h s) := by
  have h2 := Blk.set hr t (.int .u32 (v : Int))
  have e : (((List.range n).map h).map fun x : Nat => Value.int .u32 (x : Int)).toArray.setIfInBounds t (.int .u32 (v : Int)) = (((List.range n).map fun s => if s = t then v else h s).map fun x : Nat => Value.int .u32 (x : Int)).toArray := by
    apply Array.ext_getElem?
    intro i
    rw [Array.getElem?_setIfInBounds]
    by_cases hij : t = i
    · subst hij
      rw [if_pos rfl]
      rcases Nat.lt_or_ge t n with h | h
      · rw [if_pos (by simp; exact h)]; simp [h]
      · rw [if_neg (by simp; exact h)]; simp [h]
    · rw [if_neg hij]
      rcases Nat.lt_or_ge i n with h | h
      · have hij' : ¬ i = t := fun e => hij e.symm
        simp [h, hij']
      · simp [h]
  unfold RowB
  rw [← e]
  exact h2
theorem RowB.cellF {w : World} {g n t : Nat} {h : Nat → Nat} (hr : RowB w g ((List.range n).map h)) (ht : t < n) : w.cell? ⟨g, t, none⟩ = some (.int .u32 (h t : Int)) := by
  rw [Blk.cell hr t]
  simp [ht]
theorem RowB.congr {w : World} {g n : Nat} {h h' : Nat → Nat} (hr : RowB w g ((List.range n).map h)) (e : ∀ t, t < n → h t = h' t) : RowB w g ((List.range n).map h') := by
  have : (List.range n).map h = (List.range n).map h' := List.map_congr_left (fun t ht => e t (List.mem_range.1 ht))
  rw [← this]
  exact hr

set_option maxHeartbeats 6400000 in
set_option maxRecDepth 100000 in
theorem r06Product_walk (x n : Nat) (A B : List Nat) (aa ab : Option Addr) (cA cB : Nat) (w : World) (hx : 0 < x) (hx2 : x ≤ 2147483647) (hn0 : 0 < n) (hn : n ≤ 32) (hla : A.length = n) (hlb : B.length = n) (hra : Rd w aa A) (hrb : Rd w ab B) (hv : ∀ j, j < n → A.getD j 0 < x ∧ B.getD j 0 < x) :
    Calls Tryz.prog 104 #[.int .u32 x, .slice aa n cA, .slice ab n cB] w fun e w' => e = .returned (.slice (some ⟨w.heap.size, 0, none⟩) n n) ∧ RowB w' w.heap.size ((List.range n).map fun k => nc (fun j => A.getD j 0) (fun j => B.getD j 0) x n k) ∧ Below w.heap.size w w' := by
  obtain ⟨b3, o3, rfl, h3⟩ := hra 0 (by omega)
  obtain ⟨b4, o4, rfl, h4⟩ := hrb 0 (by omega)
  have H5 : Hid (∀ w', Below w.heap.size w w' → ∀ j, j < n → w'.cell? ⟨b3, o3 + j, none⟩ = some (.int .u32 ((A.getD j 0 : Nat) : Int))) := Lib.hid (fun w' hb j hj => (hb.cell (World.block_lt_of_cell? w _ (h3 j (by omega)))).trans (h3 j (by omega)))
  have H6 : Hid (∀ w', Below w.heap.size w w' → ∀ j, j < n → w'.cell? ⟨b4, o4 + j, none⟩ = some (.int .u32 ((B.getD j 0 : Nat) : Int))) := Lib.hid (fun w' hb j hj => (hb.cell (World.block_lt_of_cell? w _ (h4 j (by omega)))).trans (h4 j (by omega)))
  obtain ⟨xa, hxa⟩ : ∃ xa : Nat → Nat, (fun j => A.getD j 0) = xa := ⟨_, rfl⟩
  obtain ⟨xb, hxb⟩ : ∃ xb : Nat → Nat, (fun j => B.getD j 0) = xb := ⟨_, rfl⟩
  have ea : ∀ j, A.getD j 0 = xa j := fun j => by rw [← hxa]
  have eb : ∀ j, B.getD j 0 = xb j := fun j => by rw [← hxb]
  simp only [ea, eb] at H5 H6 hv ⊢
  obtain ⟨g, hg⟩ : ∃ g, w.heap.size = g := ⟨_, rfl⟩
  have hmk := makeRow n hn w
  have HZ : Hid (RowB (w.alloc (.cells ((List.replicate n 0).map fun x : Nat => Value.int .u32 (x : Int)).toArray 22)) g ((List.range n).map (rfRow xa xb x n 0 0))) := Lib.hid (by
    have e : (List.replicate n 0 : List Nat) = (List.range n).map (rfRow xa xb x n 0 0) := by
      apply List.ext_getElem
      · simp
      · intro i h1 h2; simp [rfRow_zero]
    rw [← e]
    exact Blk.newAt hg)
  have HB0 : Hid (Below w.heap.size w (w.alloc (.cells ((List.replicate n 0).map fun x : Nat => Value.int .u32 (x : Int)).toArray 22))) := Lib.hid ((Below.refl _ w).alloc (Nat.le_refl _) _)
  obtain ⟨w1, hw1⟩ : ∃ w1, w.alloc (.cells ((List.replicate n 0).map fun x : Nat => Value.int .u32 (x : Int)).toArray 22) = w1 := ⟨_, rfl⟩
  rw [hw1] at hmk HZ HB0
  rw [hg] at hmk
  have HV := Lib.hid hv
  have HG := Lib.hid hg
  have hxz : ¬ x = 0 := by omega
  have hw7 : IntKind.u64.wrap (x : Int) = (x : Int) := IntWalk.u64_in _ (by omega)
  rw [hg]
  rw [hg] at HB0 H5 H6
  clear hra hrb h3 h4 hla hlb hv hw1 hxa hxb ea eb hg
  go_enter Tryz.func104, Tryz.ntmps104
  go_wp2
  clear hmk
  go_loopg [8] n (fun fu v wr => ∃ i : Nat, v = .int .i64 i ∧ i ≤ n ∧ n - i ≤ fu ∧ Hid (RowB wr g ((List.range n).map (rfRow xa xb x n i 0))) ∧ Hid (Below g w wr))
  case atStart => exact ⟨0, rfl, by omega, by omega, HZ, HB0⟩
  case round =>
    obtain ⟨i, rfl, hi, hfu, HRo, HBo⟩ := hrel
    by_cases hil : i < n
    case neg =>
      obtain rfl : i = n := by omega
      go_wp2
      go_ret
      exact ⟨rfl, RowB.congr HRo.out (fun t _ => rfRow_end), HBo.out⟩
    obtain ⟨wo, rfl⟩ : ∃ wo, wo = wr := ⟨_, rfl⟩
    go_wp2
    go_loopg [9] n (fun fu v wr => ∃ k : Nat, v = .int .i64 k ∧ k ≤ n ∧ n - k ≤ fu ∧ Hid (RowB wr g ((List.range n).map (rfRow xa xb x n i k))) ∧ Hid (Below g w wr))
    case atStart => exact ⟨0, rfl, by omega, by omega, HRo, HBo⟩
    case round =>
      obtain ⟨k, rfl, hk, hfu2, HR2, HB2⟩ := hrel
      by_cases hkl : k < n
      case neg =>
        obtain rfl : k = n := by omega
        have HNX : Hid (RowB wr g ((List.range k).map (rfRow xa xb x k (i + 1) 0))) := Lib.hid (RowB.congr HR2.out (fun t ht => rfRow_next hil ht))
        go_wp2
        go_roundg (k - (i + 1))
        case measure => omega
        case rel => exact ⟨i + 1, by go_num, by omega, Nat.le_refl _, HNX, HB2⟩
      have c5 := H5.out wr HB2.out i hil
      have c6 := H6.out wr HB2.out k hkl
      have hva := (HV.out i hil).1
      have hvb := (HV.out k hkl).2
      have i0 : (0 : Int) ≤ (i : Int) := Int.natCast_nonneg _
      have i1 : (i : Int) < (n : Int) := by omega
      have k0 : (0 : Int) ≤ (k : Int) := Int.natCast_nonneg _
      have k1 : (k : Int) < (n : Int) := by omega
      have hlow := rfRow_low (x := xa) (y := xb) (n := n) (i := i) (k := k) hx hil
      have hhigh := rfRow_high (x := xa) (y := xb) (n := n) (i := i) (k := k) hx hil hkl
      obtain ⟨a, ha⟩ : ∃ a, xa i = a := ⟨_, rfl⟩
      obtain ⟨b, hb⟩ : ∃ b, xb k = b := ⟨_, rfl⟩
      rw [ha] at c5 hva hlow hhigh
      rw [hb] at c6 hvb hlow hhigh
      have hzb : a * b ≤ 2147483647 * 2147483647 := Nat.mul_le_mul (by omega) (by omega)
      obtain ⟨z, hz⟩ : ∃ z, a * b = z := ⟨_, rfl⟩
      rw [hz] at hzb hlow hhigh
      have hzi : (a : Int) * (b : Int) = (z : Int) := by rw [← hz]; simp
      obtain ⟨c, hc⟩ : ∃ c, z % x = c := ⟨_, rfl⟩
      have hcb : c < x := by rw [← hc]; exact Nat.mod_lt _ (by omega)
      rw [hc] at hlow hhigh
      have hci : (z : Int) % (x : Int) = (c : Int) := by rw [← hc]; simp
      have hcm : (z : Int).tmod (x : Int) = (c : Int) := by rw [Int.tmod_eq_emod_of_nonneg (by omega)]; exact hci
      have hw1 : IntKind.u64.wrap (a : Int) = (a : Int) := IntWalk.u64_in _ (by omega)
      have hw2 : IntKind.u64.wrap (b : Int) = (b : Int) := IntWalk.u64_in _ (by omega)
      have hw3 : IntKind.u64.wrap (z : Int) = (z : Int) := IntWalk.u64_in _ (by omega)
      have hw4 : IntKind.u64.wrap (c : Int) = (c : Int) := IntWalk.u64_in _ (by omega)
      have HLO := Lib.hid hlow
      have HHI := Lib.hid hhigh
      obtain ⟨e, he⟩ : ∃ e, i + k = e := ⟨_, rfl⟩
      have hei : (i : Int) + (k : Int) = (e : Int) := by omega
      rw [he] at HLO HHI
      clear ha hb hz hc hlow hhigh
      go_wp2
      go_quiet (fail)
      clear c5 c6 hw1 hw2
      by_cases hel : e < n
      · have hgd : decide ((n : Int) ≤ (e : Int)) = false := decide_eq_false (by omega)
        have cg := (RowB.cellF HR2.out hel)
        have cg2 : ∀ q, (wr.drewN q).cell? ⟨g, e, none⟩ = some (.int .u32 (rfRow xa xb x n i k e : Nat)) := fun _ => cg
        have fg : ∀ q, (wr.drewN q).frozen? ⟨g, e, none⟩ = false := fun _ => Blk.free HR2.out e
        have hrl := rfRow_lt (x := xa) (y := xb) (n := n) (i := i) (k := k) (t := e) hx
        have hres := HLO.out hel
        obtain ⟨r, hr⟩ : ∃ r, rfRow xa xb x n i k e = r := ⟨_, rfl⟩
        rw [hr] at hrl hres cg
        simp only [hr] at cg2
        obtain ⟨su, hsu⟩ : ∃ su, r + c = su := ⟨_, rfl⟩
        rw [hsu] at hres
        have hsi : (r : Int) + (c : Int) = (su : Int) := by omega
        obtain ⟨v, hv⟩ : ∃ v, su % x = v := ⟨_, rfl⟩
        rw [hv] at hres
        have hvb2 : v < x := by rw [← hv]; exact Nat.mod_lt _ (by omega)
        have hvi : (su : Int) % (x : Int) = (v : Int) := by rw [← hv]; simp
        have hvm : (su : Int).tmod (x : Int) = (v : Int) := by rw [Int.tmod_eq_emod_of_nonneg (by omega)]; exact hvi
        have hx1 : IntKind.u64.wrap (r : Int) = (r : Int) := IntWalk.u64_in _ (by omega)
        have hx2' : IntKind.u64.wrap (su : Int) = (su : Int) := IntWalk.u64_in _ (by omega)
        have hx3 : IntKind.u64.wrap (v : Int) = (v : Int) := IntWalk.u64_in _ (by omega)
        have hx4 : IntKind.u32.wrap (v : Int) = (v : Int) := IntWalk.u32_in _ (by omega)
        have e0 : (0 : Int) ≤ (e : Int) := Int.natCast_nonneg _
        have e1 : (e : Int) < (n : Int) := by omega
        have HRs : Hid (∀ q, RowB ((wr.drewN q).setCell ⟨g, e, none⟩ (.int .u32 (v : Int))) g ((List.range n).map (rfRow xa xb x n i (k + 1)))) := Lib.hid (fun q => RowB.congr (RowB.put (HR2.out : RowB (wr.drewN q) g _) hel v) (fun t ht => by
          by_cases hte : t = e
          · rw [if_pos hte, hte]; exact hres
          · rw [if_neg hte]; exact (rfRow_other hil hkl ht (by rw [he, if_pos hel]; exact hte)).symm))
        have HBs : Hid (∀ q, Below g w ((wr.drewN q).setCell ⟨g, e, none⟩ (.int .u32 (v : Int)))) := Lib.hid (fun q => (below_drewN HB2.out q).setCell (Nat.le_refl _) _)
        clear hres hv hsu hr cg
        go_wp2
        all_goals (
          go_roundg (n - (k + 1))
          case measure => omega
          case rel => exact ⟨k + 1, by go_num, by omega, Nat.le_refl _, Lib.hid (HRs.out _), Lib.hid (HBs.out _)⟩)
      · have hgd : decide ((n : Int) ≤ (e : Int)) = true := decide_eq_true (by omega)
        obtain ⟨d, hd⟩ : ∃ d, e - n = d := ⟨_, rfl⟩
        have hdi : (e : Int) - (n : Int) = (d : Int) := by omega
        have hdl : d < n := by omega
        have cg := (RowB.cellF HR2.out hdl)
        have cg2 : ∀ q, (wr.drewN q).cell? ⟨g, d, none⟩ = some (.int .u32 (rfRow xa xb x n i k d : Nat)) := fun _ => cg
        have fg : ∀ q, (wr.drewN q).frozen? ⟨g, d, none⟩ = false := fun _ => Blk.free HR2.out d
        have hrl := rfRow_lt (x := xa) (y := xb) (n := n) (i := i) (k := k) (t := d) hx
        have hres := HHI.out (by omega)
        rw [hd] at hres
        obtain ⟨r, hr⟩ : ∃ r, rfRow xa xb x n i k d = r := ⟨_, rfl⟩
        rw [hr] at hrl hres cg
        simp only [hr] at cg2
        obtain ⟨c2, hc2⟩ : ∃ c2, x - c = c2 := ⟨_, rfl⟩
        rw [hc2] at hres
        have hc2i : (x : Int) - (c : Int) = (c2 : Int) := by omega
        obtain ⟨c3, hc3⟩ : ∃ c3, c2 % x = c3 := ⟨_, rfl⟩
        rw [hc3] at hres
        have hc3b : c3 < x := by rw [← hc3]; exact Nat.mod_lt _ (by omega)
        have hc3i : (c2 : Int) % (x : Int) = (c3 : Int) := by rw [← hc3]; simp
        have hc3m : (c2 : Int).tmod (x : Int) = (c3 : Int) := by rw [Int.tmod_eq_emod_of_nonneg (by omega)]; exact hc3i
        obtain ⟨su, hsu⟩ : ∃ su, r + c3 = su := ⟨_, rfl⟩
        rw [hsu] at hres
        have hsi : (r : Int) + (c3 : Int) = (su : Int) := by omega
        obtain ⟨v, hv⟩ : ∃ v, su % x = v := ⟨_, rfl⟩
        rw [hv] at hres
        have hvb2 : v < x := by rw [← hv]; exact Nat.mod_lt _ (by omega)
        have hvi : (su : Int) % (x : Int) = (v : Int) := by rw [← hv]; simp
        have hvm : (su : Int).tmod (x : Int) = (v : Int) := by rw [Int.tmod_eq_emod_of_nonneg (by omega)]; exact hvi
        have hx0 : IntKind.u64.wrap (c2 : Int) = (c2 : Int) := IntWalk.u64_in _ (by omega)
        have hx0' : IntKind.u64.wrap (c3 : Int) = (c3 : Int) := IntWalk.u64_in _ (by omega)
        have hx1 : IntKind.u64.wrap (r : Int) = (r : Int) := IntWalk.u64_in _ (by omega)
        have hx2' : IntKind.u64.wrap (su : Int) = (su : Int) := IntWalk.u64_in _ (by omega)
        have hx3 : IntKind.u64.wrap (v : Int) = (v : Int) := IntWalk.u64_in _ (by omega)
        have hx4 : IntKind.u32.wrap (v : Int) = (v : Int) := IntWalk.u32_in _ (by omega)
        have e0 : (0 : Int) ≤ (d : Int) := Int.natCast_nonneg _
        have e1 : (d : Int) < (n : Int) := by omega
        have HRs : Hid (∀ q, RowB ((wr.drewN q).setCell ⟨g, d, none⟩ (.int .u32 (v : Int))) g ((List.range n).map (rfRow xa xb x n i (k + 1)))) := Lib.hid (fun q => RowB.congr (RowB.put (HR2.out : RowB (wr.drewN q) g _) hdl v) (fun t ht => by
          by_cases hte : t = d
          · rw [if_pos hte, hte]; exact hres
          · rw [if_neg hte]; exact (rfRow_other hil hkl ht (by rw [he, if_neg hel, hd]; exact hte)).symm))
        have HBs : Hid (∀ q, Below g w ((wr.drewN q).setCell ⟨g, d, none⟩ (.int .u32 (v : Int)))) := Lib.hid (fun q => (below_drewN HB2.out q).setCell (Nat.le_refl _) _)
        clear hres hv hsu hr hc2 hc3 hd cg
        go_wp2
        all_goals (
          go_roundg (n - (k + 1))
          case measure => omega
          case rel => exact ⟨k + 1, by go_num, by omega, Nat.le_refl _, Lib.hid (HRs.out _), Lib.hid (HBs.out _)⟩)
end Go.Proofs.YtcipjbckcnkfaaaGreat

namespace Go.Proofs.YtcipjbckcnkfaaaGreat
open Go.RowKit Go.Shelf
attribute [local go_sem ↓] Go.wp_at_zero Go.wp_at_succ

theorem enters_sub1 : ∀ args w, (callFunc 80 args).run Tryz.prog w = .ok (.enter 80 args) w := enters_of Tryz.func80 (by kernel_rfl) rfl

set_option maxHeartbeats 6400000 in
set_option maxRecDepth 100000 in
theorem sub1_walk (ba bb lv m n g i x : Nat) (sp : Bool) (A B : El) (aa ab : Option Addr) (cA cB : Nat) (w : World) (hg : RowB w g (List.replicate n 0)) (hn : n ≤ 32) (hi : i < m) (hx : 0 < x) (hx2 : x ≤ 2147483647)
    (hv : ∀ j, j < n → A.get i j < x ∧ B.get i j < x) (hW : ∃ w0, Below w0.heap.size w0 w ∧ TwoAt w0 ba bb lv m n sp A B aa ab cA cB ∧ w0.heap.size ≤ g) :
    Calls Tryz.prog 80 #[.int .i64 i, .int .u64 x, .slice (some ⟨g, 0, none⟩) n n, .pointer (some ⟨ba, 0, none⟩), .pointer (some ⟨bb, 0, none⟩)] w fun e w' => e = .returned (.tuple #[]) ∧ RowB w' g ((List.range n).map fun j => (A.get i j + x - B.get i j) % x) ∧ Turn w w' [g] := by
  obtain ⟨w0, hb0, hT0, hg0⟩ := hW
  have HR : Hid (∀ w', Turn w w' [g] → Below w0.heap.size w0 w') := Lib.hid (fun w' ht => hb0.trans (ht.belowN hb0.size (fun k hk => by simp at hk; omega)))
  have HT0 := Lib.hid hT0
  obtain ⟨f, hf⟩ : ∃ f : Nat → Nat, (fun j => (A.get i j + x - B.get i j) % x) = f := ⟨_, rfl⟩
  have HF : Hid (∀ j, f j = (A.get i j + x - B.get i j) % x) := Lib.hid (fun j => by rw [← hf])
  rw [hf]
  rw [← rowAt_zero n f] at hg
  have HG := Lib.hid hg
  have HV := Lib.hid hv
  clear hg hb0 hT0 hf hv hg0
  go_enter Tryz.func80, Tryz.ntmps80
  go_wp2
  go_loopg [11] n (fun fu v11 wr => ∃ j : Nat, v11 = .int .i64 j ∧ j ≤ n ∧ n - j ≤ fu ∧ Hid (RowB wr g (rowAt n f j)) ∧ Hid (Turn w wr [g]))
  case atStart => exact ⟨0, rfl, by omega, by omega, HG, Lib.hid (Turn.refl _ _)⟩
  case round =>
    obtain ⟨j, rfl, hj, hfu, HRo, HTu⟩ := hrel
    by_cases hjl : j < n
    case neg =>
      obtain rfl : j = n := by omega
      go_wp2
      refine bodyPost_end (results_none rfl _ _ _) rfl ?_
      exact ⟨rfl, by have := HRo.out; rw [rowAt_full] at this; exact this, HTu.out⟩
    obtain ⟨b1, o1, b2, o2, b3, o3, r3, b4, o4, r4, rfl, rfl, t1, t2, t3, t4, t5, t6⟩ := HT0.out.read hi hjl
    have hv := HV.out j hjl
    have hfj := HF.out j
    obtain ⟨xa, hxa⟩ : ∃ xa, A.get i j = xa := ⟨_, rfl⟩
    obtain ⟨xb, hxb⟩ : ∃ xb, B.get i j = xb := ⟨_, rfl⟩
    rw [hxa] at t5 hv hfj
    rw [hxb] at t6 hv hfj
    have HSK : Hid (∀ w', Turn w w' [g] → w'.cell? ⟨ba, 2, none⟩ = some (.slice (some ⟨b1, o1, none⟩) m cA) ∧ w'.cell? ⟨bb, 2, none⟩ = some (.slice (some ⟨b2, o2, none⟩) m cB) ∧ w'.cell? ⟨b1, o1 + i, none⟩ = some (.slice (some ⟨b3, o3, none⟩) n r3) ∧ w'.cell? ⟨b2, o2 + i, none⟩ = some (.slice (some ⟨b4, o4, none⟩) n r4) ∧
      w'.cell? ⟨b3, o3 + j, none⟩ = some (.int .u32 (xa : Int)) ∧ w'.cell? ⟨b4, o4 + j, none⟩ = some (.int .u32 (xb : Int))) := Lib.hid (fun w' ht => by
      have t : ∀ {a : Addr} {v : Value}, w0.cell? a = some v → w'.cell? a = some v := fun {a v} h => ((HR.out w' ht).cell (World.block_lt_of_cell? w0 _ h)).trans h
      exact ⟨t t1, t t2, t t3, t t4, t t5, t t6⟩)
    obtain ⟨su, hsu⟩ : ∃ su, xa + x - xb = su := ⟨_, rfl⟩
    rw [hsu] at hfj
    have hsub : su ≤ 4294967294 := by omega
    obtain ⟨s1, hs1⟩ : ∃ s1, xa + x = s1 := ⟨_, rfl⟩
    have hs1i : (xa : Int) + (x : Int) = (s1 : Int) := by omega
    have hw6 : IntKind.u64.wrap (s1 : Int) = (s1 : Int) := IntWalk.u64_in _ (by omega)
    have hw7 : IntKind.u64.wrap (x : Int) = (x : Int) := IntWalk.u64_in _ (by omega)
    obtain ⟨t, ht⟩ : ∃ t, su % x = t := ⟨_, rfl⟩
    have htb : t < x := by rw [← ht]; exact Nat.mod_lt _ (by omega)
    rw [ht] at hfj
    have hsi : (s1 : Int) - (xb : Int) = (su : Int) := by omega
    have hti : (su : Int) % (x : Int) = (t : Int) := by rw [← ht]; simp
    have htm : (su : Int).tmod (x : Int) = (t : Int) := by rw [Int.tmod_eq_emod_of_nonneg (by omega)]; exact hti
    have hw1 : IntKind.u64.wrap (xa : Int) = (xa : Int) := IntWalk.u64_in _ (by omega)
    have hw2 : IntKind.u64.wrap (xb : Int) = (xb : Int) := IntWalk.u64_in _ (by omega)
    have hw3 : IntKind.u64.wrap (su : Int) = (su : Int) := IntWalk.u64_in _ (by omega)
    have hw4 : IntKind.u64.wrap (t : Int) = (t : Int) := IntWalk.u64_in _ (by omega)
    have hw5 : IntKind.u32.wrap (t : Int) = (t : Int) := IntWalk.u32_in _ (by omega)
    have hxz : ¬ x = 0 := by omega
    have i0 : (0 : Int) ≤ (i : Int) := Int.natCast_nonneg _
    have i1 : (i : Int) < (m : Int) := by omega
    have j0 : (0 : Int) ≤ (j : Int) := Int.natCast_nonneg _
    have j1 : (j : Int) < (n : Int) := by omega
    have cg := HRo.out.cellAt hjl
    have fg : wr.frozen? ⟨g, j, none⟩ = false := Blk.free HRo.out j
    have HRs : Hid (RowB (wr.setCell ⟨g, j, none⟩ (.int .u32 (t : Int))) g (rowAt n f (j + 1))) := Lib.hid (by rw [← hfj]; exact HRo.out.step hjl)
    have HTs : Hid (Turn w (wr.setCell ⟨g, j, none⟩ (.int .u32 (t : Int))) [g]) := Lib.hid (HTu.out.setCell (p := ⟨g, j, none⟩) (.inl (by simp)) _)
    clear t1 t2 t3 t4 t5 t6
    go_wp2
    go_region_held3 (fun w' => w'.cell? ⟨ba, 2, none⟩ = some (.slice (some ⟨b1, o1, none⟩) m cA) ∧ w'.cell? ⟨bb, 2, none⟩ = some (.slice (some ⟨b2, o2, none⟩) m cB) ∧ w'.cell? ⟨b1, o1 + i, none⟩ = some (.slice (some ⟨b3, o3, none⟩) n r3) ∧ w'.cell? ⟨b2, o2 + i, none⟩ = some (.slice (some ⟨b4, o4, none⟩) n r4) ∧
      w'.cell? ⟨b3, o3 + j, none⟩ = some (.int .u32 (xa : Int)) ∧ w'.cell? ⟨b4, o4 + j, none⟩ = some (.int .u32 (xb : Int)))
      (first | exact HSK.out _ HTu.out.drew | exact HSK.out _ HTs.out.drew | exact HSK.out _ HTs.out) (fail)
    all_goals (
      go_wp2
      go_roundg (n - (j + 1))
      case measure => omega
      case rel => exact ⟨j + 1, by go_num, by omega, Nat.le_refl _, HRs, Lib.hid HTs.out.drew⟩)
end Go.Proofs.YtcipjbckcnkfaaaGreat

namespace Go.Proofs.YtcipjbckcnkfaaaGreat
open Go.RowKit Go.Shelf

theorem fills_add {w : World} {ba bb lv m n : Nat} {sp : Bool} {A B : El} {aa ab : Option Addr} {cA cB : Nat} (hT : TwoAt w ba bb lv m n sp A B aa ab cA cB) (hn : n ≤ 32) {qf : Nat → Nat} (hq : ∀ i, i < m → 0 < qf i ∧ qf i ≤ 2147483647)
    (hv : ∀ i, i < m → ∀ j, j < n → A.get i j < qf i ∧ B.get i j < qf i) : Fills w 73 #[.pointer (some ⟨ba, 0, none⟩), .pointer (some ⟨bb, 0, none⟩)] m n qf (fun i j => (A.get i j + B.get i j) % qf i) :=
  fun i g wr hi hb hg hr => add1_walk ba bb lv m n g i (qf i) sp A B aa ab cA cB wr hr hn hi (hq i hi).1 (hq i hi).2 (hv i hi) ⟨w, hb, hT, hg⟩
theorem fills_sub {w : World} {ba bb lv m n : Nat} {sp : Bool} {A B : El} {aa ab : Option Addr} {cA cB : Nat} (hT : TwoAt w ba bb lv m n sp A B aa ab cA cB) (hn : n ≤ 32) {qf : Nat → Nat} (hq : ∀ i, i < m → 0 < qf i ∧ qf i ≤ 2147483647)
    (hv : ∀ i, i < m → ∀ j, j < n → A.get i j < qf i ∧ B.get i j < qf i) : Fills w 80 #[.pointer (some ⟨ba, 0, none⟩), .pointer (some ⟨bb, 0, none⟩)] m n qf (fun i j => (A.get i j + qf i - B.get i j) % qf i) :=
  fun i g wr hi hb hg hr => sub1_walk ba bb lv m n g i (qf i) sp A B aa ab cA cB wr hr hn hi (hq i hi).1 (hq i hi).2 (hv i hi) ⟨w, hb, hT, hg⟩

set_option maxHeartbeats 1600000 in
set_option maxRecDepth 100000 in
theorem indexw_walk (ao : Option Addr) (cap : Nat) (l : List Nat) (x : Nat) (w : World) (h : Rd w ao l) (h2 : l.length ≤ 1000000) :
    Calls Tryz.prog 134 #[.slice ao l.length cap, .int .u32 x] w fun e w' => ∃ r : Int, e = .returned (.int .i64 r) ∧ decide (0 ≤ r) = l.any (fun y => x == y) ∧ w = w' := by
  obtain ⟨n, hn⟩ : ∃ n, l.length = n := ⟨_, rfl⟩
  rw [hn] at h2 ⊢
  have HN := Lib.hid hn
  have HR := Lib.hid h
  clear h hn
  go_enter Tryz.func134, Tryz.ntmps134
  go_wp2
  go_loopg [8] n (fun k vi wr => ∃ i : Nat, vi = .int .i64 i ∧ i ≤ n ∧ n - i ≤ k ∧ Hid (∀ j, j < i → (x == l.getD j 0) = false) ∧ w = wr)
  case atStart => exact ⟨0, rfl, by omega, by omega, Lib.hid (fun j hj => by omega), rfl⟩
  case round =>
    obtain ⟨i, rfl, hi, hk, HP, rfl⟩ := hrel
    by_cases hlt : i < n
    · obtain ⟨b, off, rfl, hc⟩ := HR.out i (by rw [HN.out]; exact hlt)
      have c1 := hc i (by rw [HN.out]; exact hlt)
      obtain ⟨y, hy⟩ : ∃ y, l.getD i 0 = y := ⟨_, rfl⟩
      rw [hy] at c1
      have HX := Lib.hid hy
      clear hy hc
      by_cases hxy : x = y
      · subst hxy
        have g : ((x : Int) == (x : Int)) = true := by simp
        go_wp2
        go_ret
        refine ⟨i, rfl, ?_, rfl⟩
        rw [any_some (j := i) (by rw [HN.out]; exact hlt) (by rw [HX.out]; simp)]
        simp
      · have g : ((x : Int) == (y : Int)) = false := by simp; omega
        go_wp2
        go_roundg (n - (i + 1))
        case measure => omega
        case rel =>
          refine ⟨i + 1, by go_num, by omega, Nat.le_refl _, Lib.hid fun j hj => ?_, rfl⟩
          rcases Nat.lt_or_eq_of_le (Nat.le_of_lt_succ hj) with h | h
          · exact HP.out j h
          · subst h; rw [HX.out]; simpa using hxy
    · obtain rfl : i = n := by omega
      go_wp2
      go_ret
      refine ⟨-1, rfl, ?_, rfl⟩
      rw [any_none (fun j hj => HP.out j (by rw [← HN.out]; exact hj))]
      rfl
set_option maxHeartbeats 800000 in
theorem containsw_walk (ao : Option Addr) (cap : Nat) (l : List Nat) (x : Nat) (w : World) (h : Rd w ao l) (h2 : l.length ≤ 1000000) :
    Calls Tryz.prog 125 #[.slice ao l.length cap, .int .u32 x] w fun e w' => e = .returned (.bool (l.any fun y => x == y)) ∧ w = w' := by
  have HI := Lib.hid (indexw_walk ao cap l x w h h2)
  clear h
  go_enter Tryz.func125, Tryz.ntmps125
  go_wp2_with fail
  (with_reducible refine Calls.mono HI.out ?_)
  rintro e w1 ⟨r, rfl, hd, rfl⟩
  have HD := Lib.hid hd
  clear hd
  go_wp2
  go_ret
  exact ⟨by rw [← HD.out]; rfl, rfl⟩
set_option maxHeartbeats 800000 in
/-- A modulus that good parameters hold. -/
theorem rgmodulus_walk (x : Nat) (w : World) (h1 : 3 ≤ x) (h2 : x ≤ 2147483647) (h3 : x % 2 = 1) :
    Calls Tryz.prog 124 #[.int .u32 x] w fun e w' => e = .returned (.bool true) ∧ w = w' := by
  have g1 : decide ((3 : Int) ≤ (x : Int)) = true := decide_eq_true (by omega)
  have g2 : decide ((x : Int) ≤ 2147483647) = true := decide_eq_true (by omega)
  have hx3 : (x : Int) % 2 = 1 := by omega
  have hx4 : (x : Int).tmod 2 = 1 := by rw [Int.tmod_eq_emod_of_nonneg (by omega)]; exact hx3
  go_enter Tryz.func124, Tryz.ntmps124
  go_wp2
  go_ret
  exact ⟨rfl, rfl⟩
set_option maxHeartbeats 1600000 in
theorem rgplace_walk (pb : Nat) (p : Par) (ca : Option Addr) (cc : Nat) (level : Int) (sp : Bool) (w : World) (hP : Blk w pb 25 (p.cells ca cc)) (hg : Good p) :
    Calls Tryz.prog 95 #[.pointer (some ⟨pb, 0, none⟩), .int .i64 level, .bool sp] w fun e w' => e = .returned (.bool (tr (PlaceOk p level sp))) ∧ w = w' := by
  have hlen := (Good.len hg).2
  have hs := (Good.special hg).1
  have c3 : w.cell? ⟨pb, 3, none⟩ = some (.slice ca p.chain.length cc) := hP.cell 3
  have c4 : w.cell? ⟨pb, 4, none⟩ = some (.int .u32 (p.special : Int)) := hP.cell 4
  obtain ⟨s, hs'⟩ : ∃ s, p.special = s := ⟨_, rfl⟩
  have HS := Lib.hid hs'
  obtain ⟨l, hl⟩ : ∃ l, p.chain.length = l := ⟨_, rfl⟩
  have HL := Lib.hid hl
  rw [hs'] at hs c4
  rw [hl] at hlen c3
  clear hP hg hs' hl
  by_cases a : 1 ≤ level
  case neg =>
    rw [tr_neg (fun h => a h.1)]
    have g : decide (1 ≤ level) = false := decide_eq_false a
    go_enter Tryz.func95, Tryz.ntmps95
    go_wp2
    go_ret
    exact ⟨rfl, rfl⟩
  have g : decide (1 ≤ level) = true := decide_eq_true a
  by_cases b : level ≤ (l : Int)
  case neg =>
    rw [tr_neg (fun h => b (by have := h.2.1; rw [HL.out] at this; exact this))]
    have g2 : decide (level ≤ (l : Int)) = false := decide_eq_false b
    go_enter Tryz.func95, Tryz.ntmps95
    go_wp2
    go_ret
    exact ⟨rfl, rfl⟩
  have g2 : decide (level ≤ (l : Int)) = true := decide_eq_true b
  have hP : PlaceOk p level sp := ⟨a, by rw [HL.out]; exact b, fun _ => by rw [HS.out]; omega⟩
  rw [tr_pos hP]
  clear hP
  have g4 : ((s : Int) != 0) = true := by simp; omega
  cases sp
  all_goals (
    go_enter Tryz.func95, Tryz.ntmps95
    go_wp2
    go_ret
    exact ⟨rfl, rfl⟩)
end Go.Proofs.YtcipjbckcnkfaaaGreat

namespace Go.Proofs.YtcipjbckcnkfaaaGreat
open Go.RowKit Go.Shelf

set_option maxHeartbeats 6400000 in
set_option maxRecDepth 100000 in
theorem rgvalid_walk (pb : Nat) (p : Par) (ca : Option Addr) (cc : Nat) (w : World) (hP : Blk w pb 25 (p.cells ca cc)) (hin : ParIn w p ca cc) (hg : Good p) :
    Calls Tryz.prog 94 #[.pointer (some ⟨pb, 0, none⟩)] w fun e w' => e = .returned (.bool true) ∧ Turn w w' [] := by
  have h24 := Good.len hg
  have hroom := hin.room
  have hroom2 := hin.room2
  obtain ⟨hG1, hG2⟩ := good_all hg
  have hget : ∀ i, i < p.chain.length → (p.chain ++ [p.special]).getD i 0 = p.chain.getD i 0 := fun i h => by rw [List.getD_eq_getElem?_getD, List.getElem?_append_left h, ← List.getD_eq_getElem?_getD]
  have hlast : (p.chain ++ [p.special]).getD p.chain.length 0 = p.special := by simp [List.getD_eq_getElem?_getD]
  have hG3 : ∀ i, i < p.chain.length → 3 ≤ p.chain.getD i 0 ∧ p.chain.getD i 0 ≤ 2147483647 ∧ p.chain.getD i 0 % 2 = 1 := fun i h => by have := hG1 i (by simp; omega); rw [hget i h] at this; exact this
  have hS3 : 3 ≤ p.special ∧ p.special ≤ 2147483647 ∧ p.special % 2 = 1 := by have := hG1 p.chain.length (by simp); rw [hlast] at this; exact this
  have hany : ∀ i, i < p.chain.length → ((p.chain.take i).any fun y => p.chain.getD i 0 == y) = false := fun i h => any_none (fun j hj => by
    have hj' : j < i := by rw [List.length_take] at hj; omega
    have e : (p.chain.take i).getD j 0 = p.chain.getD j 0 := by simp [List.getD_eq_getElem?_getD, hj']
    rw [e]
    have := hG2 j i hj' (by simp; omega)
    rw [hget i h, hget j (by omega)] at this
    simp only [beq_eq_false_iff_ne]
    exact fun k => this k.symm)
  have hanyS : (p.chain.any fun y => p.special == y) = false := any_none (fun j hj => by
    have := hG2 j p.chain.length hj (by simp)
    rw [hlast, hget j hj] at this
    simp only [beq_eq_false_iff_ne]
    exact fun k => this k.symm)
  have hdim : p.n = 4 ∨ p.n = 8 ∨ p.n = 16 ∨ p.n = 32 := hg.1
  obtain ⟨b, off, rfl, _⟩ := hin.rd 0 (by omega)
  have HMS : Hid (∀ wr, Calls Tryz.prog 124 #[.int .u32 p.special] wr fun e w' => e = .returned (.bool true) ∧ wr = w') := Lib.hid (fun wr => rgmodulus_walk p.special wr hS3.1 hS3.2.1 hS3.2.2)
  have HCS : Hid (∀ wr, Turn w wr [] → Calls Tryz.prog 125 #[.slice (some ⟨b, off, none⟩) p.chain.length cc, .int .u32 p.special] wr fun e w' => e = .returned (.bool false) ∧ wr = w') := Lib.hid (fun wr ht => by
    have := containsw_walk (some ⟨b, off, none⟩) cc p.chain p.special wr (hin.rd.turn ht) (by omega)
    rw [hanyS] at this
    exact this)
  have HMI : Hid (∀ i, i < p.chain.length → ∀ wr, Calls Tryz.prog 124 #[.int .u32 ((p.chain.getD i 0 : Nat) : Int)] wr fun e w' => e = .returned (.bool true) ∧ wr = w') := Lib.hid (fun i h wr => rgmodulus_walk _ wr (hG3 i h).1 (hG3 i h).2.1 (hG3 i h).2.2)
  have HCI : Hid (∀ i, i < p.chain.length → ∀ wr, Turn w wr [] → Calls Tryz.prog 125 #[.slice (some ⟨b, off, none⟩) i cc, .int .u32 ((p.chain.getD i 0 : Nat) : Int)] wr fun e w' => e = .returned (.bool false) ∧ wr = w') := Lib.hid (fun i h wr ht => by
    have := containsw_walk (some ⟨b, off, none⟩) cc (p.chain.take i) (p.chain.getD i 0) wr ((hin.rd.turn ht).take i) (by rw [List.length_take]; omega)
    rw [hany i h, List.length_take, Nat.min_eq_left (by omega)] at this
    exact this)
  have HP := Lib.hid hP
  have HIN := Lib.hid hin
  obtain ⟨c0, c1, c2', c3, c4, c5, c6⟩ := par_cells hP
  obtain ⟨s, hs⟩ : ∃ s, p.special = s := ⟨_, rfl⟩
  obtain ⟨l, hl⟩ : ∃ l, p.chain.length = l := ⟨_, rfl⟩
  have HL := Lib.hid hl
  obtain ⟨n, hn⟩ : ∃ n, p.n = n := ⟨_, rfl⟩
  rw [hs] at HMS HCS c4 hS3
  rw [hl] at HCS HMI HCI h24 hroom c3
  rw [hn] at hdim c0
  have g4 : ((s : Int) != 0) = true := by simp; omega
  have g1 : decide ((l : Int) < 1) = false := decide_eq_false (by omega)
  have g2 : decide ((24 : Int) < (l : Int)) = false := decide_eq_false (by omega)
  clear hg hG1 hG2 hget hlast hG3 hany hanyS hs hl hn hP hin c1 c2' c5 c6
  rcases hdim with rfl | rfl | rfl | rfl
  all_goals (
    go_enter Tryz.func94, Tryz.ntmps94
    go_wp2
    go_quiet (first | (go_at_call 124; exact Calls.quiet_of_same ((HMS.out _).mono fun e w' ⟨h1, h2⟩ => ⟨h1, h2.symm⟩)) | (go_at_call 125; exact Calls.quiet_of_same ((HCS.out _ ((Turn.refl w []).drewN _)).mono fun e w' ⟨h1, h2⟩ => ⟨h1, h2.symm⟩)))
    go_wp2
    go_loopg [59] l (fun k v wr => ∃ i : Nat, v = .int .i64 i ∧ i ≤ l ∧ l - i ≤ k ∧ Hid (Turn w wr []))
    case atStart => exact ⟨0, rfl, by omega, by omega, Lib.hid ((Turn.refl w []).drewN _)⟩
    case round =>
      obtain ⟨i, rfl, hi, hk, HT⟩ := hrel
      by_cases hlt : i < l
      case neg =>
        obtain rfl : i = l := by omega
        go_wp2
        go_ret
        exact ⟨rfl, HT.out⟩
      have d3 : wr.cell? ⟨pb, 3, none⟩ = some (.slice (some ⟨b, off, none⟩) l cc) := HT.out.cell c3 (by simp)
      obtain ⟨b', o', e', hc⟩ := (HIN.out.rd.turn HT.out) i (by rw [HL.out]; exact hlt)
      cases e'
      have ci := hc i (by rw [HL.out]; exact hlt)
      have hm := HMI.out i hlt
      have hcn := HCI.out i hlt
      obtain ⟨x, hx⟩ : ∃ x, p.chain.getD i 0 = x := ⟨_, rfl⟩
      rw [hx] at ci hm hcn
      have HM := Lib.hid hm
      have HC := Lib.hid hcn
      have i0 : (0 : Int) ≤ (i : Int) := Int.natCast_nonneg _
      have i1 : (i : Int) ≤ (cc : Int) := by omega
      clear hx hm hcn hc
      go_wp2_with (first | (go_at_call 124; refine (HM.out _).mono ?_; rintro e w' ⟨rfl, rfl⟩) | (go_at_call 125; refine (HC.out _ HT.out).mono ?_; rintro e w' ⟨rfl, rfl⟩))
      go_roundg (l - (i + 1))
      case measure => omega
      case rel => exact ⟨i + 1, by go_num, by omega, Nat.le_refl _, HT⟩)
end Go.Proofs.YtcipjbckcnkfaaaGreat
