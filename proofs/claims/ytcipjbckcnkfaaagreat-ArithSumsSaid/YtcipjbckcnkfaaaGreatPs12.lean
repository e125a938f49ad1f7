/- The function that fills the rows of a product.
slices.ContainsFunc over a function that leaves the world; the closure of the program's Check.
A region of reads and quiet calls inside a round: one walk of the lexical order serves. No walk.
The program's test of an element. -/
import Derived.Test.YtcipjbckcnkfaaaGreatPs11
import Derived.Test.YtcipjbckcnkfaaaGreatPs03
import Derived.Test.YtcipjbckcnkfaaaGreatPs01
import Derived.Test.YtcipjbckcnkfaaaGreatPs07
import Derived.Sort.QuietIn
set_option linter.unusedSimpArgs false
set_option linter.unusedVariables false
namespace Go.Proofs.YtcipjbckcnkfaaaGreat
open Go.RowKit Go.Shelf
attribute [local go_sem ↓] Go.wp_at_zero Go.wp_at_succ

/-- What is read of two captured elements for a row. -/
theorem TwoAt.rows {w : World} {ba bb lv m n : Nat} {sp : Bool} {A B : El} {aa ab : Option Addr} {cA cB : Nat} (h : TwoAt w ba bb lv m n sp A B aa ab cA cB) {i : Nat} (hi : i < m) (hn : 0 < n) :
    ∃ b1 o1 b2 o2 b3 o3 r3 b4 o4 r4, aa = some ⟨b1, o1, none⟩ ∧ ab = some ⟨b2, o2, none⟩ ∧ w.cell? ⟨ba, 2, none⟩ = some (.slice aa m cA) ∧ w.cell? ⟨bb, 2, none⟩ = some (.slice ab m cB) ∧ w.cell? ⟨b1, o1 + i, none⟩ = some (.slice (some ⟨b3, o3, none⟩) n r3) ∧ w.cell? ⟨b2, o2 + i, none⟩ = some (.slice (some ⟨b4, o4, none⟩) n r4) ∧
      (∀ j, j < n → w.cell? ⟨b3, o3 + j, none⟩ = some (.int .u32 (A.get i j : Int))) ∧ (∀ j, j < n → w.cell? ⟨b4, o4 + j, none⟩ = some (.int .u32 (B.get i j : Int))) := by
  obtain ⟨b1, o1, rfl, h1⟩ := h.ra i (by rw [h.la]; exact hi)
  obtain ⟨r1, c1, d1, e1, _⟩ := h1 i (by rw [h.la]; exact hi)
  obtain ⟨b2, o2, rfl, h2⟩ := h.rb i (by rw [h.lb]; exact hi)
  obtain ⟨r2, c2, d2, e2, _⟩ := h2 i (by rw [h.lb]; exact hi)
  have n1 : (A.rows.getD i []).length = n := (h.na i hi).1
  have n2 : (B.rows.getD i []).length = n := (h.na i hi).2
  obtain ⟨b3, o3, rfl, h3⟩ := e1 0 (by rw [n1]; exact hn)
  obtain ⟨b4, o4, rfl, h4⟩ := e2 0 (by rw [n2]; exact hn)
  rw [n1] at d1
  rw [n2] at d2
  exact ⟨b1, o1, b2, o2, b3, o3, c1, b4, o4, c2, rfl, rfl, h.a.cell 2, h.b.cell 2, d1, d2, fun j hj => h3 j (by rw [n1]; exact hj), fun j hj => h4 j (by rw [n2]; exact hj)⟩
theorem enters_mul1 : ∀ args w, (callFunc 72 args).run Tryz.prog w = .ok (.enter 72 args) w := enters_of Tryz.func72 (by kernel_rfl) rfl

set_option maxHeartbeats 6400000 in
set_option maxRecDepth 100000 in
theorem mul1_walk (ba bb lv m n g i x : Nat) (sp : Bool) (A B : El) (aa ab : Option Addr) (cA cB : Nat) (w : World) (hg : RowB w g (List.replicate n 0)) (hn : n ≤ 32) (hn0 : 0 < n) (hi : i < m) (hx : 0 < x) (hx2 : x ≤ 2147483647)
    (hv : ∀ j, j < n → A.get i j < x ∧ B.get i j < x) (hW : ∃ w0, Below w0.heap.size w0 w ∧ TwoAt w0 ba bb lv m n sp A B aa ab cA cB ∧ w0.heap.size ≤ g) :
    Calls Tryz.prog 72 #[.int .i64 i, .int .u64 x, .slice (some ⟨g, 0, none⟩) n n, .pointer (some ⟨ba, 0, none⟩), .pointer (some ⟨bb, 0, none⟩)] w fun e w' => e = .returned (.tuple #[]) ∧ RowB w' g ((List.range n).map fun k => nc (A.get i) (B.get i) x n k) ∧ Turn w w' [g] := by
  obtain ⟨w0, hb0, hT0, hg0⟩ := hW
  have HR : Hid (∀ w', Turn w w' [g] → Below w0.heap.size w0 w') := Lib.hid (fun w' ht => hb0.trans (ht.belowN hb0.size (fun k hk => by simp at hk; omega)))
  obtain ⟨b1, o1, b2, o2, b3, o3, r3, b4, o4, r4, rfl, rfl, t1, t2, t3, t4, t5, t6⟩ := hT0.rows hi hn0
  have t : ∀ {w' : World} (_ : Turn w w' [g]) {a : Addr} {v : Value}, w0.cell? a = some v → w'.cell? a = some v := fun {w'} ht {a v} h => ((HR.out w' ht).cell (World.block_lt_of_cell? w0 _ h)).trans h
  have u1 := t (Turn.refl _ _) t1
  have u2 := t (Turn.refl _ _) t2
  have u3 := t (Turn.refl _ _) t3
  have u4 := t (Turn.refl _ _) t4
  have H5 : Hid (∀ w', Turn w w' [g] → ∀ j, j < n → w'.cell? ⟨b3, o3 + j, none⟩ = some (.int .u32 (A.get i j : Int))) := Lib.hid (fun w' ht j hj => t ht (t5 j hj))
  have H6 : Hid (∀ w', Turn w w' [g] → ∀ j, j < n → w'.cell? ⟨b4, o4 + j, none⟩ = some (.int .u32 (B.get i j : Int))) := Lib.hid (fun w' ht j hj => t ht (t6 j hj))
  obtain ⟨xa, hxa⟩ : ∃ xa, A.get i = xa := ⟨_, rfl⟩
  obtain ⟨xb, hxb⟩ : ∃ xb, B.get i = xb := ⟨_, rfl⟩
  rw [hxa] at H5 hv ⊢
  rw [hxb] at H6 hv ⊢
  obtain ⟨f, hf⟩ : ∃ f : Nat → Nat, (fun k => nc xa xb x n k) = f := ⟨_, rfl⟩
  have HF : Hid (∀ k, (mpl xa xb x k n + x - mmi xa xb x n k n) % x = f k) := Lib.hid (fun k => by rw [← hf]; exact prog_nc hx)
  rw [hf]
  rw [← rowAt_zero n f] at hg
  have HG := Lib.hid hg
  have HV := Lib.hid hv
  have i0 : (0 : Int) ≤ (i : Int) := Int.natCast_nonneg _
  have i1 : (i : Int) < (m : Int) := by omega
  have hxz : ¬ x = 0 := by omega
  clear hg hb0 hT0 hf hv hg0 t t1 t2 t3 t4 t5 t6 hxa hxb
  go_enter Tryz.func72, Tryz.ntmps72
  go_wp2
  go_quiet (fail)
  clear u1 u2 u3 u4 i0 i1
  go_wp2
  go_loopg [27] n (fun fu v wr => ∃ k : Nat, v = .int .i64 k ∧ k ≤ n ∧ n - k ≤ fu ∧ Hid (RowB wr g (rowAt n f k)) ∧ Hid (Turn w wr [g]))
  case atStart => exact ⟨0, rfl, by omega, by omega, HG, Lib.hid ((Turn.refl _ _).drewN _)⟩
  case round =>
    obtain ⟨k, rfl, hk, hfu, HRo, HTu⟩ := hrel
    by_cases hkl : k < n
    case neg =>
      obtain rfl : k = n := by omega
      go_wp2
      refine bodyPost_end (results_none rfl _ _ _) rfl ?_
      exact ⟨rfl, by have := HRo.out; rw [rowAt_full] at this; exact this, HTu.out⟩
    obtain ⟨wo, rfl⟩ : ∃ wo, wo = wr := ⟨_, rfl⟩
    go_wp2
    go_loopg [11, 12, 32] n (fun fu v11 v12 v32 wr => ∃ j : Nat, v11 = .int .u64 (mpl xa xb x k j : Nat) ∧ v12 = .int .u64 (mmi xa xb x n k j : Nat) ∧ v32 = .int .i64 j ∧ j ≤ n ∧ n - j ≤ fu ∧ wo = wr)
    case atStart => exact ⟨0, rfl, rfl, rfl, by omega, by omega, rfl⟩
    case round =>
      obtain ⟨j, rfl, rfl, rfl, hj, hfu2, rfl⟩ := hrel
      by_cases hjl : j < n
      case neg =>
        obtain rfl : j = n := by omega
        have hp := mpl_lt (x := xa) (y := xb) (k := k) hx j
        have hm := mmi_lt (x := xa) (y := xb) (n := j) (k := k) hx j
        have hfk := HF.out k
        obtain ⟨pl, hpl⟩ : ∃ pl, mpl xa xb x k j = pl := ⟨_, rfl⟩
        obtain ⟨mi, hmi⟩ : ∃ mi, mmi xa xb x j k j = mi := ⟨_, rfl⟩
        rw [hpl] at hp hfk ⊢
        rw [hmi] at hm hfk ⊢
        obtain ⟨su, hsu⟩ : ∃ su, pl + x - mi = su := ⟨_, rfl⟩
        rw [hsu] at hfk
        have hsub : su ≤ 4294967294 := by omega
        obtain ⟨s1, hs1⟩ : ∃ s1, pl + x = s1 := ⟨_, rfl⟩
        have hs1i : (pl : Int) + (x : Int) = (s1 : Int) := by omega
        have hs2i : (s1 : Int) - (mi : Int) = (su : Int) := by omega
        have hw6 : IntKind.u64.wrap (s1 : Int) = (s1 : Int) := IntWalk.u64_in _ (by omega)
        have hw3 : IntKind.u64.wrap (su : Int) = (su : Int) := IntWalk.u64_in _ (by omega)
        obtain ⟨t, ht⟩ : ∃ t, su % x = t := ⟨_, rfl⟩
        have htb : t < x := by rw [← ht]; exact Nat.mod_lt _ (by omega)
        rw [ht] at hfk
        have hti : (su : Int) % (x : Int) = (t : Int) := by rw [← ht]; simp
        have htm : (su : Int).tmod (x : Int) = (t : Int) := by rw [Int.tmod_eq_emod_of_nonneg (by omega)]; exact hti
        have hw4 : IntKind.u64.wrap (t : Int) = (t : Int) := IntWalk.u64_in _ (by omega)
        have hw5 : IntKind.u32.wrap (t : Int) = (t : Int) := IntWalk.u32_in _ (by omega)
        have cg := HRo.out.cellAt hkl
        have fg : wo.frozen? ⟨g, k, none⟩ = false := Blk.free HRo.out k
        have j0 : (0 : Int) ≤ (k : Int) := Int.natCast_nonneg _
        have j1 : (k : Int) < (j : Int) := by omega
        have HRs : Hid (RowB (wo.setCell ⟨g, k, none⟩ (.int .u32 (t : Int))) g (rowAt j f (k + 1))) := Lib.hid (by rw [hfk]; exact RowB.step HRo.out hkl)
        have HTs : Hid (Turn w (wo.setCell ⟨g, k, none⟩ (.int .u32 (t : Int))) [g]) := Lib.hid (HTu.out.setCell (p := ⟨g, k, none⟩) (.inl (by simp)) _)
        clear hpl hmi hsu hs1 ht hfk
        go_wp2
        all_goals (
          go_roundg (j - (k + 1))
          case measure => omega
          case rel => exact ⟨k + 1, by go_num, by omega, Nat.le_refl _, HRs, HTs⟩)
      have c5 := H5.out wo HTu.out j hjl
      have hxa := (HV.out j hjl).1
      obtain ⟨a, ha⟩ : ∃ a, xa j = a := ⟨_, rfl⟩
      rw [ha] at c5 hxa
      have hw1 : IntKind.u64.wrap (a : Int) = (a : Int) := IntWalk.u64_in _ (by omega)
      have j0 : (0 : Int) ≤ (j : Int) := Int.natCast_nonneg _
      have j1 : (j : Int) < (n : Int) := by omega
      by_cases hle : j ≤ k
      · have hgd : decide ((j : Int) ≤ (k : Int)) = true := decide_eq_true (by omega)
        obtain ⟨d, hd⟩ : ∃ d, k - j = d := ⟨_, rfl⟩
        have hdi : (k : Int) - (j : Int) = (d : Int) := by omega
        have hdn : d < n := by omega
        have c6 := H6.out wo HTu.out d hdn
        have hxb := (HV.out d hdn).2
        have hp := mpl_lt (x := xa) (y := xb) (k := k) hx j
        have hps : mpl xa xb x k (j + 1) = (mpl xa xb x k j + xa j * xb d) % x := by conv => lhs; unfold mpl; rw [if_pos hle, hd]
        have hms : mmi xa xb x n k (j + 1) = mmi xa xb x n k j := by conv => lhs; unfold mmi; rw [if_pos hle]
        obtain ⟨b, hb⟩ : ∃ b, xb d = b := ⟨_, rfl⟩
        rw [hb] at c6 hxb hps
        rw [ha] at hps
        obtain ⟨pl, hpl⟩ : ∃ pl, mpl xa xb x k j = pl := ⟨_, rfl⟩
        rw [hpl] at hp hps ⊢
        have hzb : a * b ≤ 2147483647 * 2147483647 := Nat.mul_le_mul (by omega) (by omega)
        obtain ⟨z, hz⟩ : ∃ z, a * b = z := ⟨_, rfl⟩
        rw [hz] at hzb hps
        have hzi : (a : Int) * (b : Int) = (z : Int) := by rw [← hz]; simp
        obtain ⟨su, hsu⟩ : ∃ su, pl + z = su := ⟨_, rfl⟩
        rw [hsu] at hps
        have hsui : (pl : Int) + (z : Int) = (su : Int) := by omega
        have hsb : su ≤ 2147483647 * 2147483648 := by omega
        obtain ⟨t, ht⟩ : ∃ t, su % x = t := ⟨_, rfl⟩
        rw [ht] at hps
        have htb : t < x := by rw [← ht]; exact Nat.mod_lt _ (by omega)
        have hti : (su : Int) % (x : Int) = (t : Int) := by rw [← ht]; simp
        have htm : (su : Int).tmod (x : Int) = (t : Int) := by rw [Int.tmod_eq_emod_of_nonneg (by omega)]; exact hti
        have hw2 : IntKind.u64.wrap (b : Int) = (b : Int) := IntWalk.u64_in _ (by omega)
        have hw3 : IntKind.u64.wrap (z : Int) = (z : Int) := IntWalk.u64_in _ (by omega)
        have hw4 : IntKind.u64.wrap (su : Int) = (su : Int) := IntWalk.u64_in _ (by omega)
        have hw5 : IntKind.u64.wrap (t : Int) = (t : Int) := IntWalk.u64_in _ (by omega)
        have d0 : (0 : Int) ≤ (d : Int) := Int.natCast_nonneg _
        have d1 : (d : Int) < (n : Int) := by omega
        have HPS := Lib.hid hps
        have HMS := Lib.hid hms
        clear hps hms ha hb hpl hz hsu ht hd
        go_wp2
        go_roundg (n - (j + 1))
        case measure => omega
        case rel => exact ⟨j + 1, by rw [HPS.out], by rw [HMS.out], by go_num, by omega, Nat.le_refl _, rfl⟩
      · have hgd : decide ((j : Int) ≤ (k : Int)) = false := decide_eq_false (by omega)
        obtain ⟨d, hd⟩ : ∃ d, k + n - j = d := ⟨_, rfl⟩
        obtain ⟨e, he⟩ : ∃ e, k + n = e := ⟨_, rfl⟩
        have hei : (k : Int) + (n : Int) = (e : Int) := by omega
        have hdi : (e : Int) - (j : Int) = (d : Int) := by omega
        have hdn : d < n := by omega
        have c6 := H6.out wo HTu.out d hdn
        have hxb := (HV.out d hdn).2
        have hp := mmi_lt (x := xa) (y := xb) (n := n) (k := k) hx j
        have hms : mmi xa xb x n k (j + 1) = (mmi xa xb x n k j + xa j * xb d) % x := by conv => lhs; unfold mmi; rw [if_neg hle, hd]
        have hps : mpl xa xb x k (j + 1) = mpl xa xb x k j := by conv => lhs; unfold mpl; rw [if_neg hle]
        obtain ⟨b, hb⟩ : ∃ b, xb d = b := ⟨_, rfl⟩
        rw [hb] at c6 hxb hms
        rw [ha] at hms
        obtain ⟨pl, hpl⟩ : ∃ pl, mmi xa xb x n k j = pl := ⟨_, rfl⟩
        rw [hpl] at hp hms ⊢
        have hzb : a * b ≤ 2147483647 * 2147483647 := Nat.mul_le_mul (by omega) (by omega)
        obtain ⟨z, hz⟩ : ∃ z, a * b = z := ⟨_, rfl⟩
        rw [hz] at hzb hms
        have hzi : (a : Int) * (b : Int) = (z : Int) := by rw [← hz]; simp
        obtain ⟨su, hsu⟩ : ∃ su, pl + z = su := ⟨_, rfl⟩
        rw [hsu] at hms
        have hsui : (pl : Int) + (z : Int) = (su : Int) := by omega
        have hsb : su ≤ 2147483647 * 2147483648 := by omega
        obtain ⟨t, ht⟩ : ∃ t, su % x = t := ⟨_, rfl⟩
        rw [ht] at hms
        have htb : t < x := by rw [← ht]; exact Nat.mod_lt _ (by omega)
        have hti : (su : Int) % (x : Int) = (t : Int) := by rw [← ht]; simp
        have htm : (su : Int).tmod (x : Int) = (t : Int) := by rw [Int.tmod_eq_emod_of_nonneg (by omega)]; exact hti
        have hw2 : IntKind.u64.wrap (b : Int) = (b : Int) := IntWalk.u64_in _ (by omega)
        have hw3 : IntKind.u64.wrap (z : Int) = (z : Int) := IntWalk.u64_in _ (by omega)
        have hw4 : IntKind.u64.wrap (su : Int) = (su : Int) := IntWalk.u64_in _ (by omega)
        have hw5 : IntKind.u64.wrap (t : Int) = (t : Int) := IntWalk.u64_in _ (by omega)
        have d0 : (0 : Int) ≤ (d : Int) := Int.natCast_nonneg _
        have d1 : (d : Int) < (n : Int) := by omega
        have HPS := Lib.hid hps
        have HMS := Lib.hid hms
        clear hps hms ha hb hpl hz hsu ht hd he
        go_wp2
        go_roundg (n - (j + 1))
        case measure => omega
        case rel => exact ⟨j + 1, by rw [HPS.out], by rw [HMS.out], by go_num, by omega, Nat.le_refl _, rfl⟩
end Go.Proofs.YtcipjbckcnkfaaaGreat

namespace Go.Proofs.YtcipjbckcnkfaaaGreat
open Go.RowKit Go.Shelf

/-- The function answers p and leaves the world. -/
def AsksS (w : World) (g : FuncId) (caps : Array Value) (l : List Nat) (p : Nat → Bool) : Prop :=
  ∀ k, k < l.length → Calls Tryz.prog g (#[.int .u32 ((l.getD k 0 : Nat) : Int)] ++ caps) w fun e w' => e = .returned (.bool (p (l.getD k 0))) ∧ w = w'

set_option maxHeartbeats 1600000 in
set_option maxRecDepth 100000 in
theorem indexF_same (ao : Option Addr) (cap : Nat) (l : List Nat) (w : World) (g : FuncId) (caps : Array Value) (p : Nat → Bool) (h : Rd w ao l) (h2 : l.length ≤ 1000000)
    (hg : ∀ args w, (callFunc g args).run Tryz.prog w = .ok (.enter g args) w) (hA : AsksS w g caps l p) :
    Calls Tryz.prog 130 #[.slice ao l.length cap, .func (.func g) #[] caps] w fun e w' => ∃ r : Int, e = .returned (.int .i64 r) ∧ decide (0 ≤ r) = l.any p ∧ w = w' := by
  obtain ⟨n, hn⟩ : ∃ n, l.length = n := ⟨_, rfl⟩
  rw [hn] at h2 ⊢
  have HN := Lib.hid hn
  have HR := Lib.hid h
  have HA := Lib.hid hA
  clear h hA hn
  go_enter Tryz.func130, Tryz.ntmps130
  go_wp2
  go_loopg [8] n (fun k vi wr => ∃ i : Nat, vi = .int .i64 i ∧ i ≤ n ∧ n - i ≤ k ∧ Hid (∀ j, j < i → p (l.getD j 0) = false) ∧ w = wr)
  case atStart => exact ⟨0, rfl, by omega, by omega, Lib.hid (fun j hj => by omega), rfl⟩
  case round =>
    obtain ⟨i, rfl, hi, hk, HP, rfl⟩ := hrel
    by_cases hlt : i < n
    · obtain ⟨b, off, rfl, hc⟩ := HR.out i (by rw [HN.out]; exact hlt)
      have c1 := hc i (by rw [HN.out]; exact hlt)
      have hcall := HA.out i (by rw [HN.out]; exact hlt)
      obtain ⟨x, hx⟩ : ∃ x, l.getD i 0 = x := ⟨_, rfl⟩
      rw [hx] at c1 hcall
      have HX := Lib.hid hx
      have HC := Lib.hid hcall
      clear hx hc hcall
      go_wp2_with fail
      (with_reducible refine Calls.mono HC.out ?_)
      rintro e w1 ⟨rfl, rfl⟩
      obtain ⟨q, hq⟩ : ∃ q, p x = q := ⟨_, rfl⟩
      rw [hq]
      have HQ := Lib.hid hq
      clear hq
      cases q
      · go_wp2
        go_roundg (n - (i + 1))
        case measure => omega
        case rel =>
          refine ⟨i + 1, by go_num, by omega, Nat.le_refl _, Lib.hid fun j hj => ?_, rfl⟩
          rcases Nat.lt_or_eq_of_le (Nat.le_of_lt_succ hj) with h | h
          · exact HP.out j h
          · subst h; rw [HX.out]; exact HQ.out
      · go_wp2
        go_ret
        refine ⟨i, rfl, ?_, rfl⟩
        rw [any_some (j := i) (by rw [HN.out]; exact hlt) (by rw [HX.out]; exact HQ.out)]
        simp
    · obtain rfl : i = n := by omega
      go_wp2
      go_ret
      refine ⟨-1, rfl, ?_, rfl⟩
      rw [any_none (fun j hj => HP.out j (by rw [← HN.out]; exact hj))]
      rfl
set_option maxHeartbeats 800000 in
theorem containsF_same (ao : Option Addr) (cap : Nat) (l : List Nat) (w : World) (g : FuncId) (caps : Array Value) (p : Nat → Bool) (h : Rd w ao l) (h2 : l.length ≤ 1000000)
    (hg : ∀ args w, (callFunc g args).run Tryz.prog w = .ok (.enter g args) w) (hA : AsksS w g caps l p) :
    Calls Tryz.prog 108 #[.slice ao l.length cap, .func (.func g) #[] caps] w fun e w' => e = .returned (.bool (l.any p)) ∧ w = w' := by
  have HI := Lib.hid (indexF_same ao cap l w g caps p h h2 hg hA)
  clear h hA
  go_enter Tryz.func108, Tryz.ntmps108
  go_wp2_with fail
  (with_reducible refine Calls.mono HI.out ?_)
  rintro e w1 ⟨r, rfl, hd, rfl⟩
  have HD := Lib.hid hd
  clear hd
  go_wp2
  go_ret
  exact ⟨by rw [← HD.out]; rfl, rfl⟩
theorem enters_rgCheck1 : ∀ args w, (callFunc 109 args).run Tryz.prog w = .ok (.enter 109 args) w := enters_of Tryz.func109 (by kernel_rfl) rfl
theorem rgCheck1_walk (qb x q : Nat) (w : World) (hq : w.cell? ⟨qb, 0, none⟩ = some (.int .u32 q)) :
    Calls Tryz.prog 109 #[.int .u32 x, .pointer (some ⟨qb, 0, none⟩)] w fun e w' => e = .returned (.bool (decide (q ≤ x))) ∧ w = w' := by
  have g : decide ((q : Int) ≤ (x : Int)) = decide (q ≤ x) := by simp
  go_enter Tryz.func109, Tryz.ntmps109
  go_wp2
  go_ret
  exact ⟨by simp, rfl⟩
/-- Some number of a row is not below q. -/
theorem rowOver_walk (qb q : Nat) (ao : Option Addr) (cap : Nat) (l : List Nat) (w : World) (h : Rd w ao l) (h2 : l.length ≤ 1000000) (hq : w.cell? ⟨qb, 0, none⟩ = some (.int .u32 q)) :
    Calls Tryz.prog 108 #[.slice ao l.length cap, .func (.func 109) #[] #[.pointer (some ⟨qb, 0, none⟩)]] w fun e w' => e = .returned (.bool (l.any fun x => decide (q ≤ x))) ∧ w = w' :=
  containsF_same ao cap l w _ _ _ h h2 enters_rgCheck1 (fun k _ => rgCheck1_walk qb (l.getD k 0) q w hq)
end Go.Proofs.YtcipjbckcnkfaaaGreat

namespace Go.Proofs.YtcipjbckcnkfaaaGreat
open Go.RowKit Go.Shelf

/-- The operation is no defer statement. -/
def notDefer (o : Oper) : Bool := match o.op with | .defer _ => false | _ => true
theorem notDefer_spec {o : Oper} (h : notDefer o = true) (c : Call) : o.op ≠ .defer c := fun e => by
  unfold notDefer at h
  rw [e] at h
  cases h
section
variable {F : Fence} {n : Nat} {P : Program} {ops : Array Oper} {md : Region.Mode} {C : World → Prop}
theorem wpIn_of_quietR {o : Oper} {a : Act} {K : Act → Prop} {K' : Act → World → Prop} {Q' : Exit → Act → World → Prop} {w : World} (hd : notDefer o = true) (hw : C w) (h : ∀ a w', C w' → K a → K' a w')
    (ha : o.askedIn F P a C) (hh : o.quietIn F n P a C K) : o.wpIn F n P a w K' Q' := by
  obtain ⟨v, h1, h2⟩ := hh
  have h3 := h1 w hw
  refine ⟨ha w hw, ?_⟩
  rw [Oper.semAt_plain F _ _ (notDefer_spec hd)]
  unfold Oper.quietAtIn at h3
  revert h3
  generalize (execOp a.eval o).run P w = r
  intro h3
  match r, h3 with
  | .ok (.value u) w', h3 => obtain ⟨rfl, rfl⟩ := h3; exact h _ _ hw h2
  | .ok .skip w', h3 => obtain ⟨rfl, rfl⟩ := h3; exact h _ _ hw h2
  | .ok (.enter f args) w', h3 =>
    obtain ⟨rfl, hn, hc⟩ := h3
    exact ⟨hn, hc.mono fun e w'' ⟨he, hw''⟩ => by subst he; exact h _ _ hw'' h2⟩
theorem wpOpIn_of_qOpR {i : Nat} {a : Act} {K : Act → Prop} {K' : Act → World → Prop} {Q' : Exit → Act → World → Prop} {w : World} (hd : ∀ o : Oper, ops[i]? = some o → notDefer o = true) (hC : C w) (h : ∀ a w', C w' → K a → K' a w')
    (hh : qOpIn F n P ops C i K a) : wpOpIn F n P ops Q' i K' a w := by
  unfold qOpIn at hh
  unfold wpOpIn
  cases ho : ops[i]? with
  | none => rw [ho] at hh; exact h _ _ hC hh
  | some o =>
    rw [ho] at hh
    obtain ⟨ha, hh⟩ := hh
    simp only
    by_cases hw : Region.wanted o (yielded ops a.tmps) = true
    · rw [if_pos hw] at hh ⊢; exact wpIn_of_quietR (hd o ho) hC h ha hh
    · rw [if_neg hw] at hh ⊢; exact ⟨ha w hC, h _ _ hC hh⟩
theorem wpAnyIn_of_quietR {Q : Act → Prop} {Q' : Exit → Act → World → Prop} (hd : ∀ (i : Nat) (o : Oper), ops[i]? = some o → notDefer o = true) (hQ : ∀ a w, C w → Q a → Q' .normal a w) : ∀ (fuel : Nat) (listed : Array Bool) (a : Act) (w : World), C w →
    wpAnyQIn F n P md ops C Q fuel listed a → wpAnyIn F n P md ops Q' fuel listed a w := by
  intro fuel
  induction fuel with
  | zero => intro _ a w hw h; exact ⟨h.1, hQ a w hw h.2⟩
  | succ fuel ih => intro listed a w hw h; exact ⟨fun h0 => hQ a w hw (h.1 h0), fun i hi => wpOpIn_of_qOpR (hd i) hw (fun a' w' hw' => ih _ a' w' hw') (h.2 i hi)⟩
/-- Inside a round as elsewhere. -/
theorem wpIn_region_quietR {id : Nat} {Q : Exit → Act → World → Prop} {a : Act} {w : World} {l : List Oper} (hd : l.all notDefer = true) (hm : P.follows .mixedOrders = true) (hB : Region.lexB .any l.toArray = true)
    (h : wpQuietIn F n P l.toArray (fun w' => ∃ n, w' = w.drewN n) (fun a' => ∀ w', (∃ n, w' = w.drewN n) → Q .normal a' w') l a) : (Code.region id l.toArray true).wpIn F n P Q a w := by
  simp only [Region.lexB, Bool.and_eq_true] at hB
  refine wpIn_region_any hm (wpAnyIn_of_quietR (C := fun w' => ∃ n, w' = w.drewN n) (Q := fun a' => ∀ w', (∃ n, w' = w.drewN n) → Q .normal a' w') (fun i o ho => ?_) (fun _ w' hw' h => h w' hw') _ _ _ _ ⟨1, rfl⟩ ?_)
  · rw [List.getElem?_toArray] at ho
    exact List.all_eq_true.1 hd o (List.mem_of_getElem? ho)
  · have := wpAnyQIn_lex (F := F) (n := n) (C := fun w' => ∃ n, w' = w.drewN n) (md := .any) hB.1 l 0 (Array.replicate l.length false) a (by simp) (by simpa using hB.2) h
    simpa using this
end
theorem askedIn_wide (l : Nat) (P : Program) (o : Oper) (a : Act) (C : World → Prop) : Oper.askedIn (Fence.wide.inRound l) P o a C := fun _ _ _ _ => trivial
end Go.Proofs.YtcipjbckcnkfaaaGreat

namespace Go.Proofs.YtcipjbckcnkfaaaGreat
open Go.RowKit Go.Shelf
attribute [local go_sem] Oper.semAt_some

theorem ownH_fill {F : Fence} {n : Nat} {P : Program} {α : Type} (fill : Array Value → α → Nat → Array Value) (t : TypeId) (v : α → Value) {g : Operand} {ps : Array Tmp} {assign body : Code} {Q : Exit → Act → World → Prop} {a : Act} {w : World}
    (hro : F.round = none) (h1 : 1 ≤ n) {gf : Nat} {lb : Array Value} (hg : a.eval g = .func (.func gf) #[] lb) (hFg : F.fn gf) (eg : ∀ args w, (callFunc gf args).run P w = .ok (.enter gf args) w)
    {encs : α → Array Value} {Kp : World → World → Prop} {S Sp : List α → Prop} {N : Nat} {w0 : World} (hseq : SeqStopsK F (n - 1) P gf lb encs Kp S Sp N w0)
    (hKt : ∀ {A B C : World}, Kp A B → Kp B C → Kp A C) (hKb : ∀ (W : World) (l : Nat) (o o' : Obj), w.heap.size ≤ l → W.heap[l]? = some o → o.isCells = false → o.isWalk = false → Kp W (W.putObj l o')) (hb0 : Below w0.heap.size w0 w) (hps : ∀ x, (encs x).size = ps.size)
    (I : List α → World → Prop) (Ix : Code → List α → World → Prop) (hI : OwnFrom w.heap.size I) (hIx : ∀ c, OwnFrom w.heap.size (Ix c)) (h0 : I [] w)
    (hassign : ∀ (l : Nat) (pre : List α) (x : α) (W : World) (K : Act → World → Prop), I pre W → (∀ a' W', KeepsFrom w.heap.size W W' → Kp W W' → I pre W' → (∃ qb, w.heap.size ≤ qb ∧ Blk W' qb t #[v x] ∧ a' = { tmps := fill a.tmps x qb, defers := [] }) → K a' W') →
      assign.wpIn (F.inRound l) (n - 1 - 1) P (Exit.then K (fun _ _ _ => False)) { tmps := (ps.zip (encs x)).foldl (fun t (p, v) => t.setIfInBounds p v) a.tmps, defers := [] } W)
    (hbody : ∀ (l : Nat) (pre : List α) (x : α) (qb : Nat) (W : World), w.heap.size ≤ l → I pre W → w.heap.size ≤ qb → Blk W qb t #[v x] → pre.length < N → body.wpIn (F.inRound l) (n - 1 - 1) P (ownPostG w.heap.size Kp I Ix (pre ++ [x]) W) { tmps := fill a.tmps x qb, defers := [] } W)
    (hdone : ∀ (D : Nat) (xs : List α) (W : World), w.heap.size ≤ D → S xs → I xs W → W.heap[D]? = some (.deferred (some [])) → Q .normal { a with defers := { target := .collected D, args := #[] } :: a.defers } W)
    (hstop : ∀ (D : Nat) (c : Code) (pre : List α) (W : World), w.heap.size ≤ D → Sp pre → Ix c pre W → W.heap[D]? = some (.deferred (some [])) → c.wpIn F n P Q { a with defers := { target := .collected D, args := #[] } :: a.defers } W) :
    (Code.rangeFunc g ps assign body).wpIn F n P Q a w :=
  wpIn_rangeFunc_ownH hro h1 hg hFg eg hseq (fun h k => hKt h k) hKb hb0 hps I Ix hI hIx h0 (fun x a' W => ∃ qb, w.heap.size ≤ qb ∧ Blk W qb t #[v x] ∧ a' = { tmps := fill a.tmps x qb, defers := [] })
    (fun x a' _ X Y row hs hg hr => by obtain ⟨qb, e1, e2, e3⟩ := hs; exact ⟨qb, e1, grown_cells hg (fun r e => (hr r e).2) qb _ e2 rfl, e3⟩)
    hassign (fun l pre x a' W hl _ hi ha hlt => by obtain ⟨qb, e1, e2, rfl⟩ := ha; exact hbody l pre x qb W hl hi e1 e2 hlt) hdone hstop
set_option maxHeartbeats 6400000 in
set_option maxRecDepth 100000 in
theorem rgCheck_bad (p : Par) (ca : Option Addr) (cc : Nat) (E : El) (ao : Option Addr) (c : Nat) (w : World) (hin : ParIn w p ca cc) (hg : Good p) (he : ElIn w E ao c) (hbad : ¬ (PlaceOk p E.level E.special ∧ E.rows.length = (p.qs E.level E.special).length)) :
    Calls Tryz.prog 90 #[.agg (p.cells ca cc), E.val ao c] w fun e w' => e = .returned (.int .i64 2) ∧ Below w.heap.size w w' := by
  refine (callsIn_wide (n := 6)).1 ?_
  refine callsIn_of_wp_marks Tryz.func90 rfl trivial ?_ rfl
  simp only [Tryz.ntmps90, List.size_toArray, List.length_cons, List.length_nil, Nat.reduceAdd, Nat.reduceSub, Array.replicate_succ, Array.replicate_zero, List.push_toArray, List.append_toArray, List.nil_append, List.cons_append]
  obtain ⟨W1, hW1⟩ : ∃ W1, ((w.alloc (.cells (p.cells ca cc) 25)).alloc (.cells #[.int .i64 E.level, .bool E.special, .slice ao E.rows.length c] 54)).alloc (.cells #[.int .i64 0] 32) = W1 := ⟨_, rfl⟩
  have hA : Below w.heap.size w W1 := by rw [← hW1]; exact (((Below.refl _ w).alloc (Nat.le_refl _) _).alloc (by simp) _).alloc (by simp; omega) _
  have hs1 : W1.heap.size = w.heap.size + 3 := by rw [← hW1]; simp
  have hBp : Blk W1 w.heap.size 25 (p.cells ca cc) := by rw [← hW1]; exact ((Blk.new _ _ _).alloc _).alloc _
  have hBe : Blk W1 (w.heap.size + 1) 54 #[.int .i64 E.level, .bool E.special, .slice ao E.rows.length c] := by
    rw [← hW1]
    have := Blk.new (w.alloc (.cells (p.cells ca cc) 25)) 54 #[.int .i64 E.level, .bool E.special, .slice ao E.rows.length c]
    rw [World.size_alloc] at this
    exact this.alloc _
  have hBr : Blk W1 (w.heap.size + 1 + 1) 32 #[.int .i64 0] := by
    rw [← hW1]
    have := Blk.new ((w.alloc (.cells (p.cells ca cc) 25)).alloc (.cells #[.int .i64 E.level, .bool E.special, .slice ao E.rows.length c] 54)) 32 #[.int .i64 0]
    rw [World.size_alloc, World.size_alloc] at this
    exact this
  have HV := Lib.hid (rgvalid_walk w.heap.size p ca cc W1 hBp (hin.below hA) hg)
  have HPL := Lib.hid (fun wr (h : Blk wr w.heap.size 25 (p.cells ca cc)) => rgplace_walk w.heap.size p ca cc E.level E.special wr h hg)
  have hbw0 : ∀ b off, ca = some ⟨b, off, none⟩ → b < w.heap.size := fun b off e => by
    obtain ⟨b', o', e', hc'⟩ := hin.rd 0 (by have := (hg.len).1; omega)
    rw [e] at e'
    cases e'
    exact World.block_lt_of_cell? w _ (hc' 0 (by have := (hg.len).1; omega))
  have HB00 := Lib.hid hbw0
  have hl1 := he.l1
  have hl2 := he.l2
  have hm := he.len
  have HRW := Lib.hid he.rows
  have HE := Lib.hid (he.below hA)
  have HIN := Lib.hid (hin.below hA)
  have HA := Lib.hid hA
  have HBP := Lib.hid hBp
  have HBE := Lib.hid hBe
  have HBR := Lib.hid hBr
  have hn := Good.n hg
  have hGP := Lib.hid hg
  have HBAD := Lib.hid hbad
  clear hbad
  clear hin he hg hA hBp hBe hBr hbw0
  gi_wp2_with fail
  refine ⟨trivial, ?_⟩
  refine (callsIn_wide.2 HV.out).mono ?_
  rintro e w2 ⟨rfl, hT2⟩
  have HT2 := Lib.hid hT2
  have HA2 : Hid (Below w.heap.size w w2) := Lib.hid (HA.out.trans (hT2.below.mono (by omega)))
  have hs2 : w.heap.size + 3 ≤ w2.heap.size := by have := hT2.size; omega
  have HBP2 := Lib.hid (HBP.out.turn hT2 (by simp))
  have HBE2 := Lib.hid (HBE.out.turn hT2 (by simp))
  have HBR2 := Lib.hid (HBR.out.turn hT2 (by simp))
  obtain ⟨e0, e1, e2⟩ := el_cells HBE2.out
  have hpw := HPL.out w2 HBP2.out
  have HPW := Lib.hid hpw
  have r0 := HBR2.out.cell 0
  have r0f := HBR2.out.free 0
  clear hpw hT2 HV HPL HBP HBE HBR hW1
  by_cases hpl : PlaceOk p E.level E.special
  case neg =>
    rw [tr_neg hpl] at HPW
    gi_wp2_with fail
    refine ⟨trivial, ?_⟩
    refine (callsIn_wide.2 HPW.out).mono ?_
    rintro e w' ⟨rfl, rfl⟩
    gi_wp2
    have r2 : (w2.setCell ⟨w.heap.size + 1 + 1, 0, none⟩ (.int .i64 2)).cell? ⟨w.heap.size + 1 + 1, 0, none⟩ = some (.int .i64 2) := (HBR2.out.set 0 (.int .i64 2)).cell 0
    have hT3 : Turn w2 (w2.setCell ⟨w.heap.size + 1 + 1, 0, none⟩ (.int .i64 2)) [w.heap.size + 1 + 1] := (Turn.refl w2 _).setCell (p := ⟨w.heap.size + 1 + 1, 0, none⟩) (.inl (by simp)) _
    have hB3 : Below w.heap.size w (w2.setCell ⟨w.heap.size + 1 + 1, 0, none⟩ (.int .i64 2)) := HA2.out.trans (hT3.belowN (by omega) (fun x hx => by simp at hx; omega))
    exact ⟨.int .i64 2, by simp [results, Tryz.results90, go_sem, r2], rfl, hB3⟩
  rw [tr_pos hpl] at HPW
  gi_wp2_with fail
  refine ⟨trivial, ?_⟩
  refine (callsIn_wide.2 HPW.out).mono ?_
  rintro e w' ⟨rfl, rfl⟩
  obtain ⟨lv, hlv⟩ := Int.eq_ofNat_of_zero_le (show 0 ≤ E.level by have := hpl.1; omega)
  obtain ⟨sp, hsp⟩ : ∃ sp, E.special = sp := ⟨_, rfl⟩
  obtain ⟨m, hmm⟩ : ∃ m, E.rows.length = m := ⟨_, rfl⟩
  obtain ⟨M, hM⟩ : ∃ M, (p.qs E.level E.special).length = M := ⟨_, rfl⟩
  have HLV := Lib.hid hlv
  have HSP := Lib.hid hsp
  have HMM := Lib.hid hmm
  have HM := Lib.hid hM
  rw [hlv] at e0
  rw [hsp] at e1
  rw [hmm] at e2 hm
  have hlvb : lv ≤ 24 := by have := hpl.2.1; have := (hGP.out.len).2; omega
  have hM2 : M = if sp then lv + 1 else lv := by
    rw [← hM, hlv, hsp]
    unfold Par.qs
    rw [List.length_append, List.length_take, Int.toNat_natCast, Nat.min_eq_left (by have := hpl.2.1; omega)]
    cases sp <;> simp
  have hw1 : IntKind.i64.wrap ((lv : Int) + 1) = (lv : Int) + 1 := IntWalk.i64_in _ (by omega)
  clear hlv hsp hmm hM
  have hmk : m ≠ M := fun h => HBAD.out ⟨hpl, by rw [HMM.out, HM.out]; exact h⟩
  have g1 : sp = false → ((m : Int) != (lv : Int)) = true := fun h => by subst h; simp at hM2; simp; omega
  have g2 : sp = true → ((m : Int) != (lv : Int) + 1) = true := fun h => by subst h; simp at hM2; simp; omega
  cases sp
  all_goals (
    first | have g3 := g1 rfl | have g3 := g2 rfl
    clear g1 g2
    gi_wp2
    have r2 : (w2.setCell ⟨w.heap.size + 1 + 1, 0, none⟩ (.int .i64 2)).cell? ⟨w.heap.size + 1 + 1, 0, none⟩ = some (.int .i64 2) := (HBR2.out.set 0 (.int .i64 2)).cell 0
    have hT3 : Turn w2 (w2.setCell ⟨w.heap.size + 1 + 1, 0, none⟩ (.int .i64 2)) [w.heap.size + 1 + 1] := (Turn.refl w2 _).setCell (p := ⟨w.heap.size + 1 + 1, 0, none⟩) (.inl (by simp)) _
    have hB3 : Below w.heap.size w (w2.setCell ⟨w.heap.size + 1 + 1, 0, none⟩ (.int .i64 2)) := HA2.out.trans (hT3.belowN (by omega) (fun x hx => by simp at hx; omega))
    exact ⟨.int .i64 2, by simp [results, Tryz.results90, go_sem, r2], rfl, hB3⟩)
end Go.Proofs.YtcipjbckcnkfaaaGreat
