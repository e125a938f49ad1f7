/- The program's ring, by data: elements of integers.
Small numbers modulo others, by data: of both sides.
Inverses, by data; the reference's small numbers.
The reference's small numbers, by data. -/
import Derived.Test.YtmjildbdkecolaaGreatPsr29
import Derived.Test.YtmjildbdkecolaaGreatPsr27
set_option linter.unusedSimpArgs false
set_option linter.unusedVariables false
set_option linter.unnecessarySimpa false
namespace Go.Proofs.YtmjildbdkecolaaGreat
open Go.RowKit
set_option maxRecDepth 20000
set_option maxHeartbeats 4000000
/-- A box renamed, where slots L are dropped. -/
theorem sub_toL (L : List Nat) (a b : Nat) {env env1 env' : List (Nat × D)} {box box1 box' : List (Nat × Option Box)} {E2 : Nat → D} {H2 : Nat → Option Box} (h : Sub (lk env') (hk box') E2 H2)
  (he : KeepE L env env1 := by (repeat (first | exact KeepE.nil | apply KeepE.drop rfl | (with_reducible apply KeepE.whn) | apply KeepE.keep))) (hE : RenEL (toN a b) env1 env' := by (repeat (first | exact RenEL.nil | (apply RenEL.cons; (focus ((first | exact D.ren_free _ rfl | exact ren_eptr (by first | exact to_y rfl | exact to_n rfl) | exact ren_sl (by first | exact to_y rfl | exact to_n rfl) | exact ren_clo (by (repeat (first | exact RenLL.nil | (apply RenLL.cons; (focus ((first | exact D.ren_free _ rfl | exact ren_eptr (by first | exact to_y rfl | exact to_n rfl) | exact ren_sl (by first | exact to_y rfl | exact to_n rfl)); done)))))) | exact ren_agg (by (repeat (first | exact RenLL.nil | (apply RenLL.cons; (focus ((first | exact D.ren_free _ rfl | exact ren_eptr (by first | exact to_y rfl | exact to_n rfl) | exact ren_sl (by first | exact to_y rfl | exact to_n rfl)); done)))))) | exact ren_tup (by (repeat (first | exact RenLL.nil | (apply RenLL.cons; (focus ((first | exact D.ren_free _ rfl | exact ren_eptr (by first | exact to_y rfl | exact to_n rfl) | exact ren_sl (by first | exact to_y rfl | exact to_n rfl)); done))))))); done)))))) (hbk : KeepB [b] box box1 := by (repeat (first | exact KeepB.nil | apply KeepB.drop rfl | apply KeepB.keep))) (hB : RenBL (toN a b) box1 box' := by (repeat (first | exact RenBL.nil | (apply RenBL.cons; (focus ((first | exact to_y rfl | exact to_n rfl); done)); (focus ((first | exact renb_free rfl | exact renb_lit (by (repeat (first | exact RenLL.nil | (apply RenLL.cons; (focus ((first | exact D.ren_free _ rfl | exact ren_eptr (by first | exact to_y rfl | exact to_n rfl) | exact ren_sl (by first | exact to_y rfl | exact to_n rfl)); done))))))); done)))))) (h1 : Nat.ble 1000 a = true := by rfl) (h2 : (box1.all fun x => Nat.beq (toN b a (toN a b x.1)) x.1) = true := by kernel_rfl) (h3 : Nat.ble 1000 b = true := by rfl)
  (hs : Sub (lk env) (hk box) (lk env1) (hk box1) := by exact sub) : Sub (lk env) (hk box) E2 H2 := by
 refine hs.trans (Sub.trans ?_ h)
 have := sub_ren (env := env1) (two_of (r := toN a b) (s := toN b a) (box := box1) (fun k hk => to_n (beq_ne (by have := Nat.le_of_ble_eq_true h1; omega))) h2) (fun k hk => to_n (beq_ne (by have := Nat.le_of_ble_eq_true h3; omega)))
 rw [hE.eq, hB.eq] at this
 exact this
/-- An integer's residue. -/
def resI (x : Int) (q : Nat) : Nat := (x % (q : Int)).toNat
theorem resI_cast {x : Int} {q : Nat} (h : 0 < q) : ((resI x q : Nat) : Int) = x % (q : Int) := Int.toNat_of_nonneg (Int.emod_nonneg x (by omega))
theorem resI_lt {x : Int} {q : Nat} (h : 0 < q) : resI x q < q := by
 have h1 := resI_cast (x := x) h
 have h2 := Int.emod_lt_of_pos x (show (0 : Int) < q by omega)
 omega
theorem resI_tmod {x : Int} {q : Nat} (h : 0 < q) : (if x.tmod q < 0 then x.tmod q + q else x.tmod q) = ((resI x q : Nat) : Int) := by
 rw [resI_cast h, Int.tmod_eq_emod]
 have h1 := Int.emod_nonneg x (show (q : Int) ≠ 0 by omega)
 have h2 := Int.emod_lt_of_pos x (show (0 : Int) < q by omega)
 by_cases c : 0 ≤ x ∨ (q : Int) ∣ x
 ·rw [if_pos c, if_neg (by omega)]; omega
 ·rw [if_neg c]
  have h3 : x % (q : Int) ≠ 0 := fun e => c (.inr (Int.dvd_of_emod_eq_zero e))
  rw [if_pos (by omega)]; omega
theorem modQ_in {p : PD} (h : VP p) (hs : p.special ≠ 0) {lv : Nat} (hl : lv ≤ p.chain.length) (k : Nat) : 3 ≤ modQ p lv k ∧ modQ p lv k ≤ 2147483647 ∧ modQ p lv k % 2 = 1 := by
 have q : modOk (modQ p lv k) = true := by
  unfold modQ
  split
  ·exact h.mods k (by omega)
  ·rcases h.special with q | q
   ·exact absurd q hs
   ·exact q.1
 unfold modOk at q
 simp only [Bool.and_eq_true, decide_eq_true_eq] at q
 exact ⟨q.1.1, q.1.2, q.2⟩
structure Lv (p : PD) (n lv : Nat) : Prop where
 vp : VP p
 sp : p.special ≠ 0
 n : p.n = (n : Int)
 l1 : 1 ≤ lv
 l2 : lv ≤ p.chain.length
theorem Lv.n32 {p : PD} {n lv : Nat} (h : Lv p n lv) : n ≤ 32 := by have := h.vp.n; have := h.n; omega
theorem Lv.n4 {p : PD} {n lv : Nat} (h : Lv p n lv) : 4 ≤ n := by have := h.vp.n; have := h.n; omega
theorem Lv.place {p : PD} {n lv : Nat} (h : Lv p n lv) (sp : Bool) : (decide (1 ≤ (lv : Int)) && decide ((lv : Int) ≤ (p.chain.length : Int)) && (!sp || decide (p.special ≠ 0))) = true := by
 have h1 := h.l1
 have h2 := h.l2
 rw [decide_eq_true (show 1 ≤ (lv : Int) by omega), decide_eq_true (show (lv : Int) ≤ (p.chain.length : Int) by omega), decide_eq_true h.sp]
 cases sp <;> rfl
theorem rgFromInts_den (p : PD) (n lv : Nat) (sp : Bool) (h : Lv p n lv) (x : Nat → Int) (hx : ∀ j, -9223372036854775808 ≤ x j ∧ x j ≤ 9223372036854775807) : Den Tryz.prog 75 [.agg (parL true p), .val (.int .i64 (lv : Int)), .val (.bool sp), intsD true n x] (.tup [.agg (elL false lv sp (modN p lv sp) n (fun k j => resI (x j) (modQ p lv k))), .val (.int .i64 0)]) := by
 refine den_intro (fn := Tryz.f75) rfl rfl rfl rfl rfl ?_
 have hN : NatIs p.n n := h.n
 have h32 := h.n32
 have l2 := h.vp.len2
 have hpl := h.place sp
 refine go ?_
 refine r_call (rgvalid_den p h.vp) ?_
 refine go ?_
 refine g_callM (hl := fun hb => r_call (rgplace_den p lv sp) (run_fin rfl)) (h := ?_)
 refine go ?_
 refine c_ifB (fun h1 => ?_) (fun h1 => ?_)
 ·rw [hpl] at h1
  exfalso
  simp at h1
 ·refine go ?_
  have hm := modQ_in h.vp h.sp h.l2
  have hm' : ∀ k, 0 < modQ p lv k := fun k => by have := hm k; omega
  refine r_call (rgeach1_den p n lv sp h.n h32 h.l1 h.l2 (by omega) (fun k => by have := hm k; omega) [intsD true n x] (fun k j => resI (x j) (modQ p lv k)) (fun k hk => rgFromInts1_den k (modQ p lv k) n x h32 (hm' k) (by have := hm k; omega) hx (fun j => resI (x j) (modQ p lv k)) (fun j => resI_tmod (hm' k)))) ?_
  refine go ?_
  refine fin ?_
  exact cv
open Go.RowKit
set_option maxRecDepth 20000
set_option maxHeartbeats 4000000
instance fi147 : FI Tryz.prog 147 Tryz.f147 := ⟨Tryz.func147, Tryz.call147⟩
instance fi110 : FI Tryz.prog 110 Tryz.f110 := ⟨Tryz.func110, Tryz.call110⟩
instance fi113 : FI Tryz.prog 113 Tryz.f113 := ⟨Tryz.func113, Tryz.call113⟩
instance fi114 : FI Tryz.prog 114 Tryz.f114 := ⟨Tryz.func114, Tryz.call114⟩
instance fi111 : FI Tryz.prog 111 Tryz.f111 := ⟨Tryz.func111, Tryz.call111⟩
instance fi184 : FI Tryz.prog 184 Tryz.f184 := ⟨Tryz.func184, Tryz.call184⟩
instance fi119 : FI Tryz.prog 119 Tryz.f119 := ⟨Tryz.func119, Tryz.call119⟩
instance fi121 : FI Tryz.prog 121 Tryz.f121 := ⟨Tryz.func121, Tryz.call121⟩
instance fi185 : FI Tryz.prog 185 Tryz.f185 := ⟨Tryz.func185, Tryz.call185⟩
instance fi186 : FI Tryz.prog 186 Tryz.f186 := ⟨Tryz.func186, Tryz.call186⟩
instance fi120 : FI Tryz.prog 120 Tryz.f120 := ⟨Tryz.func120, Tryz.call120⟩
/-- All are below. -/
theorem mfits0_den (n : Nat) (h2 : 2 ≤ n) (hn : n ≤ 2147483647) : Den Tryz.prog 147 [.val (.int .u32 (n : Int)), .val (.slice none 0 0)] (.val (.bool true)) := by
 refine den_intro (fn := Tryz.f147) rfl rfl rfl rfl rfl ?_
 refine go ?_
 refine c_up 0 (fun i => [(9, .val (.int .i64 (i : Int)))]) (fun _ => []) (fun i hi => ?_)
 refine go ?_
 refine fin ?_
 rw [decide_eq_true h2, decide_eq_true hn]
 exact cv
theorem mfits_den (n k : Nat) (l : Nat → Nat) (h2 : 2 ≤ n) (hn : n ≤ 2147483647) (hk : k ≤ 1000000) (hl : ∀ j, j < k → l j < n) : Den Tryz.prog 147 [.val (.int .u32 (n : Int)), u32sF true k l] (.val (.bool true)) := by
 refine den_intro (fn := Tryz.f147) rfl rfl rfl rfl rfl ?_
 refine go ?_
 refine c_up k (fun i => [(9, .val (.int .i64 (i : Int)))]) (fun _ => []) (fun i hi => ?_)
 refine go ?_
 refine c_if (fun h3 => ?_) (fun h3 => ?_)
 ·have := hl i h3
  refine go ?_
  refine ⟨h3, ?_⟩
  exact sub
 ·refine go ?_
  refine fin ?_
  rw [decide_eq_true h2, decide_eq_true hn]
  exact cv
theorem mfits1_den (n a : Nat) (h2 : 2 ≤ n) (hn : n ≤ 2147483647) (ha : a < n) : Den Tryz.prog 147 [.val (.int .u32 (n : Int)), litA Tryz.t22.size 1 [.val (.int .u32 (a : Int))]] (.val (.bool true)) :=
 (mfits_den n 1 (fun _ => a) h2 hn (by omega) (fun _ _ => ha)).arg (.cons (.of_eq rfl) (.cons (Cvt.litA (fun e he => by
  match e, he with
  | 0, _ => rfl) (fun _ _ => rfl)) .nil))
theorem mfits2_den (n a b : Nat) (h2 : 2 ≤ n) (hn : n ≤ 2147483647) (ha : a < n) (hb : b < n) : Den Tryz.prog 147 [.val (.int .u32 (n : Int)), litA Tryz.t22.size 2 [.val (.int .u32 (a : Int)), .val (.int .u32 (b : Int))]] (.val (.bool true)) :=
 (mfits_den n 2 (fun j => if j = 0 then a else b) h2 hn (by omega) (fun j _ => by split <;> assumption)).arg (.cons (.of_eq rfl) (.cons (Cvt.litA (fun e he => by
  match e, he with
  | 0, _ => rfl
  | 1, _ => rfl) (fun _ _ => rfl)) .nil))
theorem mOf_den (x : Int) (n : Nat) (h2 : 2 ≤ n) (hn : n ≤ 2147483647) (hx : -9223372036854775808 ≤ x ∧ x ≤ 9223372036854775807) : Den Tryz.prog 110 [.val (.int .i64 x), .val (.int .u32 (n : Int))] (.tup [.val (.int .u32 ((resI x n : Nat) : Int)), .val (.int .i64 0)]) := by
 refine den_intro (fn := Tryz.f110) rfl rfl rfl rfl rfl ?_
 have h1 : x.tmod n < n := Int.tmod_lt_of_pos _ (by omega)
 have h2' : -(n : Int) < x.tmod n := by have := Int.tmod_lt_of_pos (-x) (show (0 : Int) < n by omega); rw [Int.neg_tmod] at this; omega
 have h3 := resI_tmod (x := x) (show 0 < n by omega)
 have h4 := resI_lt (x := x) (show 0 < n by omega)
 refine go ?_
 refine r_call (mfits0_den n h2 hn) ?_
 refine go ?_
 refine c_no ?_
 refine go ?_
 refine c_cut0 [(6, .val (.int .i64 ((resI x n : Nat) : Int)))] ?_ ?_
 ·refine c_if (fun h5 => ?_) (fun h5 => ?_)
  ·rw [if_pos h5] at h3
   refine go ?_
   exact sub
  ·rw [if_neg h5] at h3
   refine go ?_
   exact sub
 ·refine go ?_
  refine fin ?_
  exact cv
theorem mMul_den (a b n : Nat) (h2 : 2 ≤ n) (hn : n ≤ 2147483647) (ha : a < n) (hb : b < n) : Den Tryz.prog 113 [.val (.int .u32 (a : Int)), .val (.int .u32 (b : Int)), .val (.int .u32 (n : Int))] (.tup [.val (.int .u32 ((a * b % n : Nat) : Int)), .val (.int .i64 0)]) := by
 refine den_intro (fn := Tryz.f113) rfl rfl rfl rfl rfl ?_
 have h3 : a * b < n * n := Nat.mul_lt_mul'' ha hb
 have h4 : n * n ≤ 2147483647 * 2147483647 := Nat.mul_le_mul hn hn
 have h5 := Nat.mod_lt (a * b) (show 0 < n by omega)
 refine go ?_
 refine r_call (mfits2_den n a b h2 hn ha hb) ?_
 refine go ?_
 refine c_no ?_
 refine go ?_
 refine fin ?_
 exact cv
/-- Balanced. -/
def balI (a n : Nat) : Int := if (n : Int) < 2 * (a : Int) then (a : Int) - (n : Int) else (a : Int)
theorem mBalanced_den (a n : Nat) (h2 : 2 ≤ n) (hn : n ≤ 2147483647) (ha : a < n) : Den Tryz.prog 114 [.val (.int .u32 (a : Int)), .val (.int .u32 (n : Int))] (.tup [.val (.int .i64 (balI a n)), .val (.int .i64 0)]) := by
 refine den_intro (fn := Tryz.f114) rfl rfl rfl rfl rfl ?_
 refine go ?_
 refine r_call (mfits1_den n a h2 hn ha) ?_
 refine go ?_
 refine c_no ?_
 refine go ?_
 refine c_cut0 [(6, .val (.int .i64 (balI a n)))] ?_ ?_
 ·refine c_if (fun h5 => ?_) (fun h5 => ?_)
  ·unfold balI
   rw [if_pos (by omega)]
   refine go ?_
   exact sub
  ·unfold balI
   rw [if_neg (by omega)]
   refine go ?_
   exact sub
 ·refine go ?_
  refine fin ?_
  exact cv
/-! ### Euclid's algorithm, as both sides run it -/
def eu : Nat → Nat → Nat → Int → Int → Nat × Int
 | 0, x, _, u, _ => (x, u)
 | f + 1, x, y, u, v => if y = 0 then (x, u) else eu f y (x % y) v (u - ((x / y : Nat) : Int) * v)
theorem eu_fuel : ∀ (y f g x : Nat) (u v : Int), y < f → y < g → eu f x y u v = eu g x y u v := by
 intro y
 induction y using Nat.strongRecOn with
 | _ y ih =>
  intro f g x u v hf hg
  obtain ⟨f, rfl⟩ : ∃ k, f = k + 1 := ⟨f - 1, by omega⟩
  obtain ⟨g, rfl⟩ : ∃ k, g = k + 1 := ⟨g - 1, by omega⟩
  unfold eu
  by_cases q : y = 0
  ·rw [if_pos q, if_pos q]
  ·rw [if_neg q, if_neg q]
   have := Nat.mod_lt x (show 0 < y by omega)
   exact ih (x % y) this f g y v _ (by omega) (by omega)
theorem eu_step {x y : Nat} {u v : Int} (hy : 0 < y) : eu (y + 1) x y u v = eu (x % y + 1) y (x % y) v (u - ((x / y : Nat) : Int) * v) := by
 rw [eu, if_neg (by omega)]
 have := Nat.mod_lt x hy
 exact eu_fuel _ _ _ _ _ _ (by omega) (by omega)
theorem eu_end {x : Nat} {u v : Int} : eu (0 + 1) x 0 u v = (x, u) := by rw [eu, if_pos rfl]
/-- The inverse that it finds; whether it finds one. -/
def invE (a n : Nat) : Nat × Int := eu (a + 1) n a 0 1
def invB (a n : Nat) : Bool := decide ((invE a n).1 = 1)
def invV (a n : Nat) : Nat := if (invE a n).1 = 1 then resI (invE a n).2 n else 0
/-- Its numbers stay small. -/
structure EuOk (n x y : Nat) (u v : Int) : Prop where
 lt : y < x
 le : x ≤ n
 sg : (0 ≤ u ∧ v ≤ 0 ∧ u * y + (-v) * x = n ∧ 2 * u ≤ n) ∨ (u ≤ 0 ∧ 0 ≤ v ∧ (-u) * y + v * x = n ∧ -(2 * u) ≤ n)
theorem EuOk.start {a n : Nat} (h : a < n) : EuOk n n a 0 1 := ⟨h, Nat.le_refl _, .inr ⟨by omega, by omega, by simp, by omega⟩⟩
theorem EuOk.next {n x y : Nat} {u v : Int} (h : EuOk n x y u v) (hy : 0 < y) : EuOk n y (x % y) v (u - ((x / y : Nat) : Int) * v) := by
 have hd : ((x : Nat) : Int) = (y : Int) * ((x / y : Nat) : Int) + ((x % y : Nat) : Int) := by
  have := Nat.div_add_mod x y
  exact_mod_cast this.symm
 have hlt := h.lt
 refine ⟨Nat.mod_lt _ hy, by have := h.le; omega, ?_⟩
 generalize hq : ((x / y : Nat) : Int) = q at hd ⊢
 generalize hr : ((x % y : Nat) : Int) = r at hd ⊢
 have hq0 : 0 ≤ q := by rw [← hq]; exact Int.natCast_nonneg _
 have hr0 : 0 ≤ r := by rw [← hr]; exact Int.natCast_nonneg _
 have hx2 : (2 : Int) ≤ x := by omega
 have key : ∀ {U V : Int}, 0 ≤ U → 0 ≤ V → U * y + V * x = n → V * r + (U + q * V) * y = n ∧ 2 * V ≤ n := by
  intro U V hU hV e
  have e1 : V * (x : Int) = V * ((y : Int) * q + r) := by rw [← hd]
  have e2 : V * ((y : Int) * q + r) = V * r + q * V * y := by rw [Int.mul_add, Int.add_comm, Int.mul_comm (y : Int) q, ← Int.mul_assoc, Int.mul_comm V q]
  refine ⟨by rw [Int.add_mul]; omega, ?_⟩
  have h1 : 0 ≤ U * (y : Int) := Int.mul_nonneg hU (by omega)
  have h2 : V * 2 ≤ V * (x : Int) := Int.mul_le_mul_of_nonneg_left hx2 hV
  omega
 rcases h.sg with ⟨a1, a2, a3, _⟩ | ⟨a1, a2, a3, _⟩
 ·obtain ⟨k1, k2⟩ := key a1 (show 0 ≤ -v by omega) a3
  have hqv : 0 ≤ q * (-v) := Int.mul_nonneg hq0 (by omega)
  rw [Int.mul_neg] at hqv k1
  exact .inr ⟨a2, by omega, by rw [show u - q * v = u + -(q * v) by omega]; exact k1, by omega⟩
 ·obtain ⟨k1, k2⟩ := key (show 0 ≤ -u by omega) a2 a3
  have hqv : 0 ≤ q * v := Int.mul_nonneg hq0 a2
  exact .inl ⟨a2, by omega, by rw [show -(u - q * v) = -u + q * v by omega]; exact k1, by omega⟩
theorem EuOk.bnd {n x y : Nat} {u v : Int} (h : EuOk n x y u v) : -(n : Int) ≤ u ∧ u ≤ n ∧ -(n : Int) ≤ v ∧ v ≤ n := by
 have hlt := h.lt
 have key : ∀ {U V : Int}, 0 ≤ U → 0 ≤ V → U * y + V * x = n → V ≤ n := by
  intro U V hU hV e
  have h1 : 0 ≤ U * (y : Int) := Int.mul_nonneg hU (by omega)
  have h2 : V * 1 ≤ V * (x : Int) := Int.mul_le_mul_of_nonneg_left (by omega) hV
  omega
 rcases h.sg with ⟨a1, a2, a3, a4⟩ | ⟨a1, a2, a3, a4⟩
 ·have := key a1 (show 0 ≤ -v by omega) a3; omega
 ·have := key (show 0 ≤ -u by omega) a2 a3; omega
theorem EuOk.prod {n x y : Nat} {u v : Int} (h : EuOk n x y u v) (hy : 0 < y) : -(2 * n : Int) ≤ ((x / y : Nat) : Int) * v ∧ ((x / y : Nat) : Int) * v ≤ 2 * n := by
 have h1 := h.bnd
 have h2 := (h.next hy).bnd
 omega
open Go.RowKit
set_option maxRecDepth 20000
set_option maxHeartbeats 4000000
theorem resI_of {u : Int} {n : Nat} (h : -(2 * u) ≤ n ∧ 2 * u ≤ n) (hn : 2 ≤ n) : ((resI u n : Nat) : Int) = (if u < 0 then u + n else u) ∧ resI u n < n := by
 refine ⟨?_, resI_lt (by omega)⟩
 rw [resI_cast (by omega)]
 split
 ·rw [← Int.add_emod_right, Int.emod_eq_of_lt (by omega) (by omega)]
 ·rw [Int.emod_eq_of_lt (by omega) (by omega)]
theorem mInverse_den (a n : Nat) (h2 : 2 ≤ n) (hn : n ≤ 2147483647) (ha : a < n) : Den Tryz.prog 111 [.val (.int .u32 (a : Int)), .val (.int .u32 (n : Int))] (.tup [.val (.int .u32 ((invV a n : Nat) : Int)), .val (.int .i64 (if invB a n then 0 else 4))]) := by
 refine den_intro (fn := Tryz.f111) rfl rfl rfl rfl rfl ?_
 refine go ?_
 refine r_call (mfits1_den n a h2 hn ha) ?_
 refine go ?_
 refine c_no ?_
 refine go ?_
 refine c_down (fun s : Nat × Nat × Int × Int => s.2.1) (fun s => EuOk n s.1 s.2.1 s.2.2.1 s.2.2.2 ∧ eu (s.2.1 + 1) s.1 s.2.1 s.2.2.1 s.2.2.2 = invE a n) (fun s => [(6, .val (.int .i64 (s.1 : Int))), (7, .val (.int .i64 (s.2.1 : Int))), (8, .val (.int .i64 s.2.2.1)), (9, .val (.int .i64 s.2.2.2))]) (fun _ => []) (n, a, 0, 1) (fun s hs => ?_) ⟨.start ha, rfl⟩
 obtain ⟨x, y, u, v⟩ := s
 dsimp only at hs ⊢
 obtain ⟨hk, he⟩ := hs
 have hb := hk.bnd
 have hle := hk.le
 have hlt := hk.lt
 refine go ?_
 refine c_if (fun h3 => ?_) (fun h3 => ?_)
 ·have hy : 0 < y := by omega
  have hp := hk.prod hy
  have hm := Nat.mod_lt x hy
  have hd : x - x / y * y = x % y := by have := Nat.div_add_mod x y; rw [Nat.mul_comm] at this; omega
  have hdm : x / y * y ≤ x := Nat.div_mul_le_self x y
  have hq := Nat.div_le_self x y
  have hnx := hk.next hy
  have hnb := hnx.bnd
  refine go ?_
  refine ⟨(y, x % y, v, u - ((x / y : Nat) : Int) * v), ⟨hnx, (eu_step hy).symm.trans he⟩, hm, ?_⟩
  dsimp only
  rw [hd]
  exact sub
 ·obtain rfl : y = 0 := by omega
  rw [eu_end] at he
  have hu : -(2 * u) ≤ n ∧ 2 * u ≤ n := by rcases hk.sg with ⟨_, _, _, _⟩ | ⟨_, _, _, _⟩ <;> omega
  obtain ⟨r, hr⟩ : ∃ r, resI u n = r := ⟨_, rfl⟩
  obtain ⟨hru, hrn⟩ := resI_of hu h2
  rw [hr] at hru hrn
  have hV : invV a n = if x = 1 then r else 0 := by unfold invV; rw [← he, hr]
  have hB : invB a n = decide (x = 1) := by unfold invB; rw [← he]
  rw [hV, hB]
  refine go ?_
  refine c_if (fun h4 => ?_) (fun h4 => ?_)
  ·refine go ?_
   rw [if_neg (show ¬ x = 1 by omega), decide_eq_false (show ¬ x = 1 by omega)]
   refine fin ?_
   exact cv
  ·refine go ?_
   rw [if_pos (show x = 1 by omega), decide_eq_true (show x = 1 by omega)]
   refine c_cut0 [(8, .val (.int .i64 (r : Int)))] ?_ ?_
   ·refine c_if (fun h5 => ?_) (fun h5 => ?_)
    ·rw [if_pos h5] at hru
     refine go ?_
     exact sub
    ·rw [if_neg h5] at hru
     refine go ?_
     exact sub
   ·refine go ?_
    refine fin ?_
    exact cv
open Go.RowKit
set_option maxRecDepth 20000
set_option maxHeartbeats 4000000
theorem r01modulus_den (n : Nat) (h2 : 2 ≤ n) (hn : n ≤ 2147483647) : Den Tryz.prog 184 [.val (.int .u32 (n : Int))] (.val (.bool true)) := by
 refine den_intro (fn := Tryz.f184) rfl rfl rfl rfl rfl ?_
 refine go ?_
 refine fin ?_
 rw [decide_eq_true h2, decide_eq_true hn]
 exact cv
theorem r01Of_den (x : Int) (n : Nat) (h2 : 2 ≤ n) (hn : n ≤ 2147483647) (hx : -9223372036854775808 ≤ x ∧ x ≤ 9223372036854775807) : Den Tryz.prog 119 [.val (.int .i64 x), .val (.int .u32 (n : Int))] (.tup [.val (.int .u32 ((resI x n : Nat) : Int)), .val (.int .i64 0)]) := by
 refine den_intro (fn := Tryz.f119) rfl rfl rfl rfl rfl ?_
 have h1 : x.tmod n < n := Int.tmod_lt_of_pos _ (by omega)
 have h2' : -(n : Int) < x.tmod n := by have := Int.tmod_lt_of_pos (-x) (show (0 : Int) < n by omega); rw [Int.neg_tmod] at this; omega
 have h3 := resI_tmod (x := x) (show 0 < n by omega)
 have h4 := resI_lt (x := x) (show 0 < n by omega)
 refine go ?_
 refine r_call (r01modulus_den n h2 hn) ?_
 refine go ?_
 refine c_no ?_
 refine go ?_
 refine c_cut0 [(6, .val (.int .i64 ((resI x n : Nat) : Int)))] ?_ ?_
 ·refine c_if (fun h5 => ?_) (fun h5 => ?_)
  ·rw [if_pos h5] at h3
   refine go ?_
   exact sub
  ·rw [if_neg h5] at h3
   refine go ?_
   exact sub
 ·refine go ?_
  refine fin ?_
  exact cv
theorem rtimes_den (a b n : Nat) (h2 : 0 < n) (hn : n ≤ 2147483647) (ha : a < n) (hb : b < n) : Den Tryz.prog 185 [.val (.int .u32 (a : Int)), .val (.int .u32 (b : Int)), .val (.int .u32 (n : Int))] (.val (.int .u32 ((a * b % n : Nat) : Int))) := by
 refine den_intro (fn := Tryz.f185) rfl rfl rfl rfl rfl ?_
 have h3 : a * b < n * n := Nat.mul_lt_mul'' ha hb
 have h4 : n * n ≤ 2147483647 * 2147483647 := Nat.mul_le_mul hn hn
 have h5 := Nat.mod_lt (a * b) h2
 refine go ?_
 refine fin ?_
 exact cv
theorem r01Mul_den (a b n : Nat) (h2 : 2 ≤ n) (hn : n ≤ 2147483647) (ha : a < n) (hb : b < n) : Den Tryz.prog 121 [.val (.int .u32 (a : Int)), .val (.int .u32 (b : Int)), .val (.int .u32 (n : Int))] (.tup [.val (.int .u32 ((a * b % n : Nat) : Int)), .val (.int .i64 0)]) := by
 refine den_intro (fn := Tryz.f121) rfl rfl rfl rfl rfl ?_
 refine go ?_
 refine r_call (r01modulus_den n h2 hn) ?_
 refine go ?_
 rw [decide_eq_false (show ¬ n ≤ a by omega), decide_eq_false (show ¬ n ≤ b by omega)]
 refine c_no ?_
 refine go ?_
 refine r_call (rtimes_den a b n (by omega) hn ha hb) ?_
 refine go ?_
 refine fin ?_
 exact cv
theorem r01Balanced_den (a n : Nat) (h2 : 2 ≤ n) (hn : n ≤ 2147483647) (ha : a < n) : Den Tryz.prog 186 [.val (.int .u32 (a : Int)), .val (.int .u32 (n : Int))] (.tup [.val (.int .i64 (balI a n)), .val (.int .i64 0)]) := by
 refine den_intro (fn := Tryz.f186) rfl rfl rfl rfl rfl ?_
 refine go ?_
 refine r_call (r01modulus_den n h2 hn) ?_
 refine go ?_
 unfold balI
 refine c_if (fun h5 => ?_) (fun h5 => ?_)
 ·rw [if_pos (show (n : Int) < 2 * (a : Int) by omega)]
  refine go ?_
  refine fin ?_
  exact cv
 ·rw [if_neg (show ¬ (n : Int) < 2 * (a : Int) by omega)]
  refine go ?_
  refine fin ?_
  exact cv
theorem r01Inverse_den (a n : Nat) (h2 : 2 ≤ n) (hn : n ≤ 2147483647) (ha : a < n) : Den Tryz.prog 120 [.val (.int .u32 (a : Int)), .val (.int .u32 (n : Int))] (.tup [.val (.int .u32 ((invV a n : Nat) : Int)), .val (.int .i64 (if invB a n then 0 else 4))]) := by
 refine den_intro (fn := Tryz.f120) rfl rfl rfl rfl rfl ?_
 refine go ?_
 refine r_call (r01modulus_den n h2 hn) ?_
 refine go ?_
 refine c_down (fun s : Nat × Nat × Int × Int => s.2.1) (fun s => EuOk n s.1 s.2.1 s.2.2.1 s.2.2.2 ∧ eu (s.2.1 + 1) s.1 s.2.1 s.2.2.1 s.2.2.2 = invE a n) (fun s => [(6, .val (.int .i64 (s.1 : Int))), (7, .val (.int .i64 (s.2.1 : Int))), (8, .val (.int .i64 s.2.2.1)), (9, .val (.int .i64 s.2.2.2))]) (fun _ => []) (n, a, 0, 1) (fun s hs => ?_) ⟨.start ha, rfl⟩
 obtain ⟨x, y, u, v⟩ := s
 dsimp only at hs ⊢
 obtain ⟨hk, he⟩ := hs
 have hb := hk.bnd
 have hle := hk.le
 have hlt := hk.lt
 refine go ?_
 refine c_if (fun h3 => ?_) (fun h3 => ?_)
 ·have hy : 0 < y := by omega
  have hp := hk.prod hy
  have hm := Nat.mod_lt x hy
  have hd : x - x / y * y = x % y := by have := Nat.div_add_mod x y; rw [Nat.mul_comm] at this; omega
  have hdm : x / y * y ≤ x := Nat.div_mul_le_self x y
  have hq := Nat.div_le_self x y
  have hnx := hk.next hy
  have hnb := hnx.bnd
  refine go ?_
  refine ⟨(y, x % y, v, u - ((x / y : Nat) : Int) * v), ⟨hnx, (eu_step hy).symm.trans he⟩, hm, ?_⟩
  dsimp only
  rw [hd]
  exact sub
 ·obtain rfl : y = 0 := by omega
  rw [eu_end] at he
  have hV : invV a n = if x = 1 then resI u n else 0 := by unfold invV; rw [← he]
  have hB : invB a n = decide (x = 1) := by unfold invB; rw [← he]
  rw [hV, hB]
  refine go ?_
  refine c_if (fun h4 => ?_) (fun h4 => ?_)
  ·refine go ?_
   rw [if_neg (show ¬ x = 1 by omega), decide_eq_false (show ¬ x = 1 by omega)]
   refine fin ?_
   exact cv
  ·refine go ?_
   rw [if_pos (show x = 1 by omega), decide_eq_true (show x = 1 by omega)]
   refine r_call (r01Of_den u n h2 hn (by omega)) ?_
   refine go ?_
   refine fin ?_
   exact cv
end Go.Proofs.YtmjildbdkecolaaGreat
