/- The reference's product of two rows, by data. -/
import Derived.Test.YtmjildbdkecolaaGreatPsr29
import Derived.Test.YtmjildbdkecolaaGreatPsr01
set_option linter.unusedSimpArgs false
set_option linter.unusedVariables false
set_option linter.unnecessarySimpa false
namespace Go.Proofs.YtmjildbdkecolaaGreat
open Go.RowKit
instance fi183 : FI Tryz.prog 183 Tryz.f183 := ⟨Tryz.func183, Tryz.call183⟩
instance fi118 : FI Tryz.prog 118 Tryz.f118 := ⟨Tryz.func118, Tryz.call118⟩
instance fi54 : FI Tryz.prog 54 Tryz.f54 := ⟨Tryz.func54, Tryz.call54⟩
set_option maxRecDepth 20000
set_option maxHeartbeats 4000000
theorem mulA_mpl (a b : Nat → Nat) (q k j : Nat) : mulA a b q k j = mpl a b q k j := by
 induction j with
 | zero => rfl
 | succ j ih => unfold mulA mpl; rw [ih]
theorem mulS_mmi (a b : Nat → Nat) (q n k j : Nat) : mulS a b q n k j = mmi a b q n k j := by
 induction j with
 | zero => rfl
 | succ j ih => unfold mulS mmi; rw [ih]
theorem mulR_nc (a b : Nat → Nat) {q n k : Nat} (hq : 0 < q) : mulR a b q n k = nc a b q n k := by
 unfold mulR
 rw [mulA_mpl, mulS_mmi, prog_nc hq]
theorem setE_put {h h' : Nat → Nat} {j v n : Nat} (hv : v = h' j) (ho : ∀ e, e < n → e ≠ j → h' e = h e) (e : Nat) (he : e < n) : setE (fun e => [.val (.int .u32 ((h e : Nat) : Int))]) j 0 [.val (.int .u32 ((v : Nat) : Int))] e = [.val (.int .u32 ((h' e : Nat) : Int))] := by
 subst hv
 unfold setE
 by_cases q : e = j
 ·subst q; simp [setL, takeL, dropL]
 ·simp [q, ho e he q]
section
variable {E2 : Nat → D} {H2 : Nat → Option Box} {env : List (Nat × D)} {box : List (Nat × Option Box)}
theorem row_put (k : Nat) {n j v : Nat} {h : Nat → Nat} (h' : Nat → Nat) (hv : v = h' j) (ho : ∀ e, e < n → e ≠ j → h' e = h e) (g : Sub (lk env) (hk ((k, some (rowB n h')) :: box)) E2 H2) (hb : Bl box k (.arr 22 n 1 (setE (fun e => [.val (.int .u32 ((h e : Nat) : Int))]) j 0 [.val (.int .u32 ((v : Nat) : Int))])) := by (repeat (first | exact Bl.here | apply Bl.there rfl))) : Sub (lk env) (hk box) E2 H2 := sub_arr k _ (fun e he => setE_put hv ho e he) (fun _ => rfl) g hb
end
theorem r06Product_den (q n : Nat) (a b : Nat → Nat) (hn0 : 0 < n) (hn : n ≤ 32) (hq0 : 0 < q) (hq : q < 2147483648) (ha : ∀ j, a j < 2147483648) (hb : ∀ j, b j < 2147483648) :
  Den Tryz.prog 183 [.val (.int .u32 (q : Int)), .fz true n 1 (fun j => [.val (.int .u32 ((a j : Nat) : Int))]), .fz true n 1 (fun j => [.val (.int .u32 ((b j : Nat) : Int))])] (.fz false n 1 (fun j => [.val (.int .u32 ((mulR a b q n j : Nat) : Int))])) := by
 refine den_intro (fn := Tryz.f183) rfl rfl rfl rfl rfl ?_
 refine go ?_
 refine c_arr (1000 + 14) (fun e => [.val (.int .u32 ((rfRow a b q n 0 0 e : Nat) : Int))]) (fun e he => by rw [rfRow_zero]) (fun _ => rfl) ?_
 refine c_up n (fun i => [(8, .val (.int .i64 (i : Nat)))]) (fun i => [(1014, some (rowB n (rfRow a b q n i 0)))]) (fun i hi => ?_)
 refine go ?_
 refine c_if (fun h3 => ?_) (fun h3 => ?_)
 ·refine go ?_
  refine c_up n (fun k => [(9, .val (.int .i64 (k : Nat)))]) (fun k => [(1014, some (rowB n (rfRow a b q n i k)))]) (fun k hk => ?_)
  refine go ?_
  have ha' := ha i
  have hb' := hb k
  have hp : a i * b k < 2147483648 * 2147483648 := Nat.mul_lt_mul'' ha' hb'
  have hm : a i * b k % q < q := Nat.mod_lt _ hq0
  refine c_if (fun h4 => ?_) (fun h4 => ?_)
  ·refine go ?_
   refine c_if (fun h5 => ?_) (fun h5 => ?_)
   ·have hr := rfRow_lt (x := a) (y := b) (n := n) (i := i) (k := k) (t := i + k - n) hq0
    have hm2 : (q - a i * b k % q) % q < q := Nat.mod_lt _ hq0
    have hm3 : (rfRow a b q n i k (i + k - n) + (q - a i * b k % q) % q) % q < q := Nat.mod_lt _ hq0
    refine go ?_
    refine ⟨h4, ?_⟩
    refine row_put 1014 (rfRow a b q n i (k + 1)) (rfRow_high hq0 h3 h4 h5) (fun e he hne => rfRow_other h3 h4 he (by rw [if_neg (by omega)]; exact hne)) ?_
    exact sub
   ·have hr := rfRow_lt (x := a) (y := b) (n := n) (i := i) (k := k) (t := i + k) hq0
    have hm3 : (rfRow a b q n i k (i + k) + a i * b k % q) % q < q := Nat.mod_lt _ hq0
    refine go ?_
    refine ⟨h4, ?_⟩
    refine row_put 1014 (rfRow a b q n i (k + 1)) (rfRow_low hq0 h3 (by omega)) (fun e he hne => rfRow_other h3 h4 he (by rw [if_pos (by omega)]; exact hne)) ?_
    exact sub
  ·obtain rfl : k = n := by omega
   have en : ∀ e, e < k → ([.val (.int .u32 ((rfRow a b q k i k e : Nat) : Int))] : List D) = [.val (.int .u32 ((rfRow a b q k (i + 1) 0 e : Nat) : Int))] := fun e he => by rw [rfRow_next h3 he]
   refine go ?_
   refine ⟨h3, ?_⟩
   refine sub_arr 1014 _ en (fun _ => rfl) ?_
   exact sub
 ·refine go ?_
  obtain rfl : i = n := by omega
  have en : ∀ e, e < i → ([.val (.int .u32 ((rfRow a b q i i 0 e : Nat) : Int))] : List D) = [.val (.int .u32 ((mulR a b q i e : Nat) : Int))] := fun e he => by rw [mulR_nc a b hq0, rfRow_end]
  refine fin_arr 1014 _ en (fun _ => rfl) ?_
  refine fin_freeze 1014 ?_
  refine fin ?_
  exact cv
end Go.Proofs.YtmjildbdkecolaaGreat
