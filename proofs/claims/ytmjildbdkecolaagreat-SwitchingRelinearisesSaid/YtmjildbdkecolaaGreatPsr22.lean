/- What operators make of numbers. No walk. -/
import Derived.Test.YtmjildbdkecolaaGreatPsr21
import Derived.Laws.BitsAllLaws
import Derived.Laws.Bits64
import Derived.Laws.Small
set_option linter.unusedSimpArgs false
set_option linter.unusedVariables false
set_option linter.unnecessarySimpa false
namespace Go.Proofs.YtmjildbdkecolaaGreat
open Go.RowKit

/-- A number is one of a kind. -/
abbrev InK (k : IntKind) (z : Int) : Prop := match k with
 | .i8 => -128 ≤ z ∧ z ≤ 127
 | .i16 => -32768 ≤ z ∧ z ≤ 32767
 | .i32 => -2147483648 ≤ z ∧ z ≤ 2147483647
 | .i64 => -9223372036854775808 ≤ z ∧ z ≤ 9223372036854775807
 | .u8 => 0 ≤ z ∧ z ≤ 255
 | .u16 => 0 ≤ z ∧ z ≤ 65535
 | .u32 => 0 ≤ z ∧ z ≤ 4294967295
 | .u64 => 0 ≤ z ∧ z ≤ 18446744073709551615
theorem wrap_in {k : IntKind} {z : Int} (h : InK k z) : k.wrap z = z := by
 cases k <;> simp only [InK] at h <;> simp [IntKind.wrap, IntKind.bits, IntKind.signed] <;> omega
abbrev topK : IntKind → Nat
 | .i8 => 127
 | .i16 => 32767
 | .i32 => 2147483647
 | .i64 => 9223372036854775807
 | .u8 => 255
 | .u16 => 65535
 | .u32 => 4294967295
 | .u64 => 18446744073709551615
theorem wrap_nat {k : IntKind} {n : Nat} (h : n ≤ topK k) : k.wrap (n : Int) = n := wrap_in (by cases k <;> simp only [topK] at h <;> simp only [InK] <;> omega)
/-- A number that is a natural one. -/
def NatIs (z : Int) (n : Nat) : Prop := z = (n : Int)
theorem NatIs.cast (n : Nat) : NatIs (n : Int) n := rfl
theorem NatIs.lit (n : Nat) : NatIs (@OfNat.ofNat Int n instOfNat) (@OfNat.ofNat Nat n (instOfNatNat n)) := rfl
section
variable {P : Program} {k : IntKind} {x y z : Int} {a b : Nat}
/-- What an operator makes of two values. -/
def BinR (P : Program) (op : BinOp) (t : TypeId) (x y : Operand) (vx vy r : Value) : Prop := ∀ w, (do eqGuard op t x y vx vy; binOp op t vx vy : Sem Value).run P w = .ok r w
variable {t : TypeId} {ox oy : Operand}
theorem bn_add (hx : NatIs x a) (hy : NatIs y b) (h : a + b ≤ topK k) : BinR P .add t ox oy (.int k x) (.int k y) (.int k ((a + b : Nat) : Int)) := fun w => by
 obtain rfl := hx; obtain rfl := hy
 have := wrap_nat (k := k) h
 rw [Int.natCast_add] at this
 simp [eqGuard, binOp, Op.intArith, this, Result.andThen]
theorem bi_add (h : InK k (x + y)) : BinR P .add t ox oy (.int k x) (.int k y) (.int k (x + y)) := fun w => by
 simp [eqGuard, binOp, Op.intArith, wrap_in h, Result.andThen]
theorem bw_add : BinR P .add t ox oy (.int k x) (.int k y) (.int k (k.wrap (x + y))) := fun w => by
 simp [eqGuard, binOp, Op.intArith, Result.andThen]
theorem bn_sub (hx : NatIs x a) (hy : NatIs y b) (h : b ≤ a) (hk : a ≤ topK k) : BinR P .sub t ox oy (.int k x) (.int k y) (.int k ((a - b : Nat) : Int)) := fun w => by
 obtain rfl := hx; obtain rfl := hy
 have := wrap_nat (k := k) (n := a - b) (by omega)
 rw [Int.natCast_sub h] at this
 simp [eqGuard, binOp, Op.intArith, this, Result.andThen, Int.natCast_sub h]
theorem bi_sub (h : InK k (x - y)) : BinR P .sub t ox oy (.int k x) (.int k y) (.int k (x - y)) := fun w => by
 simp [eqGuard, binOp, Op.intArith, wrap_in h, Result.andThen]
theorem bw_sub : BinR P .sub t ox oy (.int k x) (.int k y) (.int k (k.wrap (x - y))) := fun w => by
 simp [eqGuard, binOp, Op.intArith, Result.andThen]
theorem bn_mul (hx : NatIs x a) (hy : NatIs y b) (h : a * b ≤ topK k) : BinR P .mul t ox oy (.int k x) (.int k y) (.int k ((a * b : Nat) : Int)) := fun w => by
 obtain rfl := hx; obtain rfl := hy
 have := wrap_nat (k := k) h
 rw [Int.natCast_mul] at this
 simp [eqGuard, binOp, Op.intArith, this, Result.andThen]
theorem bi_mul (h : InK k (x * y)) : BinR P .mul t ox oy (.int k x) (.int k y) (.int k (x * y)) := fun w => by
 simp [eqGuard, binOp, Op.intArith, wrap_in h, Result.andThen]
theorem bw_mul : BinR P .mul t ox oy (.int k x) (.int k y) (.int k (k.wrap (x * y))) := fun w => by
 simp [eqGuard, binOp, Op.intArith, Result.andThen]
theorem bn_quo (hx : NatIs x a) (hy : NatIs y b) (h : 0 < b) (hk : a ≤ topK k) : BinR P .quo t ox oy (.int k x) (.int k y) (.int k ((a / b : Nat) : Int)) := fun w => by
 obtain rfl := hx; obtain rfl := hy
 have := wrap_nat (k := k) (n := a / b) (Nat.le_trans (Nat.div_le_self a b) hk)
 have h0 : ¬ b = 0 := by omega
 rw [Int.natCast_ediv] at this
 simp [eqGuard, binOp, Op.intDiv, h0, Result.andThen, Int.tdiv_eq_ediv_of_nonneg, this]
theorem bi_quo (h0 : y ≠ 0) (h : InK k (x.tdiv y)) : BinR P .quo t ox oy (.int k x) (.int k y) (.int k (x.tdiv y)) := fun w => by
 simp [eqGuard, binOp, Op.intDiv, h0, Result.andThen, wrap_in h]
theorem bn_rem (hx : NatIs x a) (hy : NatIs y b) (h : 0 < b) : BinR P .rem t ox oy (.int k x) (.int k y) (.int k ((a % b : Nat) : Int)) := fun w => by
 obtain rfl := hx; obtain rfl := hy
 have h0 : ¬ b = 0 := by omega
 simp [eqGuard, binOp, Op.intDiv, h0, Result.andThen, Int.tmod_eq_emod_of_nonneg, Int.natCast_emod]
theorem bi_rem (h0 : y ≠ 0) : BinR P .rem t ox oy (.int k x) (.int k y) (.int k (x.tmod y)) := fun w => by
 simp [eqGuard, binOp, Op.intDiv, h0, Result.andThen]
theorem bn_eql (hx : NatIs x a) (hy : NatIs y b) : BinR P .eql t ox oy (.int k x) (.int k y) (.bool (decide (a = b))) := fun w => by
 obtain rfl := hx; obtain rfl := hy
 simp [eqGuard, binOp, Op.intCmp, Result.andThen]
 by_cases q : a = b <;> simp [q] <;> omega
theorem bi_eql : BinR P .eql t ox oy (.int k x) (.int k y) (.bool (decide (x = y))) := fun w => by
 simp [eqGuard, binOp, Op.intCmp, Result.andThen]
 by_cases q : x = y <;> simp [q]
theorem bn_neq (hx : NatIs x a) (hy : NatIs y b) : BinR P .neq t ox oy (.int k x) (.int k y) (.bool (decide (a ≠ b))) := fun w => by
 obtain rfl := hx; obtain rfl := hy
 simp [eqGuard, binOp, Op.intCmp, Result.andThen]
 by_cases q : a = b <;> simp [q] <;> omega
theorem bi_neq : BinR P .neq t ox oy (.int k x) (.int k y) (.bool (decide (x ≠ y))) := fun w => by
 simp [eqGuard, binOp, Op.intCmp, Result.andThen]
 by_cases q : x = y <;> simp [q]
theorem bn_lss (hx : NatIs x a) (hy : NatIs y b) : BinR P .lss t ox oy (.int k x) (.int k y) (.bool (decide (a < b))) := fun w => by
 obtain rfl := hx; obtain rfl := hy
 simp [eqGuard, binOp, Op.intCmp, Result.andThen]
theorem bi_lss : BinR P .lss t ox oy (.int k x) (.int k y) (.bool (decide (x < y))) := fun w => by
 simp [eqGuard, binOp, Op.intCmp, Result.andThen]
theorem bn_leq (hx : NatIs x a) (hy : NatIs y b) : BinR P .leq t ox oy (.int k x) (.int k y) (.bool (decide (a ≤ b))) := fun w => by
 obtain rfl := hx; obtain rfl := hy
 simp [eqGuard, binOp, Op.intCmp, Result.andThen]
theorem bi_leq : BinR P .leq t ox oy (.int k x) (.int k y) (.bool (decide (x ≤ y))) := fun w => by
 simp [eqGuard, binOp, Op.intCmp, Result.andThen]
theorem bn_gtr (hx : NatIs x a) (hy : NatIs y b) : BinR P .gtr t ox oy (.int k x) (.int k y) (.bool (decide (b < a))) := fun w => by
 obtain rfl := hx; obtain rfl := hy
 simp [eqGuard, binOp, Op.intCmp, Result.andThen]
theorem bi_gtr : BinR P .gtr t ox oy (.int k x) (.int k y) (.bool (decide (y < x))) := fun w => by
 simp [eqGuard, binOp, Op.intCmp, Result.andThen]
theorem bn_geq (hx : NatIs x a) (hy : NatIs y b) : BinR P .geq t ox oy (.int k x) (.int k y) (.bool (decide (b ≤ a))) := fun w => by
 obtain rfl := hx; obtain rfl := hy
 simp [eqGuard, binOp, Op.intCmp, Result.andThen]
theorem bi_geq : BinR P .geq t ox oy (.int k x) (.int k y) (.bool (decide (y ≤ x))) := fun w => by
 simp [eqGuard, binOp, Op.intCmp, Result.andThen]
theorem bb_eql {p q : Bool} {i : TypeInfo} [hT : TI P t i .bool] : BinR P .eql t ox oy (.bool p) (.bool q) (.bool (p == q)) := fun w => by
 have := run_equal_bool (P := P) w t p q hT.under
 simp [eqGuard, binOp, this, Result.andThen]
theorem bb_neq {p q : Bool} {i : TypeInfo} [hT : TI P t i .bool] : BinR P .neq t ox oy (.bool p) (.bool q) (.bool (!(p == q))) := fun w => by
 have := run_equal_bool (P := P) w t p q hT.under
 simp [eqGuard, binOp, this, Result.andThen]
theorem bs_eql {p q : ByteArray} : BinR P .eql t ox oy (.string p) (.string q) (.bool (p.toList == q.toList)) := fun w => by
 simp [eqGuard, binOp, Op.stringOp, Result.andThen]
theorem bs_neq {p q : ByteArray} : BinR P .neq t ox oy (.string p) (.string q) (.bool (!(p.toList == q.toList))) := fun w => by
 simp [eqGuard, binOp, Op.stringOp, Result.andThen]
/-- What a conversion makes. -/
def ConR (P : Program) (s t : TypeId) (vx r : Value) : Prop := ∀ w, (convert s t vx).run P w = .ok r w
variable {s : TypeId} {k' ks : IntKind} {i i' : TypeInfo}
theorem cn_int [hS : TI P s i (.int ks)] [hT : TI P t i' (.int k')] (hx : NatIs x a) (h : a ≤ topK k') : ConR P s t (.int k x) (.int k' (a : Int)) := fun w => by
 obtain rfl := hx
 simp [convert, run_underlying hS.under, run_underlying hT.under, Conv.intToInt, wrap_nat h, Result.andThen]
theorem ci_int [hS : TI P s i (.int ks)] [hT : TI P t i' (.int k')] (h : InK k' x) : ConR P s t (.int k x) (.int k' x) := fun w => by
 simp [convert, run_underlying hS.under, run_underlying hT.under, Conv.intToInt, wrap_in h, Result.andThen]
theorem cw_int [hS : TI P s i (.int ks)] [hT : TI P t i' (.int k')] : ConR P s t (.int k x) (.int k' (k'.wrap x)) := fun w => by
 simp [convert, run_underlying hS.under, run_underlying hT.under, Conv.intToInt, Result.andThen]
def UnR (P : Program) (op : UnOp) (vx r : Value) : Prop := ∀ w, (Op.unary op vx).run P w = .ok r w
theorem un_not {p : Bool} : UnR P .not (.bool p) (.bool (!p)) := fun w => by simp [Op.unary]
theorem un_neg (h : InK k (-x)) : UnR P .neg (.int k x) (.int k (-x)) := fun w => by
 have := wrap_in h
 simp [Op.unary, Op.intArith, this]
end
end Go.Proofs.YtmjildbdkecolaaGreat
