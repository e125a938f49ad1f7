/- The types and functions of this program, as the driver looks them up. No walk. -/
import Derived.Test.YtmjildbdkecolaaPst27
set_option linter.unusedSimpArgs false
set_option linter.unusedVariables false
set_option linter.unnecessarySimpa false
namespace Go.Proofs.Ytmjildbdkecolaa
open Go.RowKit
section
variable {P : Program} {t s el : TypeId} {i i' : TypeInfo} {e e' : TypeDesc}
theorem SZ.of {n : Nat} (h : TI P t i e) (hn : i.size = n) : SZ P t n := ⟨hn ▸ SizeIs.mk⟩
theorem ZR.of {z : Value} {zs : List Value} (h : TI P t i e) (hz : i.zero = some z) (hc : z.cells = zs.toArray) (h1 : (zs.all fun z => z.oneCell') = true) : ZR P t zs := by
 have := ZeroIs.mk (P := P) (t := t) hz (by rw [hc]; exact h1)
 rw [hc] at this
 exact ⟨this⟩
theorem FT.of {fs : Array Field} {fl : Field} {k off : Nat} (h : TI P s i (.struct fs)) (hf : fs[k]? = some fl) (h' : TI P fl.type i' e') (ho : fl.offset = off) (h0 : (i'.size == 0) = false) : FT P s k off := ⟨ho ▸ FieldIs.mk hf h0⟩
theorem FV.one {fs : Array Field} {fl : Field} {k off : Nat} (h : TI P s i (.struct fs)) (hf : fs[k]? = some fl) (h' : TI P fl.type i' e') (ho : fl.offset = off) (ha : isAggD e' = false) : FV P s k off 1 false := ⟨_, _, _, h, hf, ho, pt_one ha⟩
theorem FV.agg {fs : Array Field} {fl : Field} {k off n : Nat} (h : TI P s i (.struct fs)) (hf : fs[k]? = some fl) (h' : TI P fl.type i' e') (ho : fl.offset = off) (ha : isAggD e' = true) (hn : i'.size = n) : FV P s k off n true := ⟨_, _, _, h, hf, ho, hn ▸ pt_agg ha⟩
theorem ET.of {m : Nat} (h : TI P t i (.slice el)) (h' : TI P el i' e') (hm : i'.size = m) : ET P t m := ⟨hm ▸ IndexIs.mk⟩
theorem AR.of {n m : Nat} (h : TI P t i (.array n el)) (h' : TI P el i' e') (hm : i'.size = m) : AR P t n m := ⟨hm ▸ IndexArr.mk⟩
end
instance mixP : Mix Try.prog := ⟨by kernel_rfl⟩
instance ti2 : TI Try.prog 2 Try.t2 (.int .i64) := ⟨by kernel_rfl, by kernel_rfl⟩
instance ti3 : TI Try.prog 3 Try.t3 (.int .i64) := ⟨by kernel_rfl, by kernel_rfl⟩
instance ti4 : TI Try.prog 4 Try.t4 (.bool ) := ⟨by kernel_rfl, by kernel_rfl⟩
instance ti5 : TI Try.prog 5 Try.t5 (.int .u8) := ⟨by kernel_rfl, by kernel_rfl⟩
instance ti22 : TI Try.prog 22 Try.t22 (.int .u32) := ⟨by kernel_rfl, by kernel_rfl⟩
instance ti23 : TI Try.prog 23 Try.t23 (.slice 22) := ⟨by kernel_rfl, by kernel_rfl⟩
instance ti25 : TI Try.prog 25 Try.t25 Try.t24.desc := ⟨by kernel_rfl, by kernel_rfl⟩
instance ti26 : TI Try.prog 26 Try.t26 (.slice 23) := ⟨by kernel_rfl, by kernel_rfl⟩
instance ti28 : TI Try.prog 28 Try.t28 Try.t27.desc := ⟨by kernel_rfl, by kernel_rfl⟩
instance ti30 : TI Try.prog 30 Try.t30 (.int .i64) := ⟨by kernel_rfl, by kernel_rfl⟩
instance ti34 : TI Try.prog 34 Try.t34 (.slice 28) := ⟨by kernel_rfl, by kernel_rfl⟩
instance ti51 : TI Try.prog 51 Try.t51 (.slice 2) := ⟨by kernel_rfl, by kernel_rfl⟩
instance ti62 : TI Try.prog 62 Try.t62 (.pointer 25) := ⟨by kernel_rfl, by kernel_rfl⟩
instance ti72 : TI Try.prog 72 Try.t72 (.int .u64) := ⟨by kernel_rfl, by kernel_rfl⟩
instance ti73 : TI Try.prog 73 Try.t73 Try.t73.desc := ⟨by kernel_rfl, by kernel_rfl⟩
instance sz2 : SZ Try.prog 2 1 := SZ.of ti2 rfl
instance zr2 : ZR Try.prog 2 [.int .i64 0] := ZR.of ti2 rfl rfl rfl
instance sz3 : SZ Try.prog 3 1 := SZ.of ti3 rfl
instance zr3 : ZR Try.prog 3 [.int .i64 0] := ZR.of ti3 rfl rfl rfl
instance sz4 : SZ Try.prog 4 1 := SZ.of ti4 rfl
instance zr4 : ZR Try.prog 4 [.bool false] := ZR.of ti4 rfl rfl rfl
instance sz5 : SZ Try.prog 5 1 := SZ.of ti5 rfl
instance zr5 : ZR Try.prog 5 [.int .u8 0] := ZR.of ti5 rfl rfl rfl
instance sz22 : SZ Try.prog 22 1 := SZ.of ti22 rfl
instance zr22 : ZR Try.prog 22 [.int .u32 0] := ZR.of ti22 rfl rfl rfl
instance sz23 : SZ Try.prog 23 1 := SZ.of ti23 rfl
instance zr23 : ZR Try.prog 23 [.slice none 0 0] := ZR.of ti23 rfl rfl rfl
instance et23 : ET Try.prog 23 1 := ET.of ti23 ti22 rfl
instance sz25 : SZ Try.prog 25 7 := SZ.of ti25 rfl
instance zr25 : ZR Try.prog 25 [.int .i64 0, .int .u32 0, .int .i64 0, .slice none 0 0, .int .u32 0, .int .i64 0, .int .u32 0] := ZR.of ti25 rfl rfl rfl
instance bt25 : BT Try.prog 25 [(0, 1), (1, 1), (2, 1), (3, 1), (4, 1), (5, 1), (6, 1)] [.int .i64 0, .int .u32 0, .int .i64 0, .slice none 0 0, .int .u32 0, .int .i64 0, .int .u32 0] := BT.of (ns := [1, 1, 1, 1, 1, 1, 1]) ti25 rfl zr25.zr ⟨sz3.sz, ⟨sz22.sz, ⟨sz3.sz, ⟨sz23.sz, ⟨sz22.sz, ⟨sz3.sz, ⟨sz22.sz, trivial⟩⟩⟩⟩⟩⟩⟩ (by intro j; repeat (first | rfl | cases j with | zero => rfl | succ j => ?_))
instance ft25_0 : FT Try.prog 25 0 0 := FT.of ti25 rfl ti3 rfl rfl
instance fv25_0 : FV Try.prog 25 0 0 1 false := FV.one ti25 rfl ti3 rfl rfl
instance ft25_1 : FT Try.prog 25 1 1 := FT.of ti25 rfl ti22 rfl rfl
instance fv25_1 : FV Try.prog 25 1 1 1 false := FV.one ti25 rfl ti22 rfl rfl
instance ft25_2 : FT Try.prog 25 2 2 := FT.of ti25 rfl ti3 rfl rfl
instance fv25_2 : FV Try.prog 25 2 2 1 false := FV.one ti25 rfl ti3 rfl rfl
instance ft25_3 : FT Try.prog 25 3 3 := FT.of ti25 rfl ti23 rfl rfl
instance fv25_3 : FV Try.prog 25 3 3 1 false := FV.one ti25 rfl ti23 rfl rfl
instance ft25_4 : FT Try.prog 25 4 4 := FT.of ti25 rfl ti22 rfl rfl
instance fv25_4 : FV Try.prog 25 4 4 1 false := FV.one ti25 rfl ti22 rfl rfl
instance ft25_5 : FT Try.prog 25 5 5 := FT.of ti25 rfl ti3 rfl rfl
instance fv25_5 : FV Try.prog 25 5 5 1 false := FV.one ti25 rfl ti3 rfl rfl
instance ft25_6 : FT Try.prog 25 6 6 := FT.of ti25 rfl ti22 rfl rfl
instance fv25_6 : FV Try.prog 25 6 6 1 false := FV.one ti25 rfl ti22 rfl rfl
instance sz26 : SZ Try.prog 26 1 := SZ.of ti26 rfl
instance zr26 : ZR Try.prog 26 [.slice none 0 0] := ZR.of ti26 rfl rfl rfl
instance et26 : ET Try.prog 26 1 := ET.of ti26 ti23 rfl
instance sz28 : SZ Try.prog 28 3 := SZ.of ti28 rfl
instance zr28 : ZR Try.prog 28 [.int .i64 0, .bool false, .slice none 0 0] := ZR.of ti28 rfl rfl rfl
instance bt28 : BT Try.prog 28 [(0, 1), (1, 1), (2, 1)] [.int .i64 0, .bool false, .slice none 0 0] := BT.of (ns := [1, 1, 1]) ti28 rfl zr28.zr ⟨sz3.sz, ⟨sz4.sz, ⟨sz26.sz, trivial⟩⟩⟩ (by intro j; repeat (first | rfl | cases j with | zero => rfl | succ j => ?_))
instance ft28_0 : FT Try.prog 28 0 0 := FT.of ti28 rfl ti3 rfl rfl
instance fv28_0 : FV Try.prog 28 0 0 1 false := FV.one ti28 rfl ti3 rfl rfl
instance ft28_1 : FT Try.prog 28 1 1 := FT.of ti28 rfl ti4 rfl rfl
instance fv28_1 : FV Try.prog 28 1 1 1 false := FV.one ti28 rfl ti4 rfl rfl
instance ft28_2 : FT Try.prog 28 2 2 := FT.of ti28 rfl ti26 rfl rfl
instance fv28_2 : FV Try.prog 28 2 2 1 false := FV.one ti28 rfl ti26 rfl rfl
instance sz30 : SZ Try.prog 30 1 := SZ.of ti30 rfl
instance zr30 : ZR Try.prog 30 [.int .i64 0] := ZR.of ti30 rfl rfl rfl
instance sz34 : SZ Try.prog 34 1 := SZ.of ti34 rfl
instance zr34 : ZR Try.prog 34 [.slice none 0 0] := ZR.of ti34 rfl rfl rfl
instance et34 : ET Try.prog 34 3 := ET.of ti34 ti28 rfl
instance sz51 : SZ Try.prog 51 1 := SZ.of ti51 rfl
instance zr51 : ZR Try.prog 51 [.slice none 0 0] := ZR.of ti51 rfl rfl rfl
instance et51 : ET Try.prog 51 1 := ET.of ti51 ti2 rfl
instance sz62 : SZ Try.prog 62 1 := SZ.of ti62 rfl
instance zr62 : ZR Try.prog 62 [.pointer none] := ZR.of ti62 rfl rfl rfl
instance sz72 : SZ Try.prog 72 1 := SZ.of ti72 rfl
instance zr72 : ZR Try.prog 72 [.int .u64 0] := ZR.of ti72 rfl rfl rfl
instance sz73 : SZ Try.prog 73 1 := SZ.of ti73 rfl
instance zr73 : ZR Try.prog 73 [.nilFunc] := ZR.of ti73 rfl rfl rfl
instance fi54 : FI Try.prog 54 Try.f54 := ⟨Try.func54, Try.call54⟩
instance fi41 : FI Try.prog 41 Try.f41 := ⟨Try.func41, Try.call41⟩
instance fi42 : FI Try.prog 42 Try.f42 := ⟨Try.func42, Try.call42⟩
instance fi56 : FI Try.prog 56 Try.f56 := ⟨Try.func56, Try.call56⟩
instance fi46 : FI Try.prog 46 Try.f46 := ⟨Try.func46, Try.call46⟩
instance fi19 : FI Try.prog 19 Try.f19 := ⟨Try.func19, Try.call19⟩
instance fi43 : FI Try.prog 43 Try.f43 := ⟨Try.func43, Try.call43⟩
instance fi40 : FI Try.prog 40 Try.f40 := ⟨Try.func40, Try.call40⟩
instance fi21 : FI Try.prog 21 Try.f21 := ⟨Try.func21, Try.call21⟩
instance fi47 : FI Try.prog 47 Try.f47 := ⟨Try.func47, Try.call47⟩
instance fi55 : FI Try.prog 55 Try.f55 := ⟨Try.func55, Try.call55⟩
instance fi75 : FI Try.prog 75 Try.f75 := ⟨Try.func75, Try.call75⟩
instance fi34 : FI Try.prog 34 Try.f34 := ⟨Try.func34, Try.call34⟩
instance fi51 : FI Try.prog 51 Try.f51 := ⟨Try.func51, Try.call51⟩
end Go.Proofs.Ytmjildbdkecolaa
