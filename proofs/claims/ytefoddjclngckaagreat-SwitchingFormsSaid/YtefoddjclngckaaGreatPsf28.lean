/- The types and functions of this program, as the driver looks them up. No walk. -/
import Derived.Test.YtefoddjclngckaaGreatPsf27
set_option linter.unusedSimpArgs false
set_option linter.unusedVariables false
set_option linter.unnecessarySimpa false
namespace Go.Proofs.YtefoddjclngckaaGreat
open Go.RowKit
section
variable {P : Program} {t s el : TypeId} {i i' : TypeInfo} {e e' : TypeDesc}
theorem SZ.of {n : Nat} (h : TI P t i e) (hn : i.size = n) : SZ P t n := ⟨hn ▸ SizeIs.mk⟩
theorem ZR.of {z : Value} {zs : List Value} (h : TI P t i e) (hz : i.zero = some z) (hc : z.cells = zs.toArray) (h1 : (zs.all fun z => z.oneCell') = true) : ZR P t zs := by
  have := ZeroIs.mk (P := P) (t := t) hz (by rw [hc]; exact h1)
  rw [hc] at this
  exact ⟨this⟩
theorem FT.of {fs : Array Field} {fl : Field} {k off : Nat} (h : TI P s i (.struct fs)) (hf : fs[k]? = some fl) (h' : TI P fl.type i' e') (ho : fl.offset = off) (h0 : (i'.size == 0) = false) : FT P s k off := ⟨ho ▸ FieldIs.mk hf h0⟩
theorem FV.one {fs : Array Field} {fl : Field} {k off : Nat} (h : TI P s i (.struct fs)) (hf : fs[k]? = some fl) (h' : TI P fl.type i' e') (ho : fl.offset = off) (ha : isAggD e' = false) : FV P s k off 1 false := ⟨_, _, _, h, hf, ho, pt_one ha⟩
theorem FV.agg {fs : Array Field} {fl : Field} {k off n : Nat} (h : TI P s i (.struct fs)) (hf : fs[k]? = some fl) (h' : TI P fl.type i' e') (ho : fl.offset = off) (ha : isAggD e' = true) (hn : i'.size = n) : FV P s k off n true := ⟨_, _, _, h, hf, ho, hn ▸ pt_agg ha⟩
theorem ET.of {m : Nat} (h : TI P t i (.slice el)) (h' : TI P el i' e') (hm : i'.size = m) : ET P t m := ⟨hm ▸ IndexIs.mk⟩
theorem AR.of {n m : Nat} (h : TI P t i (.array n el)) (h' : TI P el i' e') (hm : i'.size = m) : AR P t n m := ⟨hm ▸ IndexArr.mk⟩
end
instance mixP : Mix Tryz.prog := ⟨by kernel_rfl⟩
instance ti2 : TI Tryz.prog 2 Tryz.t2 (.int .i64) := ⟨by kernel_rfl, by kernel_rfl⟩
instance ti3 : TI Tryz.prog 3 Tryz.t3 (.int .i64) := ⟨by kernel_rfl, by kernel_rfl⟩
instance ti4 : TI Tryz.prog 4 Tryz.t4 (.bool ) := ⟨by kernel_rfl, by kernel_rfl⟩
instance ti5 : TI Tryz.prog 5 Tryz.t5 (.int .u8) := ⟨by kernel_rfl, by kernel_rfl⟩
instance ti22 : TI Tryz.prog 22 Tryz.t22 (.int .u32) := ⟨by kernel_rfl, by kernel_rfl⟩
instance ti23 : TI Tryz.prog 23 Tryz.t23 (.slice 22) := ⟨by kernel_rfl, by kernel_rfl⟩
instance ti25 : TI Tryz.prog 25 Tryz.t25 Tryz.t24.desc := ⟨by kernel_rfl, by kernel_rfl⟩
instance ti26 : TI Tryz.prog 26 Tryz.t26 (.slice 31) := ⟨by kernel_rfl, by kernel_rfl⟩
instance ti29 : TI Tryz.prog 29 Tryz.t29 (.slice 23) := ⟨by kernel_rfl, by kernel_rfl⟩
instance ti31 : TI Tryz.prog 31 Tryz.t31 Tryz.t30.desc := ⟨by kernel_rfl, by kernel_rfl⟩
instance ti35 : TI Tryz.prog 35 Tryz.t35 (.int .i64) := ⟨by kernel_rfl, by kernel_rfl⟩
instance ti42 : TI Tryz.prog 42 Tryz.t42 Tryz.t41.desc := ⟨by kernel_rfl, by kernel_rfl⟩
instance ti49 : TI Tryz.prog 49 Tryz.t49 (.slice 2) := ⟨by kernel_rfl, by kernel_rfl⟩
instance ti125 : TI Tryz.prog 125 Tryz.t125 (.pointer 25) := ⟨by kernel_rfl, by kernel_rfl⟩
instance ti135 : TI Tryz.prog 135 Tryz.t135 (.int .u64) := ⟨by kernel_rfl, by kernel_rfl⟩
instance ti136 : TI Tryz.prog 136 Tryz.t136 Tryz.t136.desc := ⟨by kernel_rfl, by kernel_rfl⟩
instance sz2 : SZ Tryz.prog 2 1 := SZ.of ti2 rfl
instance zr2 : ZR Tryz.prog 2 [.int .i64 0] := ZR.of ti2 rfl rfl rfl
instance sz3 : SZ Tryz.prog 3 1 := SZ.of ti3 rfl
instance zr3 : ZR Tryz.prog 3 [.int .i64 0] := ZR.of ti3 rfl rfl rfl
instance sz4 : SZ Tryz.prog 4 1 := SZ.of ti4 rfl
instance zr4 : ZR Tryz.prog 4 [.bool false] := ZR.of ti4 rfl rfl rfl
instance sz5 : SZ Tryz.prog 5 1 := SZ.of ti5 rfl
instance zr5 : ZR Tryz.prog 5 [.int .u8 0] := ZR.of ti5 rfl rfl rfl
instance sz22 : SZ Tryz.prog 22 1 := SZ.of ti22 rfl
instance zr22 : ZR Tryz.prog 22 [.int .u32 0] := ZR.of ti22 rfl rfl rfl
instance sz23 : SZ Tryz.prog 23 1 := SZ.of ti23 rfl
instance zr23 : ZR Tryz.prog 23 [.slice none 0 0] := ZR.of ti23 rfl rfl rfl
instance et23 : ET Tryz.prog 23 1 := ET.of ti23 ti22 rfl
instance sz25 : SZ Tryz.prog 25 7 := SZ.of ti25 rfl
instance zr25 : ZR Tryz.prog 25 [.int .i64 0, .int .u32 0, .int .i64 0, .slice none 0 0, .int .u32 0, .int .i64 0, .int .u32 0] := ZR.of ti25 rfl rfl rfl
instance bt25 : BT Tryz.prog 25 [(0, 1), (1, 1), (2, 1), (3, 1), (4, 1), (5, 1), (6, 1)] [.int .i64 0, .int .u32 0, .int .i64 0, .slice none 0 0, .int .u32 0, .int .i64 0, .int .u32 0] := BT.of (ns := [1, 1, 1, 1, 1, 1, 1]) ti25 rfl zr25.zr ⟨sz3.sz, ⟨sz22.sz, ⟨sz3.sz, ⟨sz23.sz, ⟨sz22.sz, ⟨sz3.sz, ⟨sz22.sz, trivial⟩⟩⟩⟩⟩⟩⟩ (by intro j; repeat (first | rfl | cases j with | zero => rfl | succ j => ?_))
instance ft25_0 : FT Tryz.prog 25 0 0 := FT.of ti25 rfl ti3 rfl rfl
instance fv25_0 : FV Tryz.prog 25 0 0 1 false := FV.one ti25 rfl ti3 rfl rfl
instance ft25_1 : FT Tryz.prog 25 1 1 := FT.of ti25 rfl ti22 rfl rfl
instance fv25_1 : FV Tryz.prog 25 1 1 1 false := FV.one ti25 rfl ti22 rfl rfl
instance ft25_2 : FT Tryz.prog 25 2 2 := FT.of ti25 rfl ti3 rfl rfl
instance fv25_2 : FV Tryz.prog 25 2 2 1 false := FV.one ti25 rfl ti3 rfl rfl
instance ft25_3 : FT Tryz.prog 25 3 3 := FT.of ti25 rfl ti23 rfl rfl
instance fv25_3 : FV Tryz.prog 25 3 3 1 false := FV.one ti25 rfl ti23 rfl rfl
instance ft25_4 : FT Tryz.prog 25 4 4 := FT.of ti25 rfl ti22 rfl rfl
instance fv25_4 : FV Tryz.prog 25 4 4 1 false := FV.one ti25 rfl ti22 rfl rfl
instance ft25_5 : FT Tryz.prog 25 5 5 := FT.of ti25 rfl ti3 rfl rfl
instance fv25_5 : FV Tryz.prog 25 5 5 1 false := FV.one ti25 rfl ti3 rfl rfl
instance ft25_6 : FT Tryz.prog 25 6 6 := FT.of ti25 rfl ti22 rfl rfl
instance fv25_6 : FV Tryz.prog 25 6 6 1 false := FV.one ti25 rfl ti22 rfl rfl
instance sz26 : SZ Tryz.prog 26 1 := SZ.of ti26 rfl
instance zr26 : ZR Tryz.prog 26 [.slice none 0 0] := ZR.of ti26 rfl rfl rfl
instance et26 : ET Tryz.prog 26 3 := ET.of ti26 ti31 rfl
instance sz29 : SZ Tryz.prog 29 1 := SZ.of ti29 rfl
instance zr29 : ZR Tryz.prog 29 [.slice none 0 0] := ZR.of ti29 rfl rfl rfl
instance et29 : ET Tryz.prog 29 1 := ET.of ti29 ti23 rfl
instance sz31 : SZ Tryz.prog 31 3 := SZ.of ti31 rfl
instance zr31 : ZR Tryz.prog 31 [.int .i64 0, .bool false, .slice none 0 0] := ZR.of ti31 rfl rfl rfl
instance bt31 : BT Tryz.prog 31 [(0, 1), (1, 1), (2, 1)] [.int .i64 0, .bool false, .slice none 0 0] := BT.of (ns := [1, 1, 1]) ti31 rfl zr31.zr ⟨sz3.sz, ⟨sz4.sz, ⟨sz29.sz, trivial⟩⟩⟩ (by intro j; repeat (first | rfl | cases j with | zero => rfl | succ j => ?_))
instance ft31_0 : FT Tryz.prog 31 0 0 := FT.of ti31 rfl ti3 rfl rfl
instance fv31_0 : FV Tryz.prog 31 0 0 1 false := FV.one ti31 rfl ti3 rfl rfl
instance ft31_1 : FT Tryz.prog 31 1 1 := FT.of ti31 rfl ti4 rfl rfl
instance fv31_1 : FV Tryz.prog 31 1 1 1 false := FV.one ti31 rfl ti4 rfl rfl
instance ft31_2 : FT Tryz.prog 31 2 2 := FT.of ti31 rfl ti29 rfl rfl
instance fv31_2 : FV Tryz.prog 31 2 2 1 false := FV.one ti31 rfl ti29 rfl rfl
instance sz35 : SZ Tryz.prog 35 1 := SZ.of ti35 rfl
instance zr35 : ZR Tryz.prog 35 [.int .i64 0] := ZR.of ti35 rfl rfl rfl
instance sz42 : SZ Tryz.prog 42 3 := SZ.of ti42 rfl
instance zr42 : ZR Tryz.prog 42 [.int .i64 0, .int .i64 0, .slice none 0 0] := ZR.of ti42 rfl rfl rfl
instance bt42 : BT Tryz.prog 42 [(0, 1), (1, 1), (2, 1)] [.int .i64 0, .int .i64 0, .slice none 0 0] := BT.of (ns := [1, 1, 1]) ti42 rfl zr42.zr ⟨sz3.sz, ⟨sz3.sz, ⟨sz26.sz, trivial⟩⟩⟩ (by intro j; repeat (first | rfl | cases j with | zero => rfl | succ j => ?_))
instance ft42_0 : FT Tryz.prog 42 0 0 := FT.of ti42 rfl ti3 rfl rfl
instance fv42_0 : FV Tryz.prog 42 0 0 1 false := FV.one ti42 rfl ti3 rfl rfl
instance ft42_1 : FT Tryz.prog 42 1 1 := FT.of ti42 rfl ti3 rfl rfl
instance fv42_1 : FV Tryz.prog 42 1 1 1 false := FV.one ti42 rfl ti3 rfl rfl
instance ft42_2 : FT Tryz.prog 42 2 2 := FT.of ti42 rfl ti26 rfl rfl
instance fv42_2 : FV Tryz.prog 42 2 2 1 false := FV.one ti42 rfl ti26 rfl rfl
instance sz49 : SZ Tryz.prog 49 1 := SZ.of ti49 rfl
instance zr49 : ZR Tryz.prog 49 [.slice none 0 0] := ZR.of ti49 rfl rfl rfl
instance et49 : ET Tryz.prog 49 1 := ET.of ti49 ti2 rfl
instance sz125 : SZ Tryz.prog 125 1 := SZ.of ti125 rfl
instance zr125 : ZR Tryz.prog 125 [.pointer none] := ZR.of ti125 rfl rfl rfl
instance sz135 : SZ Tryz.prog 135 1 := SZ.of ti135 rfl
instance zr135 : ZR Tryz.prog 135 [.int .u64 0] := ZR.of ti135 rfl rfl rfl
instance sz136 : SZ Tryz.prog 136 1 := SZ.of ti136 rfl
instance zr136 : ZR Tryz.prog 136 [.nilFunc] := ZR.of ti136 rfl rfl rfl
instance fi186 : FI Tryz.prog 186 Tryz.f186 := ⟨Tryz.func186, Tryz.call186⟩
instance fi139 : FI Tryz.prog 139 Tryz.f139 := ⟨Tryz.func139, Tryz.call139⟩
instance fi140 : FI Tryz.prog 140 Tryz.f140 := ⟨Tryz.func140, Tryz.call140⟩
instance fi188 : FI Tryz.prog 188 Tryz.f188 := ⟨Tryz.func188, Tryz.call188⟩
instance fi144 : FI Tryz.prog 144 Tryz.f144 := ⟨Tryz.func144, Tryz.call144⟩
instance fi49 : FI Tryz.prog 49 Tryz.f49 := ⟨Tryz.func49, Tryz.call49⟩
instance fi141 : FI Tryz.prog 141 Tryz.f141 := ⟨Tryz.func141, Tryz.call141⟩
instance fi138 : FI Tryz.prog 138 Tryz.f138 := ⟨Tryz.func138, Tryz.call138⟩
instance fi180 : FI Tryz.prog 180 Tryz.f180 := ⟨Tryz.func180, Tryz.call180⟩
instance fi118 : FI Tryz.prog 118 Tryz.f118 := ⟨Tryz.func118, Tryz.call118⟩
instance fi106 : FI Tryz.prog 106 Tryz.f106 := ⟨Tryz.func106, Tryz.call106⟩
instance fi172 : FI Tryz.prog 172 Tryz.f172 := ⟨Tryz.func172, Tryz.call172⟩
instance fi76 : FI Tryz.prog 76 Tryz.f76 := ⟨Tryz.func76, Tryz.call76⟩
instance fi162 : FI Tryz.prog 162 Tryz.f162 := ⟨Tryz.func162, Tryz.call162⟩
instance fi115 : FI Tryz.prog 115 Tryz.f115 := ⟨Tryz.func115, Tryz.call115⟩
instance fi179 : FI Tryz.prog 179 Tryz.f179 := ⟨Tryz.func179, Tryz.call179⟩
instance fi113 : FI Tryz.prog 113 Tryz.f113 := ⟨Tryz.func113, Tryz.call113⟩
instance fi178 : FI Tryz.prog 178 Tryz.f178 := ⟨Tryz.func178, Tryz.call178⟩
instance fi51 : FI Tryz.prog 51 Tryz.f51 := ⟨Tryz.func51, Tryz.call51⟩
instance fi145 : FI Tryz.prog 145 Tryz.f145 := ⟨Tryz.func145, Tryz.call145⟩
instance fi109 : FI Tryz.prog 109 Tryz.f109 := ⟨Tryz.func109, Tryz.call109⟩
instance fi176 : FI Tryz.prog 176 Tryz.f176 := ⟨Tryz.func176, Tryz.call176⟩
instance fi161 : FI Tryz.prog 161 Tryz.f161 := ⟨Tryz.func161, Tryz.call161⟩
instance fi187 : FI Tryz.prog 187 Tryz.f187 := ⟨Tryz.func187, Tryz.call187⟩
instance fi211 : FI Tryz.prog 211 Tryz.f211 := ⟨Tryz.func211, Tryz.call211⟩
instance fi132 : FI Tryz.prog 132 Tryz.f132 := ⟨Tryz.func132, Tryz.call132⟩
instance fi183 : FI Tryz.prog 183 Tryz.f183 := ⟨Tryz.func183, Tryz.call183⟩
end Go.Proofs.YtefoddjclngckaaGreat
