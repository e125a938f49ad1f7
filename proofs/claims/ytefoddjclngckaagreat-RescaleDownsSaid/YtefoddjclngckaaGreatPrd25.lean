/- The types and functions of this program, as the driver looks them up. No walk.
Rows of rows, by lists: frozen, said otherwise, as results. No walk.
Arguments that were written out. No walk. -/
import Derived.Test.YtefoddjclngckaaGreatPrd24
set_option linter.unusedSimpArgs false
set_option linter.unusedVariables false
set_option linter.unnecessarySimpa false
namespace Go.Proofs.YtefoddjclngckaaGreat
open Go.RowKit
section
variable {P : Program} {t s el : TypeId} {i i' : TypeInfo} {e e' : TypeDesc}
theorem SZ.of {n : Nat} (h : TI P t i e) (hn : i.size = n) : SZ P t n := ⟨hn ▸ SizeIs.mk⟩
theorem ZR.of {z : Value} {zs : List Value} (h : TI P t i e) (hz : i.zero = some z) (hc : z.cells = zs.toArray) (h1 : (zs.all fun z => z.oneCell') = true) : ZR P t zs := by
  have := ZeroIs.mk (P := P) (t := t) hz (by rw [hc]; exact h1)
  rw [hc] at this
  exact ⟨this⟩
theorem FT.of {fs : Array Field} {fl : Field} {k off : Nat} (h : TI P s i (.struct fs)) (hf : fs[k]? = some fl) (h' : TI P fl.type i' e') (ho : fl.offset = off) (h0 : (i'.size == 0) = false) : FT P s k off := ⟨ho ▸ FieldIs.mk hf h0⟩
theorem FV.one {fs : Array Field} {fl : Field} {k off : Nat} (h : TI P s i (.struct fs)) (hf : fs[k]? = some fl) (h' : TI P fl.type i' e') (ho : fl.offset = off) (ha : isAggD e' = false) : FV P s k off 1 false := ⟨_, _, _, h, hf, ho, pt_one ha⟩
theorem FV.agg {fs : Array Field} {fl : Field} {k off n : Nat} (h : TI P s i (.struct fs)) (hf : fs[k]? = some fl) (h' : TI P fl.type i' e') (ho : fl.offset = off) (ha : isAggD e' = true) (hn : i'.size = n) : FV P s k off n true := ⟨_, _, _, h, hf, ho, hn ▸ pt_agg ha⟩
theorem ET.of {m : Nat} (h : TI P t i (.slice el)) (h' : TI P el i' e') (hm : i'.size = m) : ET P t m := ⟨hm ▸ IndexIs.mk⟩
theorem AR.of {n m : Nat} (h : TI P t i (.array n el)) (h' : TI P el i' e') (hm : i'.size = m) : AR P t n m := ⟨hm ▸ IndexArr.mk⟩
end
instance mixP : Mix Tryz.prog := ⟨by kernel_rfl⟩
instance ti2 : TI Tryz.prog 2 Tryz.t2 (.int .i64) := ⟨by kernel_rfl, by kernel_rfl⟩
instance ti3 : TI Tryz.prog 3 Tryz.t3 (.int .i64) := ⟨by kernel_rfl, by kernel_rfl⟩
instance ti4 : TI Tryz.prog 4 Tryz.t4 (.bool ) := ⟨by kernel_rfl, by kernel_rfl⟩
instance ti5 : TI Tryz.prog 5 Tryz.t5 (.int .u8) := ⟨by kernel_rfl, by kernel_rfl⟩
instance ti22 : TI Tryz.prog 22 Tryz.t22 (.int .u32) := ⟨by kernel_rfl, by kernel_rfl⟩
instance ti23 : TI Tryz.prog 23 Tryz.t23 (.slice 22) := ⟨by kernel_rfl, by kernel_rfl⟩
instance ti25 : TI Tryz.prog 25 Tryz.t25 Tryz.t24.desc := ⟨by kernel_rfl, by kernel_rfl⟩
instance ti26 : TI Tryz.prog 26 Tryz.t26 (.slice 31) := ⟨by kernel_rfl, by kernel_rfl⟩
instance ti29 : TI Tryz.prog 29 Tryz.t29 (.slice 23) := ⟨by kernel_rfl, by kernel_rfl⟩
instance ti31 : TI Tryz.prog 31 Tryz.t31 Tryz.t30.desc := ⟨by kernel_rfl, by kernel_rfl⟩
instance ti35 : TI Tryz.prog 35 Tryz.t35 (.int .i64) := ⟨by kernel_rfl, by kernel_rfl⟩
instance ti42 : TI Tryz.prog 42 Tryz.t42 Tryz.t41.desc := ⟨by kernel_rfl, by kernel_rfl⟩
instance ti49 : TI Tryz.prog 49 Tryz.t49 (.slice 2) := ⟨by kernel_rfl, by kernel_rfl⟩
instance ti125 : TI Tryz.prog 125 Tryz.t125 (.pointer 25) := ⟨by kernel_rfl, by kernel_rfl⟩
instance ti135 : TI Tryz.prog 135 Tryz.t135 (.int .u64) := ⟨by kernel_rfl, by kernel_rfl⟩
instance ti136 : TI Tryz.prog 136 Tryz.t136 Tryz.t136.desc := ⟨by kernel_rfl, by kernel_rfl⟩
instance sz2 : SZ Tryz.prog 2 1 := SZ.of ti2 rfl
instance zr2 : ZR Tryz.prog 2 [.int .i64 0] := ZR.of ti2 rfl rfl rfl
instance sz3 : SZ Tryz.prog 3 1 := SZ.of ti3 rfl
instance zr3 : ZR Tryz.prog 3 [.int .i64 0] := ZR.of ti3 rfl rfl rfl
instance sz4 : SZ Tryz.prog 4 1 := SZ.of ti4 rfl
instance zr4 : ZR Tryz.prog 4 [.bool false] := ZR.of ti4 rfl rfl rfl
instance sz5 : SZ Tryz.prog 5 1 := SZ.of ti5 rfl
instance zr5 : ZR Tryz.prog 5 [.int .u8 0] := ZR.of ti5 rfl rfl rfl
instance sz22 : SZ Tryz.prog 22 1 := SZ.of ti22 rfl
instance zr22 : ZR Tryz.prog 22 [.int .u32 0] := ZR.of ti22 rfl rfl rfl
instance sz23 : SZ Tryz.prog 23 1 := SZ.of ti23 rfl
instance zr23 : ZR Tryz.prog 23 [.slice none 0 0] := ZR.of ti23 rfl rfl rfl
instance et23 : ET Tryz.prog 23 1 := ET.of ti23 ti22 rfl
instance sz25 : SZ Tryz.prog 25 7 := SZ.of ti25 rfl
instance zr25 : ZR Tryz.prog 25 [.int .i64 0, .int .u32 0, .int .i64 0, .slice none 0 0, .int .u32 0, .int .i64 0, .int .u32 0] := ZR.of ti25 rfl rfl rfl
instance bt25 : BT Tryz.prog 25 [(0, 1), (1, 1), (2, 1), (3, 1), (4, 1), (5, 1), (6, 1)] [.int .i64 0, .int .u32 0, .int .i64 0, .slice none 0 0, .int .u32 0, .int .i64 0, .int .u32 0] := BT.of (ns := [1, 1, 1, 1, 1, 1, 1]) ti25 rfl zr25.zr ⟨sz3.sz, ⟨sz22.sz, ⟨sz3.sz, ⟨sz23.sz, ⟨sz22.sz, ⟨sz3.sz, ⟨sz22.sz, trivial⟩⟩⟩⟩⟩⟩⟩ (by intro j; repeat (first | rfl | cases j with | zero => rfl | succ j => ?_))
instance ft25_0 : FT Tryz.prog 25 0 0 := FT.of ti25 rfl ti3 rfl rfl
instance fv25_0 : FV Tryz.prog 25 0 0 1 false := FV.one ti25 rfl ti3 rfl rfl
instance ft25_1 : FT Tryz.prog 25 1 1 := FT.of ti25 rfl ti22 rfl rfl
instance fv25_1 : FV Tryz.prog 25 1 1 1 false := FV.one ti25 rfl ti22 rfl rfl
instance ft25_2 : FT Tryz.prog 25 2 2 := FT.of ti25 rfl ti3 rfl rfl
instance fv25_2 : FV Tryz.prog 25 2 2 1 false := FV.one ti25 rfl ti3 rfl rfl
instance ft25_3 : FT Tryz.prog 25 3 3 := FT.of ti25 rfl ti23 rfl rfl
instance fv25_3 : FV Tryz.prog 25 3 3 1 false := FV.one ti25 rfl ti23 rfl rfl
instance ft25_4 : FT Tryz.prog 25 4 4 := FT.of ti25 rfl ti22 rfl rfl
instance fv25_4 : FV Tryz.prog 25 4 4 1 false := FV.one ti25 rfl ti22 rfl rfl
instance ft25_5 : FT Tryz.prog 25 5 5 := FT.of ti25 rfl ti3 rfl rfl
instance fv25_5 : FV Tryz.prog 25 5 5 1 false := FV.one ti25 rfl ti3 rfl rfl
instance ft25_6 : FT Tryz.prog 25 6 6 := FT.of ti25 rfl ti22 rfl rfl
instance fv25_6 : FV Tryz.prog 25 6 6 1 false := FV.one ti25 rfl ti22 rfl rfl
instance sz26 : SZ Tryz.prog 26 1 := SZ.of ti26 rfl
instance zr26 : ZR Tryz.prog 26 [.slice none 0 0] := ZR.of ti26 rfl rfl rfl
instance et26 : ET Tryz.prog 26 3 := ET.of ti26 ti31 rfl
instance sz29 : SZ Tryz.prog 29 1 := SZ.of ti29 rfl
instance zr29 : ZR Tryz.prog 29 [.slice none 0 0] := ZR.of ti29 rfl rfl rfl
instance et29 : ET Tryz.prog 29 1 := ET.of ti29 ti23 rfl
instance sz31 : SZ Tryz.prog 31 3 := SZ.of ti31 rfl
instance zr31 : ZR Tryz.prog 31 [.int .i64 0, .bool false, .slice none 0 0] := ZR.of ti31 rfl rfl rfl
instance bt31 : BT Tryz.prog 31 [(0, 1), (1, 1), (2, 1)] [.int .i64 0, .bool false, .slice none 0 0] := BT.of (ns := [1, 1, 1]) ti31 rfl zr31.zr ⟨sz3.sz, ⟨sz4.sz, ⟨sz29.sz, trivial⟩⟩⟩ (by intro j; repeat (first | rfl | cases j with | zero => rfl | succ j => ?_))
instance ft31_0 : FT Tryz.prog 31 0 0 := FT.of ti31 rfl ti3 rfl rfl
instance fv31_0 : FV Tryz.prog 31 0 0 1 false := FV.one ti31 rfl ti3 rfl rfl
instance ft31_1 : FT Tryz.prog 31 1 1 := FT.of ti31 rfl ti4 rfl rfl
instance fv31_1 : FV Tryz.prog 31 1 1 1 false := FV.one ti31 rfl ti4 rfl rfl
instance ft31_2 : FT Tryz.prog 31 2 2 := FT.of ti31 rfl ti29 rfl rfl
instance fv31_2 : FV Tryz.prog 31 2 2 1 false := FV.one ti31 rfl ti29 rfl rfl
instance sz35 : SZ Tryz.prog 35 1 := SZ.of ti35 rfl
instance zr35 : ZR Tryz.prog 35 [.int .i64 0] := ZR.of ti35 rfl rfl rfl
instance sz42 : SZ Tryz.prog 42 3 := SZ.of ti42 rfl
instance zr42 : ZR Tryz.prog 42 [.int .i64 0, .int .i64 0, .slice none 0 0] := ZR.of ti42 rfl rfl rfl
instance bt42 : BT Tryz.prog 42 [(0, 1), (1, 1), (2, 1)] [.int .i64 0, .int .i64 0, .slice none 0 0] := BT.of (ns := [1, 1, 1]) ti42 rfl zr42.zr ⟨sz3.sz, ⟨sz3.sz, ⟨sz26.sz, trivial⟩⟩⟩ (by intro j; repeat (first | rfl | cases j with | zero => rfl | succ j => ?_))
instance ft42_0 : FT Tryz.prog 42 0 0 := FT.of ti42 rfl ti3 rfl rfl
instance fv42_0 : FV Tryz.prog 42 0 0 1 false := FV.one ti42 rfl ti3 rfl rfl
instance ft42_1 : FT Tryz.prog 42 1 1 := FT.of ti42 rfl ti3 rfl rfl
instance fv42_1 : FV Tryz.prog 42 1 1 1 false := FV.one ti42 rfl ti3 rfl rfl
instance ft42_2 : FT Tryz.prog 42 2 2 := FT.of ti42 rfl ti26 rfl rfl
instance fv42_2 : FV Tryz.prog 42 2 2 1 false := FV.one ti42 rfl ti26 rfl rfl
instance sz49 : SZ Tryz.prog 49 1 := SZ.of ti49 rfl
instance zr49 : ZR Tryz.prog 49 [.slice none 0 0] := ZR.of ti49 rfl rfl rfl
instance et49 : ET Tryz.prog 49 1 := ET.of ti49 ti2 rfl
instance sz125 : SZ Tryz.prog 125 1 := SZ.of ti125 rfl
instance zr125 : ZR Tryz.prog 125 [.pointer none] := ZR.of ti125 rfl rfl rfl
instance sz135 : SZ Tryz.prog 135 1 := SZ.of ti135 rfl
instance zr135 : ZR Tryz.prog 135 [.int .u64 0] := ZR.of ti135 rfl rfl rfl
instance sz136 : SZ Tryz.prog 136 1 := SZ.of ti136 rfl
instance zr136 : ZR Tryz.prog 136 [.nilFunc] := ZR.of ti136 rfl rfl rfl
instance fi186 : FI Tryz.prog 186 Tryz.f186 := ⟨Tryz.func186, Tryz.call186⟩
instance fi139 : FI Tryz.prog 139 Tryz.f139 := ⟨Tryz.func139, Tryz.call139⟩
instance fi140 : FI Tryz.prog 140 Tryz.f140 := ⟨Tryz.func140, Tryz.call140⟩
instance fi188 : FI Tryz.prog 188 Tryz.f188 := ⟨Tryz.func188, Tryz.call188⟩
instance fi144 : FI Tryz.prog 144 Tryz.f144 := ⟨Tryz.func144, Tryz.call144⟩
instance fi49 : FI Tryz.prog 49 Tryz.f49 := ⟨Tryz.func49, Tryz.call49⟩
instance fi141 : FI Tryz.prog 141 Tryz.f141 := ⟨Tryz.func141, Tryz.call141⟩
instance fi138 : FI Tryz.prog 138 Tryz.f138 := ⟨Tryz.func138, Tryz.call138⟩
instance fi180 : FI Tryz.prog 180 Tryz.f180 := ⟨Tryz.func180, Tryz.call180⟩
instance fi118 : FI Tryz.prog 118 Tryz.f118 := ⟨Tryz.func118, Tryz.call118⟩
instance fi106 : FI Tryz.prog 106 Tryz.f106 := ⟨Tryz.func106, Tryz.call106⟩
instance fi172 : FI Tryz.prog 172 Tryz.f172 := ⟨Tryz.func172, Tryz.call172⟩
instance fi76 : FI Tryz.prog 76 Tryz.f76 := ⟨Tryz.func76, Tryz.call76⟩
instance fi162 : FI Tryz.prog 162 Tryz.f162 := ⟨Tryz.func162, Tryz.call162⟩
instance fi115 : FI Tryz.prog 115 Tryz.f115 := ⟨Tryz.func115, Tryz.call115⟩
instance fi179 : FI Tryz.prog 179 Tryz.f179 := ⟨Tryz.func179, Tryz.call179⟩
instance fi113 : FI Tryz.prog 113 Tryz.f113 := ⟨Tryz.func113, Tryz.call113⟩
instance fi178 : FI Tryz.prog 178 Tryz.f178 := ⟨Tryz.func178, Tryz.call178⟩
instance fi51 : FI Tryz.prog 51 Tryz.f51 := ⟨Tryz.func51, Tryz.call51⟩
instance fi145 : FI Tryz.prog 145 Tryz.f145 := ⟨Tryz.func145, Tryz.call145⟩
instance fi109 : FI Tryz.prog 109 Tryz.f109 := ⟨Tryz.func109, Tryz.call109⟩
instance fi176 : FI Tryz.prog 176 Tryz.f176 := ⟨Tryz.func176, Tryz.call176⟩
instance fi161 : FI Tryz.prog 161 Tryz.f161 := ⟨Tryz.func161, Tryz.call161⟩
instance fi187 : FI Tryz.prog 187 Tryz.f187 := ⟨Tryz.func187, Tryz.call187⟩
instance fi211 : FI Tryz.prog 211 Tryz.f211 := ⟨Tryz.func211, Tryz.call211⟩
instance fi132 : FI Tryz.prog 132 Tryz.f132 := ⟨Tryz.func132, Tryz.call132⟩
instance fi183 : FI Tryz.prog 183 Tryz.f183 := ⟨Tryz.func183, Tryz.call183⟩
end Go.Proofs.YtefoddjclngckaaGreat

namespace Go.Proofs.YtefoddjclngckaaGreat
open Go.RowKit
set_option maxRecDepth 20000
section
variable {ro : Option Nat} {P : Program} {N : Nat} {Q : Post} {c : Code} {env : List (Nat × D)} {box : List (Nat × Option Box)} {fn : Func} {r : D} {hs rs : Hs} {E2 : Nat → D} {H2 : Nat → Option Box}
theorem c_freezeM (k : Nat) {t t2 : TypeId} {nb n m2 n2 : Nat} {g : Nat → Nat → List D} (h : AWp ro P N c (lk env) (hk ((k, some (.ice t n 1 (fun e => [.fz false n2 m2 (g e)]))) :: box)) Q) (hb : Bl box k (.mat t t2 nb n m2 n2 g) := by (repeat (first | exact Bl.here | apply Bl.there rfl))) (h100 : Nat.ble 1000 k = true := by rfl) : AWp ro P N c (lk env) (hk box) Q := awp_sub (sub_freezeM k hb.eq h100) h
theorem fin_freezeM (k : Nat) {t t2 : TypeId} {nb n m2 n2 : Nat} {g : Nat → Nat → List D} (h : FinS P fn r hs rs (lk env) (hk ((k, some (.ice t n 1 (fun e => [.fz false n2 m2 (g e)]))) :: box))) (hb : Bl box k (.mat t t2 nb n m2 n2 g) := by (repeat (first | exact Bl.here | apply Bl.there rfl))) (h100 : Nat.ble 1000 k = true := by rfl) : FinS P fn r hs rs (lk env) (hk box) := h.sub (sub_freezeM k hb.eq h100)
/-- The rows, said otherwise. -/
theorem sub_mat (k : Nat) (g' : Nat → Nat → List D) {t t2 : TypeId} {nb n m2 n2 : Nat} {g : Nat → Nat → List D} (he : ∀ e x, e < n → x < n2 → g e x = g' e x) (hl : ∀ e x, (g' e x).length = m2) (h : Sub (lk env) (hk ((k, some (.mat t t2 nb n m2 n2 g')) :: box)) E2 H2) (hb : Bl box k (.mat t t2 nb n m2 n2 g) := by (repeat (first | exact Bl.here | apply Bl.there rfl))) : Sub (lk env) (hk box) E2 H2 :=
  Sub.trans (sub_box k _ (by rw [hb.eq]; exact .mat (fun e he' x hx => ⟨hl e x, fun c hc => by rw [he e x he' hx]; exact inferInstance⟩)) rfl) h
theorem c_mat (k : Nat) (g' : Nat → Nat → List D) {t t2 : TypeId} {nb n m2 n2 : Nat} {g : Nat → Nat → List D} (he : ∀ e x, e < n → x < n2 → g e x = g' e x) (hl : ∀ e x, (g' e x).length = m2) (h : AWp ro P N c (lk env) (hk ((k, some (.mat t t2 nb n m2 n2 g')) :: box)) Q) (hb : Bl box k (.mat t t2 nb n m2 n2 g) := by (repeat (first | exact Bl.here | apply Bl.there rfl))) : AWp ro P N c (lk env) (hk box) Q := awp_sub (sub_mat k g' he hl (Sub.refl _ _) hb) h
theorem fin_mat (k : Nat) (g' : Nat → Nat → List D) {t t2 : TypeId} {nb n m2 n2 : Nat} {g : Nat → Nat → List D} (he : ∀ e x, e < n → x < n2 → g e x = g' e x) (hl : ∀ e x, (g' e x).length = m2) (h : FinS P fn r hs rs (lk env) (hk ((k, some (.mat t t2 nb n m2 n2 g')) :: box))) (hb : Bl box k (.mat t t2 nb n m2 n2 g) := by (repeat (first | exact Bl.here | apply Bl.there rfl))) : FinS P fn r hs rs (lk env) (hk box) := h.sub (sub_mat k g' he hl (Sub.refl _ _) hb)
theorem putG_at {n e : Nat} {g : Nat → Nat → List D} {f : Nat → List D} (h : e < n) : putG n g f e = g e := by unfold putG; rw [show Nat.blt e n = true by simpa using h]
theorem putG_new {n : Nat} {g : Nat → Nat → List D} {f : Nat → List D} : putG n g f n = f := by unfold putG; rw [blt_self]
/-- Rows that came in as they should. -/
theorem putG_snoc {n n2 : Nat} {g : Nat → Nat → List D} {f : Nat → List D} (h : ∀ x, x < n2 → f x = g n x) : ∀ e x, e < n + 1 → x < n2 → putG n g f e x = g e x := fun e x he hx => by
  by_cases q : e = n
  · subst q; rw [putG_new]; exact h x hx
  · rw [putG_at (by omega)]
theorem setG_at {e e' : Nat} {g : Nat → Nat → List D} {f : Nat → List D} : setG g e f e' = if e' = e then f else g e' := rfl
/-- A nil slice in a variable gets a name: no rows. -/
theorem c_nilcellM (kb cc k : Nat) (tt t2 : TypeId) (m2 n2 : Nat) (g : Nat → Nat → List D) {tb : TypeId} {ds ds' : List D} (h : AWp ro P N c (lk env) (hk ((kb, some (.lit tb ds')) :: (k, some (.mat tt t2 0 0 m2 n2 g)) :: box)) Q) (hl : Bl box kb (.lit tb ds) := by (repeat (first | exact Bl.here | apply Bl.there rfl))) (hds : At ds cc (.val (.slice none 0 0)) := by (repeat (first | exact At.here | apply At.there))) (hp : PutL ds cc [.sl k 1 0] ds' := by (repeat (first | exact PutL.nil | apply PutL.cons | apply PutL.skip))) (hb : hk box k = none := by rfl) (h100 : Nat.ble 1000 k = true := by rfl) : AWp ro P N c (lk env) (hk box) Q :=
  awp_sub (sub_nilcellB kb cc k 1 _ (.inr ⟨_, _, _, _, _, rfl⟩) hl.eq hds.spec.2 hp.set.1 (blt_of hds.spec.1) hb h100) h
theorem c_nilM (t k : Nat) (tt t2 : TypeId) (m2 n2 : Nat) (g : Nat → Nat → List D) (h : AWp ro P N c (lk ((t, .sl k 1 0) :: env)) (hk ((k, some (.mat tt t2 0 0 m2 n2 g)) :: box)) Q) (ht : Lk env t (.val (.slice none 0 0)) := by (repeat (first | exact Lk.here | apply Lk.there rfl))) (hb : hk box k = none := by rfl) (h100 : Nat.ble 1000 k = true := by rfl) : AWp ro P N c (lk env) (hk box) Q := awp_sub (sub_nilB t k 1 _ (.inr ⟨_, _, _, _, _, rfl⟩) ht.eq hb h100) h
end
/-- Cells in a row are frozen, as elements. -/
theorem sub_frzN {env : List (Nat × D)} {box : List (Nat × Option Box)} (k n m : Nat) (f : Nat → List D) {t : TypeId} {l : List D} (hll : l.length = n * m) (hf : ∀ e, e < n → (f e).length = m ∧ ∀ c, c < m → dl (f e) c = dl l (e * m + c)) (hb : hk box k = some (.lit t l)) (h100 : Nat.ble 1000 k = true) (hfr : D.free.freeL (fun _ => false) l = true) : Sub (lk env) (hk box) (lk env) (hk ((k, some (.ice t n m f)) :: box)) := fun S a w hR => by
  obtain ⟨Z, i, hF⟩ := hR
  replace h100 := Nat.le_of_ble_eq_true h100
  have hs : ∀ x, hk ((k, some (.ice t n m f)) :: box) x = if k = x then some (.ice t n m f) else hk box x := fun x => by
    simp only [hk]
    by_cases q : k = x
    · subst q; simp
    · rw [beq_ne q, if_neg q]
  rcases hF.box k _ hb with ⟨b, cap, e1, e2, e3, _, e5⟩ | ⟨e1, e2⟩
  · have hbn : S.w0.heap.size ≤ b := by rcases e2 with e2 | ⟨e2, _⟩; exact e2; omega
    obtain ⟨cs, f1, f2, f3⟩ := e5
    refine ⟨fun o x => Z o x ∨ x = b, i, ?_⟩
    refine hF.step (fun x => x = k) ⟨rfl, rfl, rfl, Nat.le_refl _⟩ (fun _ _ _ => rfl) (fun _ _ => rfl) (fun x hx => by rw [hs]; exact if_neg (Ne.symm hx)) (fun x hx e => ?_) (fun x hx e => hF.nil x e) (fun x _ e => hF.nil x e) (fun o b hb => .inl hb) (fun x hx => ?_) (fun x hx => ?_) (fun x B hx hB => ?_) (fun x B b1 hx hB hm _ => by rw [hs, if_pos hx.symm] at hB; cases hB; cases hm) (fun x x' B B' b1 hx hx' _ _ _ _ _ _ => hx.trans hx'.symm)
    · rw [hs, if_pos hx.symm] at e; cases e
    · rcases hx with hx | rfl
      · exact .inl hx
      · exact .inr ⟨f1.lt, hbn, .inr ⟨k, _, rfl, hb, rfl, .root e1⟩, fun y B hy hB hm _ => by rw [hs, if_pos hy.symm] at hB; cases hB; cases hm⟩
    · rcases hx with hx | rfl
      · exact ⟨.inl (hF.zsub x hx), hF.zNew x hx⟩
      · exact ⟨.inr rfl, hbn⟩
    · rw [hs, if_pos hx.symm] at hB; cases hB
      subst hx
      refine .inl ⟨b, cap, e1, e2, fun h => (by cases h), fun _ => .inr rfl, n, cs, f1, f2.trans hll, Nat.le_refl _, fun e he => (hf e he).1, fun e c he hc => ?_⟩
      have hlt : e * m + c < l.length := by
        have : (e + 1) * m ≤ n * m := Nat.mul_le_mul_right _ (by omega)
        rw [Nat.add_mul] at this; omega
      rw [(hf e he).2 c hc]
      exact ⟨(f3 _ hlt).1, ((f3 _ hlt).2.nm (i' := noN) (freeL_at hfr _ hlt) (fun k x hk => by cases hk)).mem (fun o y hy => ⟨.inl hy, rfl⟩)⟩
  · rcases e2 with e2 | ⟨t', m', f2, e2 | e2⟩ | ⟨_, _, _, _, _, e2⟩ <;> cases e2
section
variable {ro : Option Nat} {P : Program} {N : Nat} {Q : Post} {c : Code} {env : List (Nat × D)} {box : List (Nat × Option Box)} {fn : Func} {r : D} {hs rs : Hs}
theorem fin_frzN (k n m : Nat) (f : Nat → List D) {t : TypeId} {l : List D} (hll : l.length = n * m) (hf : ∀ e, e < n → (f e).length = m ∧ ∀ c, c < m → dl (f e) c = dl l (e * m + c)) (h : FinS P fn r hs rs (lk env) (hk ((k, some (.ice t n m f)) :: box))) (hb : Bl box k (.lit t l) := by (repeat (first | exact Bl.here | apply Bl.there rfl))) (h100 : Nat.ble 1000 k = true := by rfl) (hfr : D.free.freeL (fun _ => false) l = true := by rfl) : FinS P fn r hs rs (lk env) (hk box) := h.sub (sub_frzN k n m f hll hf hb.eq h100 hfr)
theorem c_frzN (k n m : Nat) (f : Nat → List D) {t : TypeId} {l : List D} (hll : l.length = n * m) (hf : ∀ e, e < n → (f e).length = m ∧ ∀ c, c < m → dl (f e) c = dl l (e * m + c)) (h : AWp ro P N c (lk env) (hk ((k, some (.ice t n m f)) :: box)) Q) (hb : Bl box k (.lit t l) := by (repeat (first | exact Bl.here | apply Bl.there rfl))) (h100 : Nat.ble 1000 k = true := by rfl) (hfr : D.free.freeL (fun _ => false) l = true := by rfl) : AWp ro P N c (lk env) (hk box) Q := awp_sub (sub_frzN k n m f hll hf hb.eq h100 hfr) h
/-- A variable's cells, said otherwise. -/
theorem fin_lit (k : Nat) {t : TypeId} {l : List D} (l' : List D) (hc : SlotCvL (hk box) l l') (h : FinS P fn r hs rs (lk env) (hk ((k, some (.lit t l')) :: box))) (hf : (Box.lit t l').free (fun k => (hk box k).isSome) = true := by kernel_rfl) (hb : Bl box k (.lit t l) := by (repeat (first | exact Bl.here | apply Bl.there rfl))) : FinS P fn r hs rs (lk env) (hk box) := h.sub (sub_box k _ (by rw [hb.eq]; exact BoxCv.lit hc) hf)
end
/-- Boxes that are results: they may name each other. -/
inductive BoxAllN (ks : List Nat) (box : List (Nat × Option Box)) : Hs → Prop where
  | nil : BoxAllN ks box []
  | cons {k : Nat} {B : Box} {hs : Hs} (h : Bl box k B) (hm : B.mut = true) (hf : B.free (fun x => memB x ks) = true) (r : BoxAllN ks box hs) : BoxAllN ks box ((k, B) :: hs)
theorem BoxAllN.at {ks : List Nat} {box : List (Nat × Option Box)} {hs : Hs} (h : BoxAllN ks box hs) : ∀ k B, (k, B) ∈ hs → hk box k = some B ∧ B.mut = true ∧ B.free (fun x => memB x ks) = true := by
  induction h with
  | nil => intro k B h; cases h
  | cons h hm hf _ ih =>
    intro k B hkB
    rcases List.mem_cons.1 hkB with e | e
    · cases e; exact ⟨h.eq, hm, hf⟩
    · exact ih k B e
/-- TO THE RESULT: boxes of the call's own. -/
theorem finN {P : Program} {env : List (Nat × D)} {box : List (Nat × Option Box)} {fn : Func} {r : D} {ds : List D} {rs : Hs}
    (hr : Res1 P env box fn.results.toList ds := by (repeat (first | exact Res1.nil | (apply Res1.tmp; (focus ((repeat (first | exact Lk.here | apply Lk.there rfl)); done))) | (apply Res1.one; (focus ((repeat (first | exact Lk.here | apply Lk.there rfl)); done)); (focus (rfl)); (focus ((repeat (first | exact Bl.here | apply Bl.there rfl)); done)); (focus (rfl)); (focus ((repeat (first | exact At.here | apply At.there)); done))) | (apply Res1.agg; (focus ((repeat (first | exact Lk.here | apply Lk.there rfl)); done)); (focus (rfl)); (focus ((repeat (first | exact Bl.here | apply Bl.there rfl)); done)); (focus (rfl)); (focus ((repeat (first | exact Sg.nil | apply Sg.take | apply Sg.drop)); done))))))
    (hd : resD ds = r := by rfl) (hf : r.free (fun k => memB k rs.keys) = true := by rfl) (hb : BoxAllN rs.keys box rs := by (repeat (first | exact BoxAllN.nil | (apply BoxAllN.cons; (focus ((repeat (first | exact Bl.here | apply Bl.there rfl)); done)); (focus (rfl)); (focus (rfl)))))) : FinS P fn r [] rs (lk env) (hk box) := by
  refine ⟨_, _, Sub.refl _ _, ds, hr.is, fun S a w Z i v hF hv => ?_, fun k B hm => hb.at k B hm⟩
  subst hd
  refine hv.nm hf (fun k x hk e => ?_)
  show (if k ∈ ([] ++ rs).map (fun y : Nat × Box => y.1) then i k else none) = some x
  have hm : k ∈ ([] ++ rs).map (fun y : Nat × Box => y.1) := memB_spec hk
  rw [if_pos hm]
  exact e
section
variable {ro : Option Nat} {P : Program} {N : Nat} {Q : Post} {ops : Array Oper} {rest : List Oper} {env : List (Nat × D)} {box : List (Nat × Option Box)} {done : List Rec} {K : List Rec → List (Nat × D) → List (Nat × Option Box) → Prop} {d : Nat} {ty : TypeId} {pos : String} {aft : Array Edge}
/-- A call whose result is rows of its own. -/
theorem r_callN {x : Operand} {xs : List Operand} {ts : Array TypeId} {f : FuncId} {fn : Func} {ds ads caps : List D} {r r' d0 : D} {k0 : Nat} {t t2 : TypeId} {nb n m2 n2 : Nat} {g : Nat → Nat → List D} [hf : FI P f fn] [hod : OldDL ds] [hnew : NewD r] [hnb : AllNew [(k0, (.mat t t2 nb n m2 n2 g))]] (hden : DenH P f ds [] r [] [(k0, (.mat t t2 nb n m2 n2 g))]) (hr : r.ren (fun _ => 1000 + d) = r') (h : RunK P N ops rest ((d, r') :: env) ((1000 + d, some (.mat t t2 nb n m2 n2 g)) :: box) (done ++ [⟨nsOf box (ads ++ caps), some d, r', [(1000 + d, some (.mat t t2 nb n m2 n2 g))], [1000 + d]⟩]) K) (hx : Op1 env x d0 := by first | exact Op1.const _ | exact Op1.fn _ | exact Op1.gl _ | (apply Op1.tmp; (repeat (first | exact Lk.here | apply Lk.there rfl)); done) | (apply Op1.whn; (focus (apply Op1.tmp; (repeat (first | exact Lk.here | apply Lk.there rfl)); done)); assumption) | (apply Op1.whn; (focus (apply Op1.whn; (focus (apply Op1.tmp; (repeat (first | exact Lk.here | apply Lk.there rfl)); done)); assumption)); assumption)) (hcl : (d0 = .val (.func (.func f) #[] #[]) ∧ caps = []) ∨ d0 = .clo f caps := by first | exact .inl ⟨rfl, rfl⟩ | exact .inr rfl) (ha : Op1L env xs ads := by (repeat (first | exact Op1L.nil | apply Op1L.cons (by first | exact Op1.const _ | exact Op1.fn _ | exact Op1.gl _ | (apply Op1.whn; (focus (apply Op1.tmp; (repeat (first | exact Lk.here | apply Lk.there rfl)); done)); assumption) | (apply Op1.tmp; (repeat (first | exact Lk.here | apply Lk.there rfl)); done))))) (hv : ArgVL true [] (nsOf box (ads ++ caps)) [] (fun _ => 1000 + d) (hk box) (ads ++ caps) ds := by (repeat' (first | exact ArgVL.nil | refine ArgVL.cons ?_ ?_ | exact CvVL.nil | refine CvVL.cons ?_ ?_ | refine ArgV.cv ?_ | exact CvV.id rfl | exact CvV.cvt (CvV.id rfl) inferInstance | refine CvV.clo ?_ | refine CvV.agg ?_ | exact CvV.cvt (CvV.sl (Ba.is (by (first | (apply Ba.arr; (repeat (first | exact Bl.here | apply Bl.there rfl)); done) | (apply Ba.ice; (repeat (first | exact Bl.here | apply Bl.there rfl)))))) (by omega) rfl (by kernel_rfl)) inferInstance | exact CvV.cvt (CvV.ice (Bl.eq (by (repeat (first | exact Bl.here | apply Bl.there rfl)))) (by omega) (by kernel_rfl)) inferInstance | exact CvV.cvt (CvV.slm (Bl.eq (by (repeat (first | exact Bl.here | apply Bl.there rfl)))) (by omega) rfl (by kernel_rfl)) inferInstance | exact CvV.cvt (CvV.slr (Bl.eq (by (repeat (first | exact Bl.here | apply Bl.there rfl)))) (by omega) (by omega) rfl (by kernel_rfl)) inferInstance | refine CvV.lit (c := 0) (Bl.eq (by (repeat (first | exact Bl.here | apply Bl.there rfl)))) rfl ?_ rfl (by kernel_rfl) | exact CvV.icel (Bl.eq (by (repeat (first | exact Bl.here | apply Bl.there rfl)))) rfl (by kernel_rfl) (by rfl) | exact CvV.iceT (Bl.eq (by (repeat (first | exact Bl.here | apply Bl.there rfl)))) rfl (by kernel_rfl) (by rfl) | exact CvV.cvt (CvV.icep (Bl.eq (by (repeat (first | exact Bl.here | apply Bl.there rfl)))) (by omega) (by kernel_rfl)) inferInstance))) (hd : Nat.blt d N = true := by rfl) : RunK P N ops (⟨some d, .call { callee := .value x, args := xs.toArray, argTypes := ts }, ty, pos, aft, none⟩ :: rest) env box done K :=
  run_put (ws := [(1000 + d, some (.mat t t2 nb n m2 n2 g))]) (fresh := [1000 + d]) (by have := loc_call (lend := true) (ρ := fun _ => 1000 + d) (P := P) (N := N) (o := ⟨some d, .call { callee := .value x, args := xs.toArray, argTypes := ts }, ty, pos, aft, none⟩) rfl hd hx.opd hcl ha.opd hden hv (fun k B hm => by cases hm) (fun k hk => by cases hk) rfl rfl (fun h => ⟨hnew, hnb⟩); rw [hr] at this; exact this) rfl h
theorem r_callN3 {x : Operand} {xs : List Operand} {ts : Array TypeId} {f : FuncId} {fn : Func} {ds ads caps : List D} {r r' d0 : D} {k0 k1 k2 : Nat} {tp t t2 t' t2' : TypeId} {nb n m2 n2 nb' n' m2' n2' : Nat} {g g' : Nat → Nat → List D} {l l' : List D} [hf : FI P f fn] [hod : OldDL ds] [hnew : NewD r] [hnb : AllNew [(k0, .lit tp l), (k1, (.mat t t2 nb n m2 n2 g)), (k2, (.mat t' t2' nb' n' m2' n2' g'))]] (hden : DenH P f ds [] r [] [(k0, .lit tp l), (k1, (.mat t t2 nb n m2 n2 g)), (k2, (.mat t' t2' nb' n' m2' n2' g'))]) (hr : r.ren (fun k => k + 10000 * (d + 1)) = r') (hl : D.ren.renL (fun k => k + 10000 * (d + 1)) l = l') (h : RunK P N ops rest ((d, r') :: env) ((k0 + 10000 * (d + 1), some (.lit tp l')) :: (k1 + 10000 * (d + 1), some (.mat t t2 nb n m2 n2 g)) :: (k2 + 10000 * (d + 1), some (.mat t' t2' nb' n' m2' n2' g')) :: box) (done ++ [⟨nsOf box (ads ++ caps), some d, r', [(k0 + 10000 * (d + 1), some (.lit tp l')), (k1 + 10000 * (d + 1), some (.mat t t2 nb n m2 n2 g)), (k2 + 10000 * (d + 1), some (.mat t' t2' nb' n' m2' n2' g'))], [k0 + 10000 * (d + 1), k1 + 10000 * (d + 1), k2 + 10000 * (d + 1)]⟩]) K) (hx : Op1 env x d0 := by first | exact Op1.const _ | exact Op1.fn _ | exact Op1.gl _ | (apply Op1.tmp; (repeat (first | exact Lk.here | apply Lk.there rfl)); done) | (apply Op1.whn; (focus (apply Op1.tmp; (repeat (first | exact Lk.here | apply Lk.there rfl)); done)); assumption) | (apply Op1.whn; (focus (apply Op1.whn; (focus (apply Op1.tmp; (repeat (first | exact Lk.here | apply Lk.there rfl)); done)); assumption)); assumption)) (hcl : (d0 = .val (.func (.func f) #[] #[]) ∧ caps = []) ∨ d0 = .clo f caps := by first | exact .inl ⟨rfl, rfl⟩ | exact .inr rfl) (ha : Op1L env xs ads := by (repeat (first | exact Op1L.nil | apply Op1L.cons (by first | exact Op1.const _ | exact Op1.fn _ | exact Op1.gl _ | (apply Op1.whn; (focus (apply Op1.tmp; (repeat (first | exact Lk.here | apply Lk.there rfl)); done)); assumption) | (apply Op1.tmp; (repeat (first | exact Lk.here | apply Lk.there rfl)); done))))) (hv : ArgVL true [] (nsOf box (ads ++ caps)) [] (fun k => k + 10000 * (d + 1)) (hk box) (ads ++ caps) ds := by (repeat' (first | exact ArgVL.nil | refine ArgVL.cons ?_ ?_ | exact CvVL.nil | refine CvVL.cons ?_ ?_ | refine ArgV.cv ?_ | exact CvV.id rfl | exact CvV.cvt (CvV.id rfl) inferInstance | refine CvV.clo ?_ | refine CvV.agg ?_ | exact CvV.cvt (CvV.sl (Ba.is (by (first | (apply Ba.arr; (repeat (first | exact Bl.here | apply Bl.there rfl)); done) | (apply Ba.ice; (repeat (first | exact Bl.here | apply Bl.there rfl)))))) (by omega) rfl (by kernel_rfl)) inferInstance | exact CvV.cvt (CvV.ice (Bl.eq (by (repeat (first | exact Bl.here | apply Bl.there rfl)))) (by omega) (by kernel_rfl)) inferInstance | exact CvV.cvt (CvV.slm (Bl.eq (by (repeat (first | exact Bl.here | apply Bl.there rfl)))) (by omega) rfl (by kernel_rfl)) inferInstance | exact CvV.cvt (CvV.slr (Bl.eq (by (repeat (first | exact Bl.here | apply Bl.there rfl)))) (by omega) (by omega) rfl (by kernel_rfl)) inferInstance | refine CvV.lit (c := 0) (Bl.eq (by (repeat (first | exact Bl.here | apply Bl.there rfl)))) rfl ?_ rfl (by kernel_rfl) | exact CvV.icel (Bl.eq (by (repeat (first | exact Bl.here | apply Bl.there rfl)))) rfl (by kernel_rfl) (by rfl) | exact CvV.iceT (Bl.eq (by (repeat (first | exact Bl.here | apply Bl.there rfl)))) rfl (by kernel_rfl) (by rfl) | exact CvV.cvt (CvV.icep (Bl.eq (by (repeat (first | exact Bl.here | apply Bl.there rfl)))) (by omega) (by kernel_rfl)) inferInstance))) (hinj : injB (fun k => k + 10000 * (d + 1)) [k0, k1, k2] = true := by rfl) (hd : Nat.blt d N = true := by rfl) : RunK P N ops (⟨some d, .call { callee := .value x, args := xs.toArray, argTypes := ts }, ty, pos, aft, none⟩ :: rest) env box done K :=
  run_put (ws := [(k0 + 10000 * (d + 1), some (.lit tp l')), (k1 + 10000 * (d + 1), some (.mat t t2 nb n m2 n2 g)), (k2 + 10000 * (d + 1), some (.mat t' t2' nb' n' m2' n2' g'))]) (fresh := [k0 + 10000 * (d + 1), k1 + 10000 * (d + 1), k2 + 10000 * (d + 1)]) (by have := loc_call (lend := true) (ρ := fun k => k + 10000 * (d + 1)) (P := P) (N := N) (o := ⟨some d, .call { callee := .value x, args := xs.toArray, argTypes := ts }, ty, pos, aft, none⟩) rfl hd hx.opd hcl ha.opd hden hv (fun k B hm => by cases hm) (fun k hk => by cases hk) rfl hinj (fun h => ⟨hnew, hnb⟩); rw [hr] at this; simp only [outL, List.nil_append, Box.ren, hl] at this; exact this) rfl h
end
/-- Data of which a box's rows are frozen. -/
inductive FrD (k n : Nat) (F : Nat → List D) : D → D → Prop where
  | id {d : D} (h : d.free (fun _ => false) = true) : FrD k n F d d
  | sl {len : Nat} (h : len ≤ n) : FrD k n F (.sl k 1 len) (.fz false len 1 F)
  | agg1 {d d' : D} {l l' : List D} (h : FrD k n F d d') (t : FrD k n F (.agg l) (.agg l')) : FrD k n F (.agg (d :: l)) (.agg (d' :: l'))
  | agg0 : FrD k n F (.agg []) (.agg [])
  | tup1 {d d' : D} {l l' : List D} (h : FrD k n F d d') (t : FrD k n F (.tup l) (.tup l')) : FrD k n F (.tup (d :: l)) (.tup (d' :: l'))
  | tup0 : FrD k n F (.tup []) (.tup [])
theorem FrD.rep {k n m2 n2 nb : Nat} {t t2 : TypeId} {g : Nat → Nat → List D} {Z Z' : Zn} {w : World} {i : Nm} {b : Nat} {cp : Cp} (hi : i k = some (some (b, cp))) (hM : MatAt Z w b cp t t2 nb n m2 n2 g) (hz : ∀ o x, Z o x → Z' o x) (hf : ∀ x, Foot (.mat t t2 nb n m2 n2 g) (i k) x → Z' false x) {d d' : D} (h : FrD k n (fun e => [.fz false n2 m2 (g e)]) d d') : ∀ v, Rep Z w i v d → Rep Z' w noN v d' := by
  have mm : ∀ {v : Value} {d : D} {j : Nm}, Rep Z w j v d → Rep Z' w j v d := fun h => h.mem (fun o x hx => ⟨hz o x hx, rfl⟩)
  induction h with
  | id h => exact fun v hv => mm (hv.nm h (fun k x hk => by cases hk))
  | @sl len h =>
    intro v hv
    cases hv with
    | sl0 _ _ _ h' => rw [hi] at h'; cases h'
    | @sl _ b' _ _ _ cap hib h1 h2 =>
      rw [hi] at hib; cases hib
      obtain ⟨cs, hB, hcs, hnb, hnn, hrw, _⟩ := hM
      refine .fz _ _ _ len cp.c 1 _ (fun e _ => cs.getD e undef) h1 h2 (fun _ _ => rfl) (fun e c he hc => ⟨b, 0, rfl, hf b (.root hi), ?_, ?_⟩) (fun e c he hc => ?_)
      · obtain rfl : c = 0 := by omega
        rw [Nat.mul_one, Nat.add_zero, Nat.zero_add]
        exact hB.cell _ (by omega)
      · obtain ⟨b2, c2, p1, p2, p3, p4, p5⟩ := hrw e (by omega)
        rw [p3]; rfl
      · obtain rfl : c = 0 := by omega
        obtain ⟨b2, c2, p1, p2, p3, p4, cs2, hB2, hs2, hnc2, hfl2, hall2⟩ := hrw e (by omega)
        have hf2 : Foot (.mat t t2 nb n m2 n2 g) (i k) b2 := ⟨b, cp, hi, .inr ⟨e, c2, by show e < n; omega, p1⟩⟩
        rw [p3]
        refine .fz _ _ _ n2 c2 m2 (g e) (fun y c => cs2.getD (y * m2 + c) undef) hnc2 p4 hfl2 (fun y c hy hc => ⟨b2, 0, rfl, hf b2 hf2, ?_, (hall2 y c hy hc).1⟩) (fun y c hy hc => mm (hall2 y c hy hc).2)
        have hlt : y * m2 + c < cs2.size := by
          have : (y + 1) * m2 ≤ c2 * m2 := Nat.mul_le_mul_right _ (by omega)
          rw [Nat.add_mul] at this; omega
        rw [Nat.zero_add]; exact hB2.cell _ hlt
  | agg0 => intro v hv; cases hv with | agg _ vs _ hl h1 hr => exact .agg _ vs _ hl h1 (fun j hj => by simp at hj)
  | tup0 => intro v hv; cases hv with | tup _ vs _ hl hr => exact .tup _ vs _ hl (fun j hj => by simp at hj)
  | agg1 h t ih1 ih2 =>
    intro v hv
    cases hv with | agg _ vs _ hl h1 hr =>
    match vs, hl with
    | v0 :: vs, hl =>
      have r0 := ih1 v0 (hr 0 (by simp))
      have r1 := ih2 _ (.agg i vs _ (by simpa using hl) (fun j hj => by have := h1 (j + 1) (by simpa using hj); simpa using this) (fun j hj => by have := hr (j + 1) (by simpa using hj); simpa [dl] using this))
      generalize hq : Value.agg vs.toArray = q at r1
      cases r1 with | agg _ us _ hl' h1' hr' =>
      obtain rfl : vs = us := by simpa using hq
      refine .agg _ (v0 :: vs) _ (by simpa using hl') (fun j hj => ?_) (fun j hj => ?_)
      · cases j with
        | zero => exact h1 0 (by simp)
        | succ j => have := h1' j (by simpa using hj); simpa using this
      · cases j with
        | zero => exact r0
        | succ j => have := hr' j (by simpa using hj); simpa [dl] using this
  | tup1 h t ih1 ih2 =>
    intro v hv
    cases hv with | tup _ vs _ hl hr =>
    match vs, hl with
    | v0 :: vs, hl =>
      have r0 := ih1 v0 (hr 0 (by simp))
      have r1 := ih2 _ (.tup i vs _ (by simpa using hl) (fun j hj => by have := hr (j + 1) (by simpa using hj); simpa [dl] using this))
      generalize hq : Value.tuple vs.toArray = q at r1
      cases r1 with | tup _ us _ hl' hr' =>
      obtain rfl : vs = us := by simpa using hq
      refine .tup _ (v0 :: vs) _ (by simpa using hl') (fun j hj => ?_)
      · cases j with
        | zero => exact r0
        | succ j => have := hr' j (by simpa using hj); simpa [dl] using this
/-- A contract whose rows are frozen. -/
theorem DenH.frozen {P : Program} {f : FuncId} {ds : List D} {r r2 : D} {k0 nb n m2 n2 : Nat} {t t2 : TypeId} {g : Nat → Nat → List D} (h : DenH P f ds [] r [] [(k0, .mat t t2 nb n m2 n2 g)]) (hn : 0 < n) (hc : FrD k0 n (fun e => [.fz false n2 m2 (g e)]) r r2) : Den P f ds r2 := fun Zc w i args hZ hi hH ha => by
  refine (h Zc w i args hZ hi hH ha).mono (fun e w' ⟨v, i', Zn', p0, p1, p2, p3, p4, p5, pfl, p6, p7⟩ => ?_)
  obtain ⟨_, ⟨b, cp, q1, q2, q3⟩ | ⟨q1, q2⟩⟩ := p6.1 k0 (.mat t t2 nb n m2 n2 g) (by simp)
  · have hft : ∀ x, Foot (.mat t t2 nb n m2 n2 g) (i' k0) x → w.heap.size ≤ x ∧ x < w'.heap.size := fun x hx => ⟨p5 k0 (.mat t t2 nb n m2 n2 g) x (by simp) hx, q3.footLt (q1 ▸ hx)⟩
    refine ⟨v, fun _ => none, fun x => Zn' x ∨ Foot (.mat t t2 nb n m2 n2 g) (i' k0) x, p0, p1, fun x hx => hx.elim (p2 x) (hft x), fun k hk => by simp [Hs.keys] at hk, fun _ _ _ => rfl, fun k B b hm => by simp at hm, fun k B hm => by simp at hm, ⟨fun k B hm => by simp at hm, fun k k' B B' b hm => by simp at hm⟩, ?_⟩
    exact (hc.rep (Z' := Z2 Zc fun x => Zn' x ∨ Foot (.mat t t2 nb n m2 n2 g) (i' k0) x) q1 q3 (fun o x hx => by
      cases o with
      | false => exact .inl hx
      | true => exact hx.imp id .inl) (fun x hx => .inr hx) v p7).of_noN
  · rcases q2 with ⟨_, _, _, e⟩ | ⟨_, _, _, _, _, e⟩
    · cases e
    · cases e; omega
section
variable {P : Program} {N : Nat} {o : Oper} {E : Nat → D} {H : Nat → Option Box}
/-- What the data say of a value's form. -/
def Shp (d : D) (v : Value) : Prop := match d with
  | .val u => v = u
  | .sl .. => ∃ ao n c, v = .slice ao n c
  | .slr .. => ∃ ao n c, v = .slice ao n c
  | .fz .. => ∃ ao n c, v = .slice ao n c
  | _ => True
theorem Shp.of {Z : Zn} {w : World} {i : Nm} {v : Value} {d : D} (h : Rep Z w i v d) : Shp d v := by
  cases h with
  | val => rfl
  | sl => exact ⟨_, _, _, rfl⟩
  | sl0 => exact ⟨_, _, _, rfl⟩
  | slr => exact ⟨_, _, _, rfl⟩
  | fz => exact ⟨_, _, _, rfl⟩
  | _ => trivial
/-- A call of a function that makes a struct of its arguments. -/
theorem loc_mk {f : FuncId} {fn : Func} {x : Operand} {xs : List Operand} {ts : Array TypeId} {ads : List D} (ho : o.op = .call { callee := .value x, args := xs.toArray, argTypes := ts }) (hd : dstLt o N = true) [hf : FI P f fn] (hx : Opd E x (.val (.func (.func f) #[] #[]))) (ha : OpdL E xs ads) (hone : (ads.all fun d => d.one) = true)
    (hden : ∀ vs : List Value, vs.length = ads.length → (∀ j, j < ads.length → Shp (dl ads j) (vs.getD j undef)) → Den P f (valL vs) (.agg (valL vs))) : Loc P N o E H ⟨[], o.dst, .agg ads, [], []⟩ := by
  refine ⟨rfl, by simp [ho], fun E1 H1 h1 h2 h3 S a w hN hR K Q hK => ?_⟩
  obtain ⟨Z, i, hF⟩ := hR
  have hops : o.op.operands = #[x] ++ xs.toArray := by simp [ho, Op.operands, Call.operands]
  have e1 := (hF.opd (Opd.agree (x := x) (by simp [hops]) h1 hx)).valEq
  have hlen := ha.len
  have hasr : ∀ j, j < ads.length → Rep Z w i ((xs.map a.eval).getD j undef) (dl ads j) := fun j hj => by
    have hj' : j < xs.length := by omega
    have := hF.opd (Opd.agree (x := xs[j]) (by rw [hops]; simp) h1 (ha.at j _ (List.getElem?_eq_getElem hj')))
    rw [List.getD_eq_getElem?_getD, List.getElem?_map, List.getElem?_eq_getElem hj']
    exact this
  obtain ⟨vs, hvs⟩ : ∃ vs, xs.map a.eval = vs := ⟨_, rfl⟩
  rw [hvs] at hasr
  have hvl : vs.length = ads.length := by rw [← hvs]; simpa using hlen
  have hv1 : ∀ j, j < ads.length → (vs.getD j undef).oneCell' = true := fun j hj => (hasr j hj).one (by
    have := List.all_eq_true.1 hone (dl ads j) (by rw [dl_eq]; exact getD_mem _ hj)
    exact this)
  have hrun : (execOp a.eval o).run P w = .ok (.enter f vs.toArray) w := by
    have h3 := hf.enters vs.toArray w
    simp only [execOp, ho, resolve, e1, Deferred.ofValue]
    simp [invoke, Result.andThen, hvs] at h3 ⊢
    exact h3
  unfold Oper.wp
  rw [hrun]
  refine (hden vs hvl (fun j hj => Shp.of (hasr j hj)) (fun _ => False) w (fun _ => none) vs (fun _ h => h.elim) (fun _ _ => rfl) ⟨fun k B hm => by simp at hm, fun k k' B B' b hm => by simp at hm⟩ ⟨by rw [valL_len], fun j hj => by rw [valL_len] at hj; rw [valL_at hj]; exact .val _ _⟩).mono (fun e w' ⟨v, i', Zn', p0, p1, _, _, _, _, _, _, p7⟩ => ?_)
  subst p0
  have hv : v = .agg vs.toArray := by
    cases p7 with | agg _ us _ hl _ hr =>
    rw [valL_len] at hl hr
    have : us = vs := by
      apply List.ext_getElem hl
      intro j q1 q2
      have := hr j q2
      rw [valL_at q2] at this
      have := this.valEq
      rw [List.getD_eq_getElem?_getD, List.getD_eq_getElem?_getD, List.getElem?_eq_getElem q1, List.getElem?_eq_getElem q2] at this
      exact this
    rw [this]
  subst hv
  have hold : ∀ b, b < w.heap.size → w'.heap[b]? = w.heap[b]? := fun b hb => p1.block b hb (fun ⟨k, c, hk, _⟩ => by simp [Hs.keys] at hk)
  have hF2 := hF.grown (w' := w') ⟨p1.os, p1.tape, p1.output, p1.size⟩ hold (fun _ _ h => h) (fun b hb => .inl hb) (fun b hb => ⟨hF.zsub b hb, hF.zNew b hb⟩)
  refine hK _ _ ⟨Z, i, hF2.put (by rw [hN]; exact dstLt_spec hd) (.agg _ vs _ hvl hv1 (fun j hj => (hasr j hj).mem (fun o b hb => ⟨hb, hold b (hF.zOld b (by cases o; exact hF.zsub b hb; exact hb)).1⟩)))⟩
end
section
variable {P : Program} {N : Nat} {ops : Array Oper} {rest : List Oper} {env : List (Nat × D)} {box : List (Nat × Option Box)} {done : List Rec} {K : List Rec → List (Nat × D) → List (Nat × Option Box) → Prop} {d : Nat} {ty : TypeId} {pos : String} {aft : Array Edge}
theorem r_pickY {c x y : Operand} {r : D} (h : RunK P N ops rest ((d, r) :: env) box (done ++ [⟨[], some d, r, [], []⟩]) K) (hc : Op1 env c (.val (.bool true)) := by first | exact Op1.const _ | exact Op1.fn _ | exact Op1.gl _ | (apply Op1.tmp; (repeat (first | exact Lk.here | apply Lk.there rfl)); done) | (apply Op1.whn; (focus (apply Op1.tmp; (repeat (first | exact Lk.here | apply Lk.there rfl)); done)); assumption) | (apply Op1.whn; (focus (apply Op1.whn; (focus (apply Op1.tmp; (repeat (first | exact Lk.here | apply Lk.there rfl)); done)); assumption)); assumption)) (hx : Op1 env x r := by first | exact Op1.const _ | exact Op1.fn _ | exact Op1.gl _ | (apply Op1.tmp; (repeat (first | exact Lk.here | apply Lk.there rfl)); done) | (apply Op1.whn; (focus (apply Op1.tmp; (repeat (first | exact Lk.here | apply Lk.there rfl)); done)); assumption) | (apply Op1.whn; (focus (apply Op1.whn; (focus (apply Op1.tmp; (repeat (first | exact Lk.here | apply Lk.there rfl)); done)); assumption)); assumption)) (hd : Nat.blt d N = true := by rfl) : RunK P N ops (⟨some d, .pick c x y, ty, pos, aft, none⟩ :: rest) env box done K := r_pickT hc hx hd h
theorem r_callP {x : Operand} {xs : List Operand} {ts : Array TypeId} {f : FuncId} {fn : Func} {ads : List D} [hf : FI P f fn] (hden : ∀ vs : List Value, vs.length = ads.length → (∀ j, j < ads.length → Shp (dl ads j) (vs.getD j undef)) → Den P f (valL vs) (.agg (valL vs))) (h : RunK P N ops rest ((d, .agg ads) :: env) box (done ++ [⟨[], some d, .agg ads, [], []⟩]) K) (hx : Op1 env x (.val (.func (.func f) #[] #[])) := by first | exact Op1.const _ | exact Op1.fn _ | exact Op1.gl _ | (apply Op1.tmp; (repeat (first | exact Lk.here | apply Lk.there rfl)); done) | (apply Op1.whn; (focus (apply Op1.tmp; (repeat (first | exact Lk.here | apply Lk.there rfl)); done)); assumption) | (apply Op1.whn; (focus (apply Op1.whn; (focus (apply Op1.tmp; (repeat (first | exact Lk.here | apply Lk.there rfl)); done)); assumption)); assumption)) (ha : Op1L env xs ads := by (repeat (first | exact Op1L.nil | apply Op1L.cons (by first | exact Op1.const _ | exact Op1.fn _ | exact Op1.gl _ | (apply Op1.whn; (focus (apply Op1.tmp; (repeat (first | exact Lk.here | apply Lk.there rfl)); done)); assumption) | (apply Op1.tmp; (repeat (first | exact Lk.here | apply Lk.there rfl)); done))))) (hone : (ads.all fun d => d.one) = true := by rfl) (hd : Nat.blt d N = true := by rfl) : RunK P N ops (⟨some d, .call { callee := .value x, args := xs.toArray, argTypes := ts }, ty, pos, aft, none⟩ :: rest) env box done K :=
  run_put (ws := []) (fresh := []) (loc_mk rfl hd hx.opd ha.opd hone hden) rfl h
end
end Go.Proofs.YtefoddjclngckaaGreat

namespace Go.Proofs.YtefoddjclngckaaGreat
open Go.RowKit
/-- Arguments said otherwise. -/
theorem DenH.arg {P : Program} {f : FuncId} {ds ds' : List D} {hs hs' rs : Hs} {r : D} (h : DenH P f ds' hs r hs' rs) (hc : CvtL ds ds') : DenH P f ds hs r hs' rs := fun Zc w i args hZ hi hH ha =>
  h Zc w i args hZ hi hH ⟨ha.1.trans hc.len, fun j hj => (hc.at j).cv (fun b hb => by cases hb.1) (ha.2 j (by rw [hc.len]; exact hj))⟩
theorem dl_any : ∀ {l : List D} {j : Nat}, l.length ≤ j → dl l j = .any
  | [], _, _ => rfl
  | _ :: _, 0, h => by simp at h
  | _ :: l, j + 1, h => dl_any (l := l) (by simpa using h)
theorem dl_seg' {l : List D} {c n j : Nat} : dl (takeL n (dropL c l)) j = if j < n then dl l (c + j) else .any := by
  by_cases q : j < n
  · rw [if_pos q, dl_seg q]
  · rw [if_neg q]
    refine dl_any ?_
    rw [takeL_eq]; simp; omega
instance (l : List D) (c n : Nat) [h : OldDL l] : OldDL (takeL n (dropL c l)) := ⟨fun j => by
  rw [dl_seg']
  split
  · exact h.od _
  · exact (inferInstance : OldD .any)⟩
instance (l : List D) (c n : Nat) [h : NewDL l] : NewDL (takeL n (dropL c l)) := ⟨fun j => by
  rw [dl_seg']
  split
  · exact h.nw _
  · exact (inferInstance : NewD .any)⟩
theorem CvtL.seg {l l' : List D} (h : CvtL l l') (s c : Nat) : CvtL (takeL s (dropL c l)) (takeL s (dropL c l')) := by
  induction h generalizing s c with
  | nil => cases c <;> cases s <;> exact .nil
  | cons h k ih =>
    cases c with
    | zero =>
      cases s with
      | zero => exact .nil
      | succ s => exact .cons h (ih s 0)
    | succ c => exact ih s c
instance (s c : Nat) (l l' : List D) [h : CvtLI l l'] : CvtLI (takeL s (dropL c l)) (takeL s (dropL c l')) := ⟨h.cv.seg s c⟩
instance (f : Nat → D) : CvtLI (List.map f []) [] := ⟨.nil⟩
/-- A list that was written out, as an argument. -/
abbrev litA (s n : Nat) (l : List D) : D := .fz true n s (fun e => takeL s (dropL (e * s) l))
theorem Cvt.litA {s n : Nat} {l : List D} {f : Nat → List D} (h : ∀ e, e < n → takeL s (dropL (e * s) l) = f e) (hl : ∀ e, e < n → (f e).length = s) : Cvt (litA s n l) (.fz true n s f) := Cvt.fz (.inl rfl) (fun e he => ⟨hl e he, fun c _ => by rw [h e he]; exact inferInstance⟩)
end Go.Proofs.YtefoddjclngckaaGreat
