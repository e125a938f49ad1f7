/- The types and functions of this program, as the driver looks them up. No walk.
A slice of nil slices, as rows that are put in. No walk.
A slot, said otherwise, within a region. No walk. -/
import Derived.Test.YtmjildbdkecolaaGreatPsr27
set_option linter.unusedSimpArgs false
set_option linter.unusedVariables false
set_option linter.unnecessarySimpa false
namespace Go.Proofs.YtmjildbdkecolaaGreat
open Go.RowKit
section
variable {P : Program} {t s el : TypeId} {i i' : TypeInfo} {e e' : TypeDesc}
theorem SZ.of {n : Nat} (h : TI P t i e) (hn : i.size = n) : SZ P t n := ⟨hn ▸ SizeIs.mk⟩
theorem ZR.of {z : Value} {zs : List Value} (h : TI P t i e) (hz : i.zero = some z) (hc : z.cells = zs.toArray) (h1 : (zs.all fun z => z.oneCell') = true) : ZR P t zs := by
 have := ZeroIs.mk (P := P) (t := t) hz (by rw [hc]; exact h1)
 rw [hc] at this
 exact ⟨this⟩
theorem FT.of {fs : Array Field} {fl : Field} {k off : Nat} (h : TI P s i (.struct fs)) (hf : fs[k]? = some fl) (h' : TI P fl.type i' e') (ho : fl.offset = off) (h0 : (i'.size == 0) = false) : FT P s k off := ⟨ho ▸ FieldIs.mk hf h0⟩
theorem FV.one {fs : Array Field} {fl : Field} {k off : Nat} (h : TI P s i (.struct fs)) (hf : fs[k]? = some fl) (h' : TI P fl.type i' e') (ho : fl.offset = off) (ha : isAggD e' = false) : FV P s k off 1 false := ⟨_, _, _, h, hf, ho, pt_one ha⟩
theorem FV.agg {fs : Array Field} {fl : Field} {k off n : Nat} (h : TI P s i (.struct fs)) (hf : fs[k]? = some fl) (h' : TI P fl.type i' e') (ho : fl.offset = off) (ha : isAggD e' = true) (hn : i'.size = n) : FV P s k off n true := ⟨_, _, _, h, hf, ho, hn ▸ pt_agg ha⟩
theorem ET.of {m : Nat} (h : TI P t i (.slice el)) (h' : TI P el i' e') (hm : i'.size = m) : ET P t m := ⟨hm ▸ IndexIs.mk⟩
theorem AR.of {n m : Nat} (h : TI P t i (.array n el)) (h' : TI P el i' e') (hm : i'.size = m) : AR P t n m := ⟨hm ▸ IndexArr.mk⟩
end
instance mixP : Mix Tryz.prog := ⟨by kernel_rfl⟩
instance ti2 : TI Tryz.prog 2 Tryz.t2 (.int .i64) := ⟨by kernel_rfl, by kernel_rfl⟩
instance ti3 : TI Tryz.prog 3 Tryz.t3 (.int .i64) := ⟨by kernel_rfl, by kernel_rfl⟩
instance ti4 : TI Tryz.prog 4 Tryz.t4 (.bool ) := ⟨by kernel_rfl, by kernel_rfl⟩
instance ti5 : TI Tryz.prog 5 Tryz.t5 (.int .u8) := ⟨by kernel_rfl, by kernel_rfl⟩
instance ti22 : TI Tryz.prog 22 Tryz.t22 (.int .u32) := ⟨by kernel_rfl, by kernel_rfl⟩
instance ti23 : TI Tryz.prog 23 Tryz.t23 (.slice 22) := ⟨by kernel_rfl, by kernel_rfl⟩
instance ti25 : TI Tryz.prog 25 Tryz.t25 Tryz.t24.desc := ⟨by kernel_rfl, by kernel_rfl⟩
instance ti26 : TI Tryz.prog 26 Tryz.t26 (.slice 35) := ⟨by kernel_rfl, by kernel_rfl⟩
instance ti33 : TI Tryz.prog 33 Tryz.t33 (.slice 23) := ⟨by kernel_rfl, by kernel_rfl⟩
instance ti35 : TI Tryz.prog 35 Tryz.t35 Tryz.t34.desc := ⟨by kernel_rfl, by kernel_rfl⟩
instance ti36 : TI Tryz.prog 36 Tryz.t36 (.int .i64) := ⟨by kernel_rfl, by kernel_rfl⟩
instance ti43 : TI Tryz.prog 43 Tryz.t43 Tryz.t42.desc := ⟨by kernel_rfl, by kernel_rfl⟩
instance ti92 : TI Tryz.prog 92 Tryz.t92 (.slice 2) := ⟨by kernel_rfl, by kernel_rfl⟩
instance ti147 : TI Tryz.prog 147 Tryz.t147 (.pointer 25) := ⟨by kernel_rfl, by kernel_rfl⟩
instance ti162 : TI Tryz.prog 162 Tryz.t162 (.int .u64) := ⟨by kernel_rfl, by kernel_rfl⟩
instance ti163 : TI Tryz.prog 163 Tryz.t163 Tryz.t163.desc := ⟨by kernel_rfl, by kernel_rfl⟩
instance sz2 : SZ Tryz.prog 2 1 := SZ.of ti2 rfl
instance zr2 : ZR Tryz.prog 2 [.int .i64 0] := ZR.of ti2 rfl rfl rfl
instance sz3 : SZ Tryz.prog 3 1 := SZ.of ti3 rfl
instance zr3 : ZR Tryz.prog 3 [.int .i64 0] := ZR.of ti3 rfl rfl rfl
instance sz4 : SZ Tryz.prog 4 1 := SZ.of ti4 rfl
instance zr4 : ZR Tryz.prog 4 [.bool false] := ZR.of ti4 rfl rfl rfl
instance sz5 : SZ Tryz.prog 5 1 := SZ.of ti5 rfl
instance zr5 : ZR Tryz.prog 5 [.int .u8 0] := ZR.of ti5 rfl rfl rfl
instance sz22 : SZ Tryz.prog 22 1 := SZ.of ti22 rfl
instance zr22 : ZR Tryz.prog 22 [.int .u32 0] := ZR.of ti22 rfl rfl rfl
instance sz23 : SZ Tryz.prog 23 1 := SZ.of ti23 rfl
instance zr23 : ZR Tryz.prog 23 [.slice none 0 0] := ZR.of ti23 rfl rfl rfl
instance et23 : ET Tryz.prog 23 1 := ET.of ti23 ti22 rfl
instance sz25 : SZ Tryz.prog 25 7 := SZ.of ti25 rfl
instance zr25 : ZR Tryz.prog 25 [.int .i64 0, .int .u32 0, .int .i64 0, .slice none 0 0, .int .u32 0, .int .i64 0, .int .u32 0] := ZR.of ti25 rfl rfl rfl
instance bt25 : BT Tryz.prog 25 [(0, 1), (1, 1), (2, 1), (3, 1), (4, 1), (5, 1), (6, 1)] [.int .i64 0, .int .u32 0, .int .i64 0, .slice none 0 0, .int .u32 0, .int .i64 0, .int .u32 0] := BT.of (ns := [1, 1, 1, 1, 1, 1, 1]) ti25 rfl zr25.zr ⟨sz3.sz, ⟨sz22.sz, ⟨sz3.sz, ⟨sz23.sz, ⟨sz22.sz, ⟨sz3.sz, ⟨sz22.sz, trivial⟩⟩⟩⟩⟩⟩⟩ (by intro j; repeat (first | rfl | cases j with | zero => rfl | succ j => ?_))
instance ft25_0 : FT Tryz.prog 25 0 0 := FT.of ti25 rfl ti3 rfl rfl
instance fv25_0 : FV Tryz.prog 25 0 0 1 false := FV.one ti25 rfl ti3 rfl rfl
instance ft25_1 : FT Tryz.prog 25 1 1 := FT.of ti25 rfl ti22 rfl rfl
instance fv25_1 : FV Tryz.prog 25 1 1 1 false := FV.one ti25 rfl ti22 rfl rfl
instance ft25_2 : FT Tryz.prog 25 2 2 := FT.of ti25 rfl ti3 rfl rfl
instance fv25_2 : FV Tryz.prog 25 2 2 1 false := FV.one ti25 rfl ti3 rfl rfl
instance ft25_3 : FT Tryz.prog 25 3 3 := FT.of ti25 rfl ti23 rfl rfl
instance fv25_3 : FV Tryz.prog 25 3 3 1 false := FV.one ti25 rfl ti23 rfl rfl
instance ft25_4 : FT Tryz.prog 25 4 4 := FT.of ti25 rfl ti22 rfl rfl
instance fv25_4 : FV Tryz.prog 25 4 4 1 false := FV.one ti25 rfl ti22 rfl rfl
instance ft25_5 : FT Tryz.prog 25 5 5 := FT.of ti25 rfl ti3 rfl rfl
instance fv25_5 : FV Tryz.prog 25 5 5 1 false := FV.one ti25 rfl ti3 rfl rfl
instance ft25_6 : FT Tryz.prog 25 6 6 := FT.of ti25 rfl ti22 rfl rfl
instance fv25_6 : FV Tryz.prog 25 6 6 1 false := FV.one ti25 rfl ti22 rfl rfl
instance sz26 : SZ Tryz.prog 26 1 := SZ.of ti26 rfl
instance zr26 : ZR Tryz.prog 26 [.slice none 0 0] := ZR.of ti26 rfl rfl rfl
instance et26 : ET Tryz.prog 26 3 := ET.of ti26 ti35 rfl
instance sz33 : SZ Tryz.prog 33 1 := SZ.of ti33 rfl
instance zr33 : ZR Tryz.prog 33 [.slice none 0 0] := ZR.of ti33 rfl rfl rfl
instance et33 : ET Tryz.prog 33 1 := ET.of ti33 ti23 rfl
instance sz35 : SZ Tryz.prog 35 3 := SZ.of ti35 rfl
instance zr35 : ZR Tryz.prog 35 [.int .i64 0, .bool false, .slice none 0 0] := ZR.of ti35 rfl rfl rfl
instance bt35 : BT Tryz.prog 35 [(0, 1), (1, 1), (2, 1)] [.int .i64 0, .bool false, .slice none 0 0] := BT.of (ns := [1, 1, 1]) ti35 rfl zr35.zr ⟨sz3.sz, ⟨sz4.sz, ⟨sz33.sz, trivial⟩⟩⟩ (by intro j; repeat (first | rfl | cases j with | zero => rfl | succ j => ?_))
instance ft35_0 : FT Tryz.prog 35 0 0 := FT.of ti35 rfl ti3 rfl rfl
instance fv35_0 : FV Tryz.prog 35 0 0 1 false := FV.one ti35 rfl ti3 rfl rfl
instance ft35_1 : FT Tryz.prog 35 1 1 := FT.of ti35 rfl ti4 rfl rfl
instance fv35_1 : FV Tryz.prog 35 1 1 1 false := FV.one ti35 rfl ti4 rfl rfl
instance ft35_2 : FT Tryz.prog 35 2 2 := FT.of ti35 rfl ti33 rfl rfl
instance fv35_2 : FV Tryz.prog 35 2 2 1 false := FV.one ti35 rfl ti33 rfl rfl
instance sz36 : SZ Tryz.prog 36 1 := SZ.of ti36 rfl
instance zr36 : ZR Tryz.prog 36 [.int .i64 0] := ZR.of ti36 rfl rfl rfl
instance sz43 : SZ Tryz.prog 43 3 := SZ.of ti43 rfl
instance zr43 : ZR Tryz.prog 43 [.int .i64 0, .int .i64 0, .slice none 0 0] := ZR.of ti43 rfl rfl rfl
instance bt43 : BT Tryz.prog 43 [(0, 1), (1, 1), (2, 1)] [.int .i64 0, .int .i64 0, .slice none 0 0] := BT.of (ns := [1, 1, 1]) ti43 rfl zr43.zr ⟨sz3.sz, ⟨sz3.sz, ⟨sz26.sz, trivial⟩⟩⟩ (by intro j; repeat (first | rfl | cases j with | zero => rfl | succ j => ?_))
instance ft43_0 : FT Tryz.prog 43 0 0 := FT.of ti43 rfl ti3 rfl rfl
instance fv43_0 : FV Tryz.prog 43 0 0 1 false := FV.one ti43 rfl ti3 rfl rfl
instance ft43_1 : FT Tryz.prog 43 1 1 := FT.of ti43 rfl ti3 rfl rfl
instance fv43_1 : FV Tryz.prog 43 1 1 1 false := FV.one ti43 rfl ti3 rfl rfl
instance ft43_2 : FT Tryz.prog 43 2 2 := FT.of ti43 rfl ti26 rfl rfl
instance fv43_2 : FV Tryz.prog 43 2 2 1 false := FV.one ti43 rfl ti26 rfl rfl
instance sz92 : SZ Tryz.prog 92 1 := SZ.of ti92 rfl
instance zr92 : ZR Tryz.prog 92 [.slice none 0 0] := ZR.of ti92 rfl rfl rfl
instance et92 : ET Tryz.prog 92 1 := ET.of ti92 ti2 rfl
instance sz147 : SZ Tryz.prog 147 1 := SZ.of ti147 rfl
instance zr147 : ZR Tryz.prog 147 [.pointer none] := ZR.of ti147 rfl rfl rfl
instance sz162 : SZ Tryz.prog 162 1 := SZ.of ti162 rfl
instance zr162 : ZR Tryz.prog 162 [.int .u64 0] := ZR.of ti162 rfl rfl rfl
instance sz163 : SZ Tryz.prog 163 1 := SZ.of ti163 rfl
instance zr163 : ZR Tryz.prog 163 [.nilFunc] := ZR.of ti163 rfl rfl rfl
instance fi175 : FI Tryz.prog 175 Tryz.f175 := ⟨Tryz.func175, Tryz.call175⟩
instance fi105 : FI Tryz.prog 105 Tryz.f105 := ⟨Tryz.func105, Tryz.call105⟩
instance fi106 : FI Tryz.prog 106 Tryz.f106 := ⟨Tryz.func106, Tryz.call106⟩
instance fi177 : FI Tryz.prog 177 Tryz.f177 := ⟨Tryz.func177, Tryz.call177⟩
instance fi125 : FI Tryz.prog 125 Tryz.f125 := ⟨Tryz.func125, Tryz.call125⟩
instance fi44 : FI Tryz.prog 44 Tryz.f44 := ⟨Tryz.func44, Tryz.call44⟩
instance fi108 : FI Tryz.prog 108 Tryz.f108 := ⟨Tryz.func108, Tryz.call108⟩
instance fi104 : FI Tryz.prog 104 Tryz.f104 := ⟨Tryz.func104, Tryz.call104⟩
instance fi123 : FI Tryz.prog 123 Tryz.f123 := ⟨Tryz.func123, Tryz.call123⟩
instance fi60 : FI Tryz.prog 60 Tryz.f60 := ⟨Tryz.func60, Tryz.call60⟩
instance fi126 : FI Tryz.prog 126 Tryz.f126 := ⟨Tryz.func126, Tryz.call126⟩
instance fi80 : FI Tryz.prog 80 Tryz.f80 := ⟨Tryz.func80, Tryz.call80⟩
instance fi146 : FI Tryz.prog 146 Tryz.f146 := ⟨Tryz.func146, Tryz.call146⟩
instance fi79 : FI Tryz.prog 79 Tryz.f79 := ⟨Tryz.func79, Tryz.call79⟩
instance fi145 : FI Tryz.prog 145 Tryz.f145 := ⟨Tryz.func145, Tryz.call145⟩
instance fi76 : FI Tryz.prog 76 Tryz.f76 := ⟨Tryz.func76, Tryz.call76⟩
instance fi140 : FI Tryz.prog 140 Tryz.f140 := ⟨Tryz.func140, Tryz.call140⟩
instance fi75 : FI Tryz.prog 75 Tryz.f75 := ⟨Tryz.func75, Tryz.call75⟩
instance fi139 : FI Tryz.prog 139 Tryz.f139 := ⟨Tryz.func139, Tryz.call139⟩
instance fi98 : FI Tryz.prog 98 Tryz.f98 := ⟨Tryz.func98, Tryz.call98⟩
instance fi170 : FI Tryz.prog 170 Tryz.f170 := ⟨Tryz.func170, Tryz.call170⟩
instance fi124 : FI Tryz.prog 124 Tryz.f124 := ⟨Tryz.func124, Tryz.call124⟩
instance fi176 : FI Tryz.prog 176 Tryz.f176 := ⟨Tryz.func176, Tryz.call176⟩
instance fi200 : FI Tryz.prog 200 Tryz.f200 := ⟨Tryz.func200, Tryz.call200⟩
instance fi107 : FI Tryz.prog 107 Tryz.f107 := ⟨Tryz.func107, Tryz.call107⟩
instance fi178 : FI Tryz.prog 178 Tryz.f178 := ⟨Tryz.func178, Tryz.call178⟩
open Go.RowKit
set_option maxRecDepth 20000
/-- The data name no rows of this box. -/
def D.rf (k : Nat) : D → Bool
 | .slr k' _ _ _ => !(Nat.beq k' k)
 | .eptrr k' _ _ _ _ => !(Nat.beq k' k)
 | .clo _ l => rfL k l
 | .agg l => rfL k l
 | .tup l => rfL k l
 | _ => true
where rfL (k : Nat) : List D → Bool
 | [] => true
 | d :: l => D.rf k d && rfL k l
theorem rfL_at {k : Nat} : ∀ {l : List D}, D.rf.rfL k l = true → ∀ j, (dl l j).rf k = true
 | [], _, j => rfl
 | d :: l, h, 0 => by simp only [D.rf.rfL, Bool.and_eq_true] at h; exact h.1
 | d :: l, h, j + 1 => by simp only [D.rf.rfL, Bool.and_eq_true] at h; exact rfL_at h.2 j
/-- The same blocks; of one box no rows are known. -/
def norow (k : Nat) (i : Nm) : Nm := fun x => if x = k then (match i k with | some (some (b, cp)) => some (some (b, ⟨cp.c, noR⟩)) | o => o) else i x
theorem norow_other {k x : Nat} {i : Nm} (h : x ≠ k) : norow k i x = i x := if_neg h
theorem norow_some {k b : Nat} {cp : Cp} {i : Nm} (h : i k = some (some (b, cp))) : norow k i k = some (some (b, ⟨cp.c, noR⟩)) := by unfold norow; rw [if_pos rfl, h]
theorem norow_nil {k : Nat} {i : Nm} (h : i k = some none) : norow k i k = some none := by unfold norow; rw [if_pos rfl, h]
theorem norow_get {k x b : Nat} {cp : Cp} {i : Nm} (h : i x = some (some (b, cp))) : ∃ cp', norow k i x = some (some (b, cp')) ∧ cp'.c = cp.c := by
 by_cases q : x = k
 ·subst q; exact ⟨_, norow_some h, rfl⟩
 ·exact ⟨cp, (norow_other q).trans h, rfl⟩
theorem norow_back {k x b : Nat} {cp : Cp} {i : Nm} (h : norow k i x = some (some (b, cp))) : ∃ cp', i x = some (some (b, cp')) := by
 by_cases q : x = k
 ·subst q
  unfold norow at h
  rw [if_pos rfl] at h
  cases e : i x with
  | none => rw [e] at h; cases h
  | some o =>
   cases o with
   | none => rw [e] at h; cases h
   | some bc => obtain ⟨b', c'⟩ := bc; rw [e] at h; cases h; exact ⟨_, rfl⟩
 ·rw [norow_other q] at h; exact ⟨cp, h⟩
section
variable {Z : Zn} {w : World} {i : Nm} {v : Value} {d : D} {k : Nat}
theorem Rep.norow (h : Rep Z w i v d) : d.rf k = true → Rep Z w (Go.Proofs.YtmjildbdkecolaaGreat.norow k i) v d := by
 induction h with
 | any i v => intro _; exact .any _ _
 | val i v => intro _; exact .val _ _
 | eptr i k' m e c h => intro _; obtain ⟨cp', e1, _⟩ := norow_get (k := k) h; exact .eptr _ _ _ _ _ e1
 | sl i k' m len cap h h1 h2 => intro _; obtain ⟨cp', e1, e2⟩ := norow_get (k := k) h; rw [← e2] at h1 h2 ⊢; exact .sl _ _ _ _ _ e1 h1 h2
 | sl0 i k' m h =>
  intro _
  refine .sl0 _ _ _ ?_
  by_cases q : k' = k
  ·subst q; exact norow_nil h
  ·rw [norow_other q]; exact h
 | slr i k' e m len b cap h hr h1 h2 =>
  intro hf
  have q : k' ≠ k := fun e => by subst e; simp [D.rf] at hf
  exact .slr _ _ _ _ _ _ _ ((norow_other q).trans h) hr h1 h2
 | eptrr i k' e m x c h hr =>
  intro hf
  have q : k' ≠ k := fun e => by subst e; simp [D.rf] at hf
  exact .eptrr _ _ _ _ _ _ ((norow_other q).trans h) hr
 | fz i o ao n cap m f vs h1 h2 hl ha hr ih => intro _; exact .fz _ o ao n cap m f vs h1 h2 hl ha hr
 | fptr i o b q l vs ha hr ih => intro _; exact .fptr _ o b q l vs ha hr
 | clo i fn vs l hl hr ih => intro hf; exact .clo _ fn vs l hl (fun j hj => ih j hj (rfL_at hf j))
 | agg i vs l hl h1 hr ih => intro hf; exact .agg _ vs l hl h1 (fun j hj => ih j hj (rfL_at hf j))
 | tup i vs l hl hr ih => intro hf; exact .tup _ vs l hl (fun j hj => ih j hj (rfL_at hf j))
end
def envRf (k : Nat) (env : List (Nat × D)) : Bool := env.all fun x => x.2.rf k
def Box.rf (k : Nat) : Box → Bool
 | .lit _ ds => D.rf.rfL k ds
 | _ => true
def boxRf (k : Nat) (box : List (Nat × Option Box)) : Bool := box.all fun x => match x.2 with | some B => B.rf k | none => true
theorem envRf_at {k : Nat} : ∀ {env : List (Nat × D)}, envRf k env = true → ∀ t, (lk env t).rf k = true
 | [], _, t => rfl
 | (s, d) :: l, h, t => by
  simp only [envRf, List.all_cons, Bool.and_eq_true] at h
  simp only [lk]
  cases Nat.beq s t with
  | true => exact h.1
  | false => exact envRf_at h.2 t
theorem boxRf_at {k : Nat} : ∀ {box : List (Nat × Option Box)}, boxRf k box = true → ∀ x B, hk box x = some B → B.rf k = true
 | [], _, x, B, h => by cases h
 | (s, o) :: l, h, x, B, hB => by
  simp only [boxRf, List.all_cons, Bool.and_eq_true] at h
  simp only [hk] at hB
  cases q : Nat.beq s x with
  | true => rw [q] at hB; simp only at hB; subst hB; exact h.1
  | false => rw [q] at hB; exact boxRf_at h.2 x B hB
theorem sub_mat0 {env : List (Nat × D)} {box : List (Nat × Option Box)} (k : Nat) (t2 : TypeId) (m2 n2 : Nat) (g : Nat → Nat → List D) {t : TypeId} {n : Nat} {f : Nat → List D} (hb : hk box k = some (.arr t n 1 f)) (h100 : Nat.ble 1000 k = true) (he : envRf k env = true) (hx : boxRf k box = true) :
  Sub (lk env) (hk box) (lk env) (hk ((k, some (.mat t t2 n 0 m2 n2 g)) :: box)) := fun S a w hR => by
 obtain ⟨Z, i, hF⟩ := hR
 replace h100 := Nat.le_of_ble_eq_true h100
 have hs : ∀ x, hk ((k, some (.mat t t2 n 0 m2 n2 g)) :: box) x = if k = x then some (.mat t t2 n 0 m2 n2 g) else hk box x := fun x => by
  simp only [hk]
  by_cases q : k = x
  ·subst q; simp
  ·rw [beq_ne q, if_neg q]
 have foot : ∀ x C b, hk ((k, some (.mat t t2 n 0 m2 n2 g)) :: box) x = some C → C.mut = true → Foot C (norow k i x) b → ∃ C0, hk box x = some C0 ∧ C0.mut = true ∧ Foot C0 (i x) b := fun x C b hC hm hf => by
  rw [hs] at hC
  by_cases q : k = x
  ·subst q; rw [if_pos rfl] at hC; cases hC
   obtain ⟨cp, e⟩ := hf.flat rfl
   obtain ⟨cp', e'⟩ := norow_back e
   exact ⟨_, hb, rfl, .root e'⟩
  ·rw [if_neg q] at hC
   rw [norow_other (Ne.symm q)] at hf
   exact ⟨C, hC, hm, hf⟩
 refine ⟨Z, norow k i, { hF with env := fun s => (hF.env s).norow (envRf_at he s), box := fun x C hC => ?_, foot := fun x C b hC hm hf => ?_, nil := fun x hC => ?_, low := fun x hl => ?_, inj := fun x x' C C' b h1 h2 m1 m2 f1 f2 => ?_ }⟩
 ·rw [hs] at hC
  by_cases q : k = x
  ·subst q; rw [if_pos rfl] at hC; cases hC
   rcases hF.box k _ hb with ⟨b, cap, e1, e2, e3, e4, cs, f1, f2, f3, f4, f5⟩ | ⟨e1, e2⟩
   ·exact .inl ⟨b, _, norow_some e1, e2, fun _ => e3 rfl, fun h => (by cases h), cs, f1, by rw [f2, Nat.mul_one], f3, Nat.zero_le _, fun e he => absurd he (Nat.not_lt_zero _), fun _ _ _ _ _ h => absurd h (Nat.not_lt_zero _), fun _ _ => rfl⟩
   ·refine .inr ⟨norow_nil e1, ?_⟩
    rcases e2 with e2 | ⟨t', m', f2, e2 | e2⟩ | ⟨_, _, _, _, _, e2⟩
    ·cases e2
    ·cases e2; exact .inr (.inr ⟨_, _, _, _, _, rfl⟩)
    ·cases e2
    ·cases e2
  ·rw [if_neg q] at hC
   rcases hF.box x C hC with ⟨b, cap, e1, e2, e3, e4, e5⟩ | ⟨e1, e2⟩
   ·refine .inl ⟨b, cap, (norow_other (Ne.symm q)).trans e1, e2, e3, e4, ?_⟩
    cases C with
    | lit t ds =>
     obtain ⟨cs, g1, g2, g3⟩ := e5
     have hr := boxRf_at hx x _ hC
     exact ⟨cs, g1, g2, fun j hj => ⟨(g3 j hj).1, (g3 j hj).2.norow (rfL_at hr j)⟩⟩
    | _ => exact e5
   ·exact .inr ⟨(norow_other (Ne.symm q)).trans e1, e2⟩
 ·obtain ⟨C0, g1, g2, g3⟩ := foot x C b hC hm hf
  have r := hF.foot x C0 b g1 g2 g3
  exact ⟨r.1, r.2.1.imp id (fun ⟨p1, p2, c, p3⟩ => ⟨p1, p2, by rw [norow_other (by omega)]; exact ⟨c, p3⟩⟩), r.2.2⟩
 ·rw [hs] at hC
  by_cases q : k = x
  ·rw [if_pos q] at hC; cases hC
  ·rw [if_neg q] at hC; rw [norow_other (Ne.symm q)]; exact hF.nil x hC
 ·rw [norow_other (by omega)]; exact hF.low x hl
 ·obtain ⟨C0, g1, g2, g3⟩ := foot x C b h1 m1 f1
  obtain ⟨C0', g1', g2', g3'⟩ := foot x' C' b h2 m2 f2
  exact hF.inj x x' C0 C0' b g1 g1' g2 g2' g3 g3'
section
variable {ro : Option Nat} {P : Program} {N : Nat} {Q : Post} {c : Code} {env : List (Nat × D)} {box : List (Nat × Option Box)}
theorem c_mat0 (k : Nat) (t2 : TypeId) (m2 n2 : Nat) (g : Nat → Nat → List D) {t : TypeId} {n : Nat} {f : Nat → List D} (h : AWp ro P N c (lk env) (hk ((k, some (.mat t t2 n 0 m2 n2 g)) :: box)) Q) (hb : Bl box k (.arr t n 1 f) := by (repeat (first | exact Bl.here | apply Bl.there rfl))) (h100 : Nat.ble 1000 k = true := by rfl) (he : envRf k env = true := by kernel_rfl) (hx : boxRf k box = true := by kernel_rfl) : AWp ro P N c (lk env) (hk box) Q := awp_sub (sub_mat0 k t2 m2 n2 g hb.eq h100 he hx) h
end
open Go.RowKit
section
variable {P : Program} {N : Nat} {ops : Array Oper} {rest : List Oper} {env : List (Nat × D)} {box : List (Nat × Option Box)} {done : List Rec} {K : List Rec → List (Nat × D) → List (Nat × Option Box) → Prop}
theorem r_eqS (t : Nat) (d' : D) {d : D} (he : d = d') (h : RunK P N ops rest ((t, d') :: env) box done K) (ht : Lk env t d := by (repeat (first | exact Lk.here | apply Lk.there rfl))) : RunK P N ops rest env box done K := by
 have e : lk ((t, d') :: env) = lk env := by
  funext s
  simp only [lk]
  by_cases q : t = s
  ·subst q; simp; rw [← he]; exact ht.eq.symm
  ·rw [beq_ne q]
 obtain ⟨Rs, env', box', h1, h2, h3, h4⟩ := h
 rw [e] at h1 h2
 exact ⟨Rs, env', box', h1, h2, h3, h4⟩
end
end Go.Proofs.YtmjildbdkecolaaGreat
