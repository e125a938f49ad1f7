/- The memory of the program's search.
The memory of the program's search: how it begins, what is taken. -/
import Derived.Test.YtoeoibcjenknmaaPb08
import Derived.Test.YtoeoibcjenknmaaPb17
import Derived.Deep.RegionLaw
namespace Go.Proofs.Ytoeoibcjenknmaa
open Go.RowKit Go.Shelf

/-- append whose run is known, as one step of a region that draws. -/
theorem step_append_run {P : Program} {ops : Array Oper} {o : Oper} {a : Act} {w : World} {K : Act → World → Prop} {Q : Exit → Act → World → Prop} {E : Prop}
    (hg : o.guard = none) (s x : Operand) (t : TypeId) (hop : o.op = Op.call { callee := Callee.builtin Builtin.append, args := #[s, x], argTypes := #[t, t] })
    (vs vx : Value) (hs : a.eval s = vs) (hx : a.eval x = vx) (v' : Value) (w' : World) (hr : (Builtin.append_ #[t, t] o.type #[vs, vx]).run P w = .ok v' w')
    (hK : K (a.put o.dst v') w') :
    if Region.wanted o (yielded ops a.tmps) = true then Oper.wp P o a w K Q else E := by
  have hw : Region.wanted o (yielded ops a.tmps) = true := by simp [Region.wanted, hg]
  rw [if_pos hw]
  unfold Oper.wp
  simp [execOp, hop, resolve, invoke, builtin, hs, hx, hr, Result.andThen]
  exact hK

/-- append of one number to a slice without room: a new slice; nothing old turns. -/
theorem OwI.append_full {w : World} {lo g off : Nat} {c : Nat} {l : List Int} {bs : List Nat} (h : OwI w lo (.slice (some ⟨g, off, none⟩) l.length c) l bs) (hlo : lo ≤ w.heap.size) (hlen : l.length ≤ 1000000) (ty : TypeId) (ad : Addr) (cx : Nat) (x : Int)
    (hx : w.cell? ad = some (.int .i64 x)) :
    ∃ b' c' w' , (Builtin.append_ #[26, 26] ty #[.slice (some ⟨g, off, none⟩) l.length l.length, .slice (some ad) 1 cx]).run Try.prog w = .ok (.slice (some ⟨b', 0, none⟩) (l.length + 1) c') w' ∧
      OwI w' lo (.slice (some ⟨b', 0, none⟩) (l.length + 1) c') (l ++ [x]) [b'] ∧ Turn w w' [] ∧ w.heap.size ≤ b' := by
  obtain ⟨i0, hi, hz0, hz1, hz2⟩ := info_parts info_i64
  have hnews : ∀ j u, ([.int .i64 x] : List Value)[j]? = some u → w.cell? (ad.add j) = some u := by
    intro j u hj
    match j, hj with
    | 0, hj =>
      simp at hj
      subst hj
      have : ad.add 0 = ad := by unfold Addr.add; split <;> simp_all
      rw [this]
      exact hx
  obtain ⟨ao, cap, e, hrd⟩ := h.rd
  simp only [Value.slice.injEq, true_and] at e
  obtain ⟨rfl, rfl⟩ := e
  have holds : ∀ j u, (l.map (Value.int .i64))[j]? = some u → w.cell? ((⟨g, off, none⟩ : Addr).add j) = some u := by
    intro j u hj
    simp only [List.getElem?_map, Option.map_eq_some_iff] at hj
    obtain ⟨y, hy, rfl⟩ := hj
    obtain ⟨hjl, hy'⟩ := List.getElem?_eq_some_iff.1 hy
    obtain ⟨b, o, e, hc⟩ := hrd j hjl
    simp only [Option.some.injEq, Addr.mk.injEq, and_true] at e
    obtain ⟨rfl, rfl⟩ := e
    have := hc j hjl
    rw [List.getD_eq_getElem?_getD, hy, Option.getD_some] at this
    rw [add_zero_addr]
    exact this
  obtain ⟨v', w', hr, ho, hg⟩ := run_append_arg_grows (P := Try.prog) w 26 ty 3 i0 (.int .i64 0) 1 8 Try.underlying26 hi hz0 hz1 hz2 rfl (by decide) ⟨g, off, none⟩ l.length l.length (l.map (Value.int .i64)) (by simp) holds ad 1 cx [.int .i64 x] rfl hnews
    (by omega) (by unfold maxLen; omega) (by omega)
  rcases ho.2 with ⟨_, h0⟩ | ⟨b', cap, cur, rfl, hge, hh, hnc, hml, hcs, htk⟩
  · omega
  · refine ⟨b', cap, w', hr, .inr ⟨b', 0, cap, cur, by simp, rfl, by omega, hh, by simp; omega, hml, by omega, ?_⟩, Turn.of_grown hg (fun k hk => by simp at hk), hge⟩
    intro j hj
    rw [Nat.zero_add, ← Array.getElem?_toList]
    have e := congrArg (·[j]?) htk
    rw [Nat.mul_one, List.getElem?_take, if_pos (by simpa using hj)] at e
    rw [e]
    rcases Nat.lt_or_ge j l.length with hjl | hjl
    · rw [List.getElem?_append_left (by simpa using hjl)]
      simp [List.getD_eq_getElem?_getD, List.getElem?_append_left hjl, hjl]
    · have : j = l.length := by simp at hj; omega
      subst this
      simp [List.getD_eq_getElem?_getD]

/-- The program's memory: the map's block mb, the queue's block q, d places taken. -/
def PMem (w : World) (lo mb q d : Nat) (S : List (Int × List Int)) (X : List Nat) : Prop :=
  ∃ (f : Int → Option Value) (vals : List Value) (qv : Value) (bs : List Nat) (m : Nat), Mp w mb m f ∧ m ≤ S.length ∧ vals.length = S.length ∧ (∀ j, j < S.length → f (S.getD j (0, [])).1 = some (vals.getD j undef)) ∧ (∀ k, k ∉ S.map Prod.fst → f k = none) ∧
    Blk w q 40 #[qv] ∧ OwI w lo qv ((S.drop d).map Prod.fst) bs ∧ mb ∉ bs ∧ q ∉ bs ∧ mb ≠ q ∧ lo ≤ mb ∧ lo ≤ q ∧ (∀ x, x ∈ X → x ∉ bs ∧ x ≠ mb ∧ x ≠ q ∧ x < w.heap.size) ∧
    ∀ j, j < S.length → ∃ pb g off c, vals.getD j undef = .slice (some ⟨g, off, none⟩) (S.getD j (0, [])).2.length c ∧ OwI w lo (vals.getD j undef) (S.getD j (0, [])).2 pb ∧ ∀ g, g ∈ pb → g ∉ bs ∧ g ≠ mb ∧ g ≠ q
/-- What is read of it. -/
theorem PMem.known {w : World} {lo mb q d : Nat} {S : List (Int × List Int)} {X : List Nat} (h : PMem w lo mb q d S X) {a : Nat} {x : Int} {px : List Int} (ha : S[a]? = some (x, px)) (h1 : -9223372036854775808 ≤ x) (h2 : x ≤ 9223372036854775807) :
    ∃ g off c bs, (Instr.lookup 38 (.map (some mb)) (.int .i64 x) true).run Try.prog w = .ok (.tuple #[.slice (some ⟨g, off, none⟩) px.length c, .bool true]) w ∧
      (Instr.lookup 38 (.map (some mb)) (.int .i64 x) false).run Try.prog w = .ok (.slice (some ⟨g, off, none⟩) px.length c) w ∧ OwI w lo (.slice (some ⟨g, off, none⟩) px.length c) px bs := by
  obtain ⟨f, vals, qv, bs, m, hM, hm, hl, hf, _, _, _, _, _, _, _, _, _, hp⟩ := h
  obtain ⟨hal, _⟩ := List.getElem?_eq_some_iff.1 ha
  have e : S.getD a (0, []) = (x, px) := by rw [List.getD_eq_getElem?_getD, ha, Option.getD_some]
  obtain ⟨pb, g, off, c, hv, hO, _⟩ := hp a hal
  have hfa := hf a hal
  rw [e] at hfa hv hO
  simp only at hfa hv hO
  rw [hv] at hfa hO
  obtain ⟨r1, r2⟩ := hM.look_some h1 h2 hfa
  exact ⟨g, off, c, pb, r1, r2, hO⟩
theorem PMem.new {w : World} {lo mb q d : Nat} {S : List (Int × List Int)} {X : List Nat} (h : PMem w lo mb q d S X) {x : Int} (hx : x ∉ S.map Prod.fst) (h1 : -9223372036854775808 ≤ x) (h2 : x ≤ 9223372036854775807) :
    ∃ v, (Instr.lookup 38 (.map (some mb)) (.int .i64 x) true).run Try.prog w = .ok (.tuple #[v, .bool false]) w := by
  obtain ⟨f, vals, qv, bs, m, hM, hm, hl, hf, hn, _⟩ := h
  exact hM.look_none h1 h2 (hn x hx)
/-- One path more: the append, the map's update; behind the queue's put the memory is whole again. -/
theorem PMem.grow {w : World} {lo mb q d : Nat} {S : List (Int × List Int)} {X : List Nat} (h : PMem w lo mb q d S X) (hd : d ≤ S.length) (hn64 : S.length ≤ 1000) (hlo : lo ≤ w.heap.size) {a : Nat} {x : Int} {px : List Int} (ha : S[a]? = some (x, px)) (hpl : px.length ≤ 1000)
    (h1 : -9223372036854775808 ≤ x) (h2 : x ≤ 9223372036854775807) {nx : Int} (hx : nx ∉ S.map Prod.fst) (n1 : -9223372036854775808 ≤ nx) (n2 : nx ≤ 9223372036854775807) (i : Nat) :
    ∃ g off c b' c' u1 u2 qv bs,
      (Instr.lookup 38 (.map (some mb)) (.int .i64 x) false).run Try.prog w.drew = .ok (.slice (some ⟨g, off, none⟩) px.length c) w.drew ∧
      (Instr.lookup 38 (.map (some mb)) (.int .i64 x) false).run Try.prog (w.drew.alloc (.cells #[.int .i64 i] 3)) = .ok (.slice (some ⟨g, off, none⟩) px.length c) (w.drew.alloc (.cells #[.int .i64 i] 3)) ∧ px.length ≤ c ∧ c ≤ maxLen ∧
      (Builtin.append_ #[26, 26] 26 #[.slice (some ⟨g, off, none⟩) px.length px.length, .slice (some ⟨w.heap.size, 0, none⟩) 1 1]).run Try.prog (w.drew.alloc (.cells #[.int .i64 i] 3)) = .ok (.slice (some ⟨b', 0, none⟩) (px.length + 1) c') u1 ∧
      (Instr.mapUpdate 38 (.map (some mb)) (.int .i64 nx) (.slice (some ⟨b', 0, none⟩) (px.length + 1) c')).run Try.prog u1 = .ok () u2 ∧
      (∀ w', Turn w w' [] → (Instr.lookup 38 (.map (some mb)) (.int .i64 x) false).run Try.prog w' = .ok (.slice (some ⟨g, off, none⟩) px.length c) w') ∧ (Instr.lookup 38 (.map (some mb)) (.int .i64 x) false).run Try.prog u2 = .ok (.slice (some ⟨g, off, none⟩) px.length c) u2 ∧
      Turn w u1 [] ∧ Turn w u2 [mb] ∧ Blk u2 q 40 #[qv] ∧ OwI u2 lo qv ((S.drop d).map Prod.fst) bs ∧ q ∉ bs ∧
      ∀ w', PutPost u2 w' lo q ((S.drop d).map Prod.fst ++ [nx]) bs → PMem w' lo mb q d (S ++ [(nx, px ++ [(i : Int)])]) X ∧ Turn w w' (mb :: q :: bs) ∧ (∀ y, y ∈ X → y ∉ mb :: q :: bs) ∧ (∀ y, y ∈ mb :: q :: bs → lo ≤ y) := by
  obtain ⟨f, vals, qv, bs, m, hM, hm, hl, hf, hn, hQ, hqO, hmb, hqb, hmq, hlm, hlq, hX, hp⟩ := h
  obtain ⟨hal, _⟩ := List.getElem?_eq_some_iff.1 ha
  have e : S.getD a (0, []) = (x, px) := by rw [List.getD_eq_getElem?_getD, ha, Option.getD_some]
  obtain ⟨pb, g, off, c, hv, hO, hpd⟩ := hp a hal
  have hfa := hf a hal
  rw [e] at hfa hv hO
  simp only at hfa hv hO
  rw [hv] at hfa hO
  have T0 : Turn w w.drew [] := (Turn.refl w []).drew
  have T1 : Turn w (w.drew.alloc (.cells #[.int .i64 (i : Int)] 3)) [] := T0.alloc _
  have hM0 := hM.turn T0 (by simp)
  have hM1 := hM.turn T1 (by simp)
  have hO1 := hO.turn T1 (fun _ _ => by simp)
  have hcap : px.length ≤ c ∧ c ≤ maxLen := by
    rcases hO with ⟨hh, _⟩ | ⟨_, _, _, _, hh, _, _, _, k1, k2, _⟩
    · simp at hh
    · simp only [Value.slice.injEq, true_and] at hh
      omega
  obtain ⟨b', c', u1, hr, hOn, hTu1, hb'⟩ := hO1.append_full (by rw [World.size_alloc]; exact Nat.le_succ_of_le hlo) (by omega) 26 ⟨w.heap.size, 0, none⟩ 1 i ((Blk.new w.drew _ _).cell 0)
  have hsb : w.heap.size + 1 ≤ b' := by rw [World.size_alloc] at hb'; exact hb'
  have Tw1 : Turn w u1 [] := T1.trans hTu1
  obtain ⟨u2, hru, hMu, hTu2⟩ := (hM.turn Tw1 (by simp)).update n1 n2 (.slice (some ⟨b', 0, none⟩) (px.length + 1) c') (by omega)
  have Tw2 : Turn w u2 [mb] := (Tw1.mono (fun _ k => by simp at k)).trans hTu2
  have hbl : b' < u1.heap.size := (hOn.lt (by simp)).1
  have hmbl := hM.lt
  have hql := hQ.lt
  have hbsl : ∀ y, y ∈ bs → y < w.heap.size := fun y hy => (hqO.lt hy).1
  have hs2 := hTu2.size
  have hs02 := Tw2.size
  have hQ2 := hQ.turn Tw2 (by simpa using fun k => hmq k.symm)
  have hqO2 := hqO.turn Tw2 (fun y hy k => by simp at k; subst k; exact hmb hy)
  refine ⟨g, off, c, b', c', u1, u2, qv, bs, (hM0.look_some h1 h2 hfa).2, (hM1.look_some h1 h2 hfa).2, hcap.1, hcap.2, hr, hru, fun w' hT => ((hM.turn hT (by simp)).look_some h1 h2 hfa).2, (hMu.look_some h1 h2 (by
    rw [fput_other _ _ (fun k => hx (by rw [← k]; exact List.mem_map.2 ⟨_, List.mem_of_getElem? ha, rfl⟩))]
    exact hfa)).2, Tw1, Tw2, hQ2, hqO2, hqb, ?_⟩
  rintro w' ⟨v', bs', hBq, hqO', hTp, hN⟩
  have Tw' : Turn w w' (mb :: q :: bs) := (Tw2.mono (fun y k => by simp at k; simp [k])).trans (hTp.mono (fun y k => by simp at k ⊢; exact .inr k))
  have hbf : ∀ y, y ∈ bs' → y ∈ bs ∨ u2.heap.size ≤ y := fun y hy => by
    rcases hN with k | k
    · exact .inl (k ▸ hy)
    · exact .inr (k y hy)
  have hXn : ∀ y, y ∈ X → y ∉ mb :: q :: bs := fun y hy k => by
    obtain ⟨k1, k2, k3, _⟩ := hX y hy
    simp only [List.mem_cons] at k
    rcases k with k | k | k
    · exact k2 k
    · exact k3 k
    · exact k1 k
  refine ⟨⟨fput f nx (.slice (some ⟨b', 0, none⟩) (px.length + 1) c'), vals ++ [.slice (some ⟨b', 0, none⟩) (px.length + 1) c'], v', bs', m + 1, ?_, by simp; omega, by simp [hl], ?_, ?_, hBq, ?_, ?_, ?_, hmq, hlm, hlq, ?_, ?_⟩, Tw', hXn, ?_⟩
  · exact hMu.turn hTp (fun k => by
      simp only [List.mem_cons] at k
      rcases k with k | k
      · exact hmq k
      · exact hmb k)
  · intro j hj
    rcases Nat.lt_or_ge j S.length with hjl | hjl
    · have e1 : (S ++ [(nx, px ++ [(i : Int)])]).getD j (0, []) = S.getD j (0, []) := by rw [List.getD_eq_getElem?_getD, List.getElem?_append_left hjl, ← List.getD_eq_getElem?_getD]
      have e2 : (vals ++ [Value.slice (some ⟨b', 0, none⟩) (px.length + 1) c']).getD j undef = vals.getD j undef := by rw [List.getD_eq_getElem?_getD, List.getElem?_append_left (by omega), ← List.getD_eq_getElem?_getD]
      rw [e1, e2, fput_other f _ (fun k => hx (by rw [← k]; exact List.mem_map.2 ⟨S.getD j (0, []), by rw [List.getD_eq_getElem?_getD, List.getElem?_eq_getElem hjl, Option.getD_some]; exact List.getElem_mem hjl, rfl⟩))]
      exact hf j hjl
    · have : j = S.length := by simp at hj; omega
      subst this
      have e1 : (S ++ [(nx, px ++ [(i : Int)])]).getD S.length (0, []) = (nx, px ++ [(i : Int)]) := by simp [List.getD_eq_getElem?_getD]
      have e2 : (vals ++ [Value.slice (some ⟨b', 0, none⟩) (px.length + 1) c']).getD S.length undef = Value.slice (some ⟨b', 0, none⟩) (px.length + 1) c' := by simp [List.getD_eq_getElem?_getD, ← hl]
      rw [e1, e2]
      exact fput_same f nx _
  · intro k hk
    simp only [List.map_append, List.mem_append, not_or, List.map_cons, List.map_nil, List.mem_singleton] at hk
    rw [fput_other f _ hk.2]
    exact hn k hk.1
  · rw [List.drop_append_of_le_length hd, List.map_append]
    exact hqO'
  · intro k
    rcases hbf mb k with k | k
    · exact hmb k
    · omega
  · intro k
    rcases hbf q k with k | k
    · exact hqb k
    · omega
  · intro y hy
    obtain ⟨k1, k2, k3, k4⟩ := hX y hy
    refine ⟨fun k => ?_, k2, k3, by have := Tw'.size; omega⟩
    rcases hbf y k with k | k
    · exact k1 k
    · omega
  · intro j hj
    rcases Nat.lt_or_ge j S.length with hjl | hjl
    · have e1 : (S ++ [(nx, px ++ [(i : Int)])]).getD j (0, []) = S.getD j (0, []) := by rw [List.getD_eq_getElem?_getD, List.getElem?_append_left hjl, ← List.getD_eq_getElem?_getD]
      have e2 : (vals ++ [Value.slice (some ⟨b', 0, none⟩) (px.length + 1) c']).getD j undef = vals.getD j undef := by rw [List.getD_eq_getElem?_getD, List.getElem?_append_left (by omega), ← List.getD_eq_getElem?_getD]
      rw [e1, e2]
      obtain ⟨pb2, g2, off2, c2, hv2, hO2, hpd2⟩ := hp j hjl
      refine ⟨pb2, g2, off2, c2, hv2, hO2.turn Tw' (fun y hy k => ?_), fun y hy => ⟨fun k => ?_, (hpd2 y hy).2⟩⟩
      · obtain ⟨k1, k2, k3⟩ := hpd2 y hy
        simp only [List.mem_cons] at k
        rcases k with k | k | k
        · exact k2 k
        · exact k3 k
        · exact k1 k
      · have := (hO2.lt hy).1
        rcases hbf y k with k | k
        · exact (hpd2 y hy).1 k
        · omega
    · have : j = S.length := by simp at hj; omega
      subst this
      have e1 : (S ++ [(nx, px ++ [(i : Int)])]).getD S.length (0, []) = (nx, px ++ [(i : Int)]) := by simp [List.getD_eq_getElem?_getD]
      have e2 : (vals ++ [Value.slice (some ⟨b', 0, none⟩) (px.length + 1) c']).getD S.length undef = Value.slice (some ⟨b', 0, none⟩) (px.length + 1) c' := by simp [List.getD_eq_getElem?_getD, ← hl]
      rw [e1, e2]
      have Tu1' : Turn u1 w' (mb :: q :: bs) := (hTu2.mono (fun y k => by simp at k; simp [k])).trans (hTp.mono (fun y k => by simp at k ⊢; exact .inr k))
      refine ⟨[b'], b', 0, c', by simp, hOn.turn Tu1' (fun y hy k => ?_), fun y hy => ⟨fun k => ?_, ?_, ?_⟩⟩
      · simp only [List.mem_singleton] at hy
        subst hy
        simp only [List.mem_cons] at k
        rcases k with k | k | k
        · omega
        · omega
        · have := hbsl _ k; omega
      · simp only [List.mem_singleton] at hy
        subst hy
        rcases hbf _ k with k | k
        · have := hbsl _ k; omega
        · omega
      · simp only [List.mem_singleton] at hy
        omega
      · simp only [List.mem_singleton] at hy
        omega
  · intro y hy
    simp only [List.mem_cons] at hy
    rcases hy with rfl | rfl | hy
    · exact hlm
    · exact hlq
    · exact (hqO.lt hy).2
end Go.Proofs.Ytoeoibcjenknmaa

namespace Go.Proofs.Ytoeoibcjenknmaa
open Go.RowKit Go.Shelf

/-- What a step leaves. -/
def StepPost (w w' : World) (lo mb q d : Nat) (S : List (Int × List Int)) (X : List Nat) : Prop :=
  PMem w' lo mb q d S X ∧ ∃ T, Turn w w' T ∧ (∀ y, y ∈ X → y ∉ T) ∧ ∀ y, y ∈ T → lo ≤ y
section
variable {w w' w2 : World} {lo mb q d : Nat} {S S' : List (Int × List Int)} {X Y : List Nat}
theorem PMem.step0 (h : PMem w lo mb q d S X) : StepPost w w lo mb q d S X := ⟨h, [], Turn.refl _ _, fun _ _ => by simp, fun _ hy => by simp at hy⟩
theorem StepPost.trans {d' : Nat} (h : StepPost w w' lo mb q d S X) (k : StepPost w' w2 lo mb q d' S' X) : StepPost w w2 lo mb q d' S' X := by
  obtain ⟨_, T, t1, t2, t3⟩ := h
  obtain ⟨k0, U, u1, u2, u3⟩ := k
  refine ⟨k0, T ++ U, (t1.mono (fun y hy => List.mem_append_left _ hy)).trans (u1.mono (fun y hy => List.mem_append_right _ hy)), fun y hy hc => ?_, fun y hy => ?_⟩
  · rcases List.mem_append.1 hc with hc | hc
    · exact t2 y hy hc
    · exact u2 y hy hc
  · rcases List.mem_append.1 hy with hc | hc
    · exact t3 y hc
    · exact u3 y hc
theorem PMem.sub (h : PMem w lo mb q d S X) (hs : ∀ y, y ∈ Y → y ∈ X) : PMem w lo mb q d S Y := by
  obtain ⟨f, vals, qv, bs, m, hM, hm, hl, hf, hn, hQ, hqO, hmb, hqb, hmq, hlm, hlq, hX, hp⟩ := h
  exact ⟨f, vals, qv, bs, m, hM, hm, hl, hf, hn, hQ, hqO, hmb, hqb, hmq, hlm, hlq, fun y hy => hX y (hs y hy), hp⟩
theorem StepPost.sub (h : StepPost w w' lo mb q d S X) (hs : ∀ y, y ∈ Y → y ∈ X) : StepPost w w' lo mb q d S Y := ⟨h.1.sub hs, by
  obtain ⟨_, T, t1, t2, t3⟩ := h
  exact ⟨T, t1, fun y hy => t2 y (hs y hy), t3⟩⟩
theorem StepPost.blk (h : StepPost w w' lo mb q d S X) {g : Nat} {t : TypeId} {cs : Array Value} (hb : Blk w g t cs) (hg : g ∈ X) : Blk w' g t cs := by
  obtain ⟨_, T, t1, t2, t3⟩ := h
  exact hb.turn t1 (t2 g hg)
theorem StepPost.belowN (h : StepPost w w' lo mb q d S X) {B : Nat} (hB : B ≤ w.heap.size) (hlo : B ≤ lo) : Below B w w' := by
  obtain ⟨_, T, t1, t2, t3⟩ := h
  exact t1.belowN hB (fun k hk => Nat.le_trans hlo (t3 k hk))
/-- The memory stays where nothing of it turns. -/
theorem PMem.below (h : PMem w lo mb q d S X) (hT : Below w.heap.size w w') : PMem w' lo mb q d S X := by
  obtain ⟨f, vals, qv, bs, m, hM, hm, hl, hf, hn, hQ, hqO, hmb, hqb, hmq, hlm, hlq, hX, hp⟩ := h
  have T : Turn w w' [] := Turn.of_below hT
  exact ⟨f, vals, qv, bs, m, hM.turn T (by simp), hm, hl, hf, hn, hQ.turn T (by simp), hqO.turn T (by simp), hmb, hqb, hmq, hlm, hlq, fun y hy => ⟨(hX y hy).1, (hX y hy).2.1, (hX y hy).2.2.1, Nat.lt_of_lt_of_le (hX y hy).2.2.2 hT.size⟩, fun j hj => by
    obtain ⟨pb, g, off, c, h1, h2, h3⟩ := hp j hj
    exact ⟨pb, g, off, c, h1, h2.turn T (by simp), h3⟩⟩
/-- New blocks may be kept too. -/
theorem PMem.keep (h : PMem w lo mb q d S X) (y : Nat) (hy : w.heap.size ≤ y) (hy' : y < w'.heap.size) (hT : Below w.heap.size w w') : PMem w' lo mb q d S (y :: X) := by
  obtain ⟨f, vals, qv, bs, m, hM, hm, hl, hf, hn, hQ, hqO, hmb, hqb, hmq, hlm, hlq, hX, hp⟩ := h
  have T : Turn w w' [] := Turn.of_below hT
  have h1 := hM.lt
  have h2 := hQ.lt
  refine ⟨f, vals, qv, bs, m, hM.turn T (by simp), hm, hl, hf, hn, hQ.turn T (by simp), hqO.turn T (by simp), hmb, hqb, hmq, hlm, hlq, fun z hz => ?_, fun j hj => ?_⟩
  · rcases List.mem_cons.1 hz with rfl | hz
    · exact ⟨fun k => by have := (hqO.lt k).1; omega, by omega, by omega, hy'⟩
    · exact ⟨(hX z hz).1, (hX z hz).2.1, (hX z hz).2.2.1, Nat.lt_of_lt_of_le (hX z hz).2.2.2 hT.size⟩
  · obtain ⟨pb, g, off, c, h1, h2, h3⟩ := hp j hj
    exact ⟨pb, g, off, c, h1, h2.turn T (by simp), h3⟩
theorem PMem.apart (h : PMem w lo mb q d S X) {y : Nat} (hy : y ∈ X) : y ≠ mb := by
  obtain ⟨f, vals, qv, bs, m, hM, hm, hl, hf, hn, hQ, hqO, hmb, hqb, hmq, hlm, hlq, hX, hp⟩ := h
  exact (hX y hy).2.1
theorem PMem.out (h : PMem w lo mb q d S X) (hd : S.length ≤ d) : ∃ qv bs, Blk w q 40 #[qv] ∧ OwI w lo qv [] bs := by
  obtain ⟨f, vals, qv, bs, m, hM, hm, hl, hf, hn, hQ, hqO, _⟩ := h
  rw [List.drop_of_length_le hd] at hqO
  exact ⟨qv, bs, hQ, hqO⟩
theorem PMem.take (h : PMem w lo mb q d S X) {x : Int} {px : List Int} (hd : S[d]? = some (x, px)) : ∃ qv bs, Blk w q 40 #[qv] ∧ OwI w lo qv (x :: (S.drop (d + 1)).map Prod.fst) bs ∧ q ∉ bs ∧
    ∀ w', TakePost w w' lo q ((S.drop (d + 1)).map Prod.fst) bs → PMem w' lo mb q (d + 1) S X ∧ Turn w w' [q] ∧ (∀ y, y ∈ X → y ∉ [q]) ∧ lo ≤ q := by
  obtain ⟨f, vals, qv, bs, m, hM, hm, hl, hf, hn, hQ, hqO, hmb, hqb, hmq, hlm, hlq, hX, hp⟩ := h
  have e : S.drop d = (x, px) :: S.drop (d + 1) := by
    obtain ⟨h1, h2⟩ := List.getElem?_eq_some_iff.1 hd
    rw [List.drop_eq_getElem_cons h1, h2]
  rw [e] at hqO
  refine ⟨qv, bs, hQ, hqO, hqb, ?_⟩
  rintro w' ⟨v', hQ', hO', hT⟩
  refine ⟨⟨f, vals, v', bs, m, hM.turn hT (by simpa using hmq), hm, hl, hf, hn, hQ', hO', hmb, hqb, hmq, hlm, hlq, fun y hy => ⟨(hX y hy).1, (hX y hy).2.1, (hX y hy).2.2.1, Nat.lt_of_lt_of_le (hX y hy).2.2.2 hT.size⟩, fun j hj => ?_⟩, hT, fun y hy k => (hX y hy).2.2.1 (by simpa using k), hlq⟩
  obtain ⟨pb, g, off, c, h1, h2, h3⟩ := hp j hj
  exact ⟨pb, g, off, c, h1, h2.turn hT (fun y hy k => (h3 y hy).2.2 (by simpa using k)), h3⟩
/-- How it begins: the map of one path, the queue of one number. -/
theorem PMem.start {u : World} {g : Nat} (hM : Mp u mb 1 (fput (fun _ => none) 1 (.slice (some ⟨g, 0, none⟩) 0 0))) (hg : OwI u lo (.slice (some ⟨g, 0, none⟩) 0 0) [] [g]) (hmq : mb ≠ q) (hgm : g ≠ mb) (hgq : g ≠ q) (hlm : lo ≤ mb) (hlq : lo ≤ q) (hqu : q < u.heap.size)
    (hX : ∀ y, y ∈ X → y ≠ mb ∧ y ≠ q ∧ y < u.heap.size) (hput : PutPost u w lo q [1] []) : PMem w lo mb q 0 [(1, [])] X := by
  obtain ⟨v', bs', hQ, hO, hT, hN⟩ := hput
  have hml := hM.lt
  have hgl := (hg.lt (g := g) (by simp)).1
  have hbs : ∀ y, y ∈ bs' → u.heap.size ≤ y := by
    rcases hN with rfl | h
    · intro y hy; simp at hy
    · exact h
  refine ⟨_, [.slice (some ⟨g, 0, none⟩) 0 0], v', bs', 1, hM.turn hT (by simpa using hmq), by simp, by simp, ?_, ?_, hQ, hO, fun k => by have := hbs _ k; omega, fun k => by have := hbs _ k; omega, hmq, hlm, hlq, ?_, ?_⟩
  · intro j hj
    have : j = 0 := by simp at hj; omega
    subst this
    exact fput_same _ _ _
  · intro k hk
    exact fput_other _ _ (by simpa using hk)
  · intro y hy
    obtain ⟨k1, k2, k3⟩ := hX y hy
    exact ⟨fun k => by have := hbs _ k; omega, k1, k2, Nat.lt_of_lt_of_le k3 hT.size⟩
  · intro j hj
    have : j = 0 := by simp at hj; omega
    subst this
    refine ⟨[g], g, 0, 0, rfl, hg.turn hT (by simpa using hgq), fun y hy => ?_⟩
    have : y = g := by simpa using hy
    subst this
    exact ⟨fun k => by have := hbs _ k; omega, hgm, hgq⟩
end
end Go.Proofs.Ytoeoibcjenknmaa
