/- Arguments as the rows lay them, by data.
Three ciphertexts, and numbers, as the rows lay them, by data.
One ciphertext, as the rows lay it, by data.
Elements, lists of elements and switching keys, as the rows lay them, by data. -/
import Derived.Test.YtmjildbdkecolaaGreatPsr37
import Derived.Test.YtmjildbdkecolaaGreatPsr48
import Derived.Test.YtmjildbdkecolaaGreatPsr52
set_option linter.unusedSimpArgs false
set_option linter.unusedVariables false
set_option linter.unnecessarySimpa false
namespace Go.Proofs.YtmjildbdkecolaaGreat
open Go.ChangeShapes Go.WideShapes Go.ChangeAt Go.RowKit Go.Deep Go.Joins

section
variable {H : Type} {enc : TypeId × Value → H} {w : World} {base : Nat} {spare : Nat → Bool} {held : Bool} {fuel : Nat} {x : DataW H × List MemPlace} {v : Value}
/-- The elements of a list that came in, one by one. -/
theorem slice_in {t e : TypeId} {k : Nat} (ht : Tryz.prog.underlying t = some (.slice e)) (hk : Tryz.prog.cellsOf e = k) (hk0 : 0 < k) (h : DataW.trod enc Tryz.prog w base spare held fuel t [v] = some x) :
  ∃ ao len cap, v = .slice ao len cap ∧ len ≤ cap ∧ cap ≤ maxLen ∧ ∃ n, ∀ i, i < len → ∃ b o cs y, ao = some ⟨b, o, none⟩ ∧ cs.length = k ∧ (∀ j, j < k → w.cell? ⟨b, o + i * k + j, none⟩ = cs[j]?) ∧ DataW.trod enc Tryz.prog w base spare held n e cs = some y := by
 rcases DataW.trod_slice ht h with ⟨h0, _⟩ | ⟨a, len, cap, elems, rest, n, _, h0, _, hb, hl, hm, hlen, hel, _⟩
 ·exact ⟨none, 0, 0, by simpa using h0, by omega, by omega, 0, fun i hi => by omega⟩
 ·have hv : v = .slice (some a) len cap := by simpa using h0
  rw [hk] at hel
  refine ⟨some a, len, cap, hv, hl, hm, n, fun i hi => ?_⟩
  have h2 := hel i hi
  rw [List.getElem?_eq_getElem (by omega)] at h2
  obtain ⟨cs, h3, h4⟩ := Option.bind_eq_some_iff.1 h2
  obtain ⟨_, h5, h6⟩ := World.cells?_some h3
  have ha : a = ⟨a.block, a.off, none⟩ := by
   have h2' := hel 0 (by omega)
   rw [List.getElem?_eq_getElem (by omega)] at h2'
   obtain ⟨cs', h3', _⟩ := Option.bind_eq_some_iff.1 h2'
   obtain ⟨_, h5', h6'⟩ := World.cells?_some h3'
   have h7 := h6' 0 hk0
   rw [List.getElem?_eq_getElem (by omega), Nat.zero_mul] at h7
   exact addr_of_cell h7
  refine ⟨a.block, a.off, cs, _, by rw [← ha], h5, fun j hj => ?_, h4⟩
  have h7 := h6 j hj
  rw [ha, add_zero_addr, add_zero_addr] at h7
  exact h7
end
/-- All that there is may be an argument's memory. -/
def Zw (w : World) : Zn := fun o b => o = true ∧ b < w.heap.size
theorem cell_lt {w : World} {b o : Nat} {u : Value} (h : w.cell? ⟨b, o, none⟩ = some u) : b < w.heap.size := by
 unfold World.cell? at h
 by_cases q : b < w.heap.size
 ·exact q
 ·rw [Array.getElem?_eq_none (by show w.heap.size ≤ b; omega)] at h; cases h
open Classical in
theorem choose_fun {α : Type} (d : α) (n : Nat) (Q : Nat → α → Prop) (h : ∀ i, i < n → ∃ x, Q i x) : ∃ F : Nat → α, (∀ i, i < n → Q i (F i)) ∧ ∀ i, n ≤ i → F i = d := by
 refine ⟨fun i => if q : i < n then Classical.choose (h i q) else d, fun i hi => ?_, fun i hi => dif_neg (by omega)⟩
 show Q i (dite _ _ _)
 rw [dif_pos hi]
 exact Classical.choose_spec (h i hi)
section
variable {H : Type} {enc : TypeId × Value → H} {w : World} {base : Nat} {spare : Nat → Bool} {held : Bool} {fuel : Nat} {x : DataW H × List MemPlace} {v : Value}
/-- A list that came in, its elements read one by one. -/
theorem slice_rep {t e : TypeId} {k : Nat} (ht : Tryz.prog.underlying t = some (.slice e)) (hk : Tryz.prog.cellsOf e = k) (hk0 : 0 < k) (h : DataW.trod enc Tryz.prog w base spare held fuel t [v] = some x) {Q : List D → Prop}
  (hel : ∀ (n : Nat) (cs : List Value) (y : DataW H × List MemPlace), cs.length = k → DataW.trod enc Tryz.prog w base spare held n e cs = some y → ∃ ds : List D, ds.length = k ∧ Q ds ∧ ∀ j, j < k → (cs.getD j undef).oneCell' = true ∧ Rep (Zw w) w noN (cs.getD j undef) (dl ds j)) :
  ∃ (len : Nat) (f : Nat → List D), len ≤ 9223372036854775807 ∧ (∀ i, i < len → Q (f i)) ∧ ∀ f' : Nat → List D, (∀ i, i < len → f' i = f i) → Rep (Zw w) w noN v (.fz true len k f') := by
 obtain ⟨ao, len, cap, rfl, hl, hm, n, hq⟩ := slice_in ht hk hk0 h
 unfold maxLen at hm
 have hx : ∀ i, i < len → ∃ ds : List D, Q ds ∧ ds.length = k ∧ ∃ b o, ao = some ⟨b, o, none⟩ ∧ ∀ j, j < k → ∃ u, w.cell? ⟨b, o + (i * k + j), none⟩ = some u ∧ u.oneCell' = true ∧ Rep (Zw w) w noN u (dl ds j) := fun i hi => by
  obtain ⟨b, o, cs, y, e1, e2, e3, e4⟩ := hq i hi
  obtain ⟨ds, d1, d2, d3⟩ := hel n cs y e2 e4
  refine ⟨ds, d2, d1, b, o, e1, fun j hj => ⟨cs.getD j undef, ?_, d3 j hj⟩⟩
  rw [← Nat.add_assoc, e3 j hj, List.getD_eq_getElem?_getD, List.getElem?_eq_getElem (by omega)]; rfl
 obtain ⟨f, hf, _⟩ := choose_fun [] len _ hx
 refine ⟨len, f, by omega, fun i hi => (hf i hi).1, fun f' hf' => ?_⟩
 cases ao with
 | none =>
  have : len = 0 := by
   rcases Nat.eq_zero_or_pos len with q | q
   ·exact q
   ·obtain ⟨_, _, _, _, e, _⟩ := hf 0 q; cases e
  subst this
  exact .fz _ _ none 0 cap k f' (fun _ _ => undef) hl (by omega) (fun e he => by omega) (fun e c he => by omega) (fun e c he => by omega)
 | some ad =>
  obtain ⟨B, O, sp⟩ := ad
  refine .fz _ _ (some ⟨B, O, sp⟩) len cap k f' (fun e c => (w.cell? ⟨B, O + (e * k + c), none⟩).getD undef) hl (by omega) (fun e he => by rw [hf' e he]; exact (hf e he).2.1) (fun e c he hc => ?_) (fun e c he hc => ?_)
  ·obtain ⟨_, _, b, o, e1, e2⟩ := hf e he
   cases e1
   obtain ⟨u, u1, u2, _⟩ := e2 c hc
   refine ⟨B, O, rfl, ⟨rfl, cell_lt u1⟩, ?_, ?_⟩
   ·simp [u1]
   ·simpa [u1] using u2
  ·obtain ⟨_, _, b, o, e1, e2⟩ := hf e he
   cases e1
   obtain ⟨u, u1, _, u3⟩ := e2 c hc
   rw [hf' e he]
   simpa [u1] using u3
theorem words_rep (h : DataW.trod enc Tryz.prog w base spare held fuel 23 [v] = some x) : ∃ (l : List Nat), l.length ≤ 9223372036854775807 ∧ v.oneCell' = true ∧ Rep (Zw w) w noN v (.fz true l.length 1 (fun j => [.val (.int .u32 ((l.getD j 0 : Nat) : Int))])) := by
 obtain ⟨ao, c, l, rfl, _, h2, h3, h4, h5⟩ := words_in h
 unfold maxLen at h3
 refine ⟨l, by omega, rfl, .fz _ _ ao _ c 1 _ (fun j _ => .int .u32 ((l.getD j 0 : Nat) : Int)) h2 (by omega) (fun _ _ => rfl) (fun e c he hc => ?_) (fun e c he hc => ?_)⟩
 ·obtain ⟨b, o, e1, e2⟩ := h4 e he
  obtain rfl : c = 0 := by omega
  refine ⟨b, o, e1, ⟨rfl, cell_lt (e2 e he)⟩, ?_, rfl⟩
  rw [Nat.mul_one, Nat.add_zero]; exact e2 e he
 ·obtain rfl : c = 0 := by omega
  exact .val _ _
/-- What an element that came in is. -/
def EFit (E : EG) : Prop := E.m ≤ 9223372036854775807 ∧ (∀ k, E.ln k ≤ 9223372036854775807) ∧ (∀ k, E.m ≤ k → E.ln k = 0) ∧ ∀ k j, E.ln k ≤ j → E.g k j = 0
set_option maxRecDepth 100000 in
theorem elem_rep {cs : List Value} (h : DataW.trod enc Tryz.prog w base spare held fuel 35 cs = some x) :
  ∃ E : EG, cs.length = 3 ∧ EFit E ∧ ∀ j, j < 3 → (cs.getD j undef).oneCell' = true ∧ Rep (Zw w) w noN (cs.getD j undef) (dl (elD true E) j) := by
 obtain ⟨xs, n, _, _, hl, hlen, hf⟩ := DataW.trod_struct Tryz.underlying35 h
 have hl3 : cs.length = 3 := hl.trans (by kernel_rfl)
 match cs, hl3 with
 | [c0, c1, c2], _ =>
  match xs, hlen with
  | [y0, y1, y2], _ =>
   have f0 := hf 0 _ rfl
   have f1 := hf 1 _ rfl
   have f2 := hf 2 _ rfl
   have g0 : DataW.trod enc Tryz.prog w base spare held n 3 [c0] = some y0 := by
    have e : Tryz.prog.cellsOf 3 = 1 := by kernel_rfl
    simpa [e] using f0
   have g1 : DataW.trod enc Tryz.prog w base spare held n 4 [c1] = some y1 := by
    have e : Tryz.prog.cellsOf 4 = 1 := by kernel_rfl
    simpa [e] using f1
   have g2 : DataW.trod enc Tryz.prog w base spare held n 33 [c2] = some y2 := by
    have e : Tryz.prog.cellsOf 33 = 1 := by kernel_rfl
    simpa [e] using f2
   obtain ⟨z0, e0, _, w0⟩ := DataW.trod_int Tryz.underlying3 g0
   obtain ⟨z1, e1, _⟩ := DataW.trod_bool Tryz.underlying4 g1
   simp at e0 e1
   subst e0 e1
   obtain ⟨_, _, _, hc2, _⟩ := slice_in Tryz.underlying33 (k := 1) (by kernel_rfl) (by omega) g2
   obtain ⟨len, f, h1, h2, h3⟩ := slice_rep (k := 1) Tryz.underlying33 (by kernel_rfl) (by omega) g2 (Q := fun ds => ∃ l : List Nat, l.length ≤ 9223372036854775807 ∧ ds = [.fz true l.length 1 (fun j => [.val (.int .u32 ((l.getD j 0 : Nat) : Int))])]) (fun n cs y hl ht => by
    match cs, hl with
    | [c0], _ =>
     obtain ⟨l, l1, l2, l3⟩ := words_rep ht
     refine ⟨_, rfl, ⟨l, l1, rfl⟩, fun j hj => ?_⟩
     obtain rfl : j = 0 := by omega
     exact ⟨l2, l3⟩)
   obtain ⟨L, l1, l2⟩ := choose_fun ([] : List Nat) len _ h2
   refine ⟨⟨z0, z1, len, fun k => (L k).length, fun k j => (L k).getD j 0⟩, rfl, ⟨h1, fun k => ?_, fun k hk => by show (L k).length = 0; rw [l2 k hk]; rfl, fun k j hj => by show (L k).getD j 0 = 0; rw [List.getD_eq_getElem?_getD, List.getElem?_eq_none hj]; rfl⟩, fun j hj => ?_⟩
   ·show (L k).length ≤ _
    by_cases q : k < len
    ·exact (l1 k q).1
    ·rw [l2 k (by omega)]; simp
   ·match j, hj with
    | 0, _ => exact ⟨rfl, .val _ _⟩
    | 1, _ => exact ⟨rfl, .val _ _⟩
    | 2, _ => exact ⟨by show c2.oneCell' = true; rw [hc2]; rfl, h3 _ (fun i hi => (l1 i hi).2.symm)⟩
set_option maxRecDepth 100000 in
/-- A ciphertext that came in, in three cells. -/
theorem cipher_rep {cs : List Value} (h : DataW.trod enc Tryz.prog w base spare held fuel 43 cs = some x) :
  ∃ c : CG, cs.length = 3 ∧ Dflt c ∧ ∀ j, j < 3 → (cs.getD j undef).oneCell' = true ∧ Rep (Zw w) w noN (cs.getD j undef) (dl (ciD true c) j) := by
 obtain ⟨xs, n, _, _, hl, hlen, hf⟩ := DataW.trod_struct Tryz.underlying43 h
 have hl3 : cs.length = 3 := hl.trans (by kernel_rfl)
 match cs, hl3 with
 | [c0, c1, c2], _ =>
  match xs, hlen with
  | [y0, y1, y2], _ =>
   have f0 := hf 0 _ rfl
   have f1 := hf 1 _ rfl
   have f2 := hf 2 _ rfl
   have ei : Tryz.prog.cellsOf 3 = 1 := by kernel_rfl
   have es : Tryz.prog.cellsOf 26 = 1 := by kernel_rfl
   have g0 : DataW.trod enc Tryz.prog w base spare held n 3 [c0] = some y0 := by simpa [ei] using f0
   have g1 : DataW.trod enc Tryz.prog w base spare held n 3 [c1] = some y1 := by simpa [ei] using f1
   have g2 : DataW.trod enc Tryz.prog w base spare held n 26 [c2] = some y2 := by simpa [es] using f2
   obtain ⟨z0, e0, _, w0⟩ := DataW.trod_int Tryz.underlying3 g0
   obtain ⟨z1, e1, _, w1⟩ := DataW.trod_int Tryz.underlying3 g1
   simp at e0 e1
   subst e0 e1
   obtain ⟨_, _, _, hc2, _⟩ := slice_in Tryz.underlying26 (k := 3) (by kernel_rfl) (by omega) g2
   obtain ⟨len, f, h1, h2, h3⟩ := slice_rep (k := 3) Tryz.underlying26 (by kernel_rfl) (by omega) g2 (Q := fun ds => ∃ E : EG, EFit E ∧ ds = elD true E) (fun n cs y hl ht => by
    obtain ⟨E, _, k2, k3⟩ := elem_rep ht
    exact ⟨_, rfl, ⟨E, k2, rfl⟩, k3⟩)
   obtain ⟨F, l1, l2⟩ := choose_fun (⟨0, false, 0, fun _ => 0, fun _ _ => 0⟩ : EG) len _ h2
   have hfit : ∀ i, EFit (F i) := fun i => by
    by_cases q : i < len
    ·exact (l1 i q).1
    ·rw [l2 i (by omega)]; exact ⟨by simp, fun _ => by simp, fun _ _ => rfl, fun _ _ _ => rfl⟩
   refine ⟨⟨z0, z1, len, F⟩, rfl, { k := h1, m := fun i => (hfit i).1, l := fun i => (hfit i).2.1, o1 := fun i hi => by show (F i).m = 0; rw [l2 i hi], o2 := fun i => (hfit i).2.2.1, o3 := fun i => (hfit i).2.2.2 }, fun j hj => ?_⟩
   match j, hj with
   | 0, _ => exact ⟨rfl, .val _ _⟩
   | 1, _ => exact ⟨rfl, .val _ _⟩
   | 2, _ => exact ⟨by show c2.oneCell' = true; rw [hc2]; rfl, h3 _ (fun i hi => (l1 i hi).2.symm)⟩
end
/-- Parameters that came in. -/
theorem par_rep {w : World} {q : Par} {ca : Option Addr} {cc : Nat} (h : ParIn w q ca cc) : ∃ p : PD, PFit p ∧ Rep (Zw w) w noN (.agg (q.cells ca cc)) (.agg (parL true p)) := by
 refine ⟨⟨q.n, q.prime, q.power, q.chain, q.special, q.weight, q.err⟩, ⟨h.n1, h.n2, h.prime, h.power1, h.power2, h.chain, h.special, h.weight1, h.weight2, h.err⟩, ?_⟩
 refine .agg _ [_, _, _, _, _, _, _] _ rfl (fun j hj => ?_) (fun j hj => ?_)
 ·match j, hj with
  | 0, _ | 1, _ | 2, _ | 3, _ | 4, _ | 5, _ | 6, _ => rfl
 ·match j, hj with
  | 0, _ | 1, _ | 2, _ | 4, _ | 5, _ | 6, _ => exact .val _ _
  | 3, _ =>
   refine .fz _ _ ca _ cc 1 _ (fun j _ => .int .u32 ((q.chain.getD j 0 : Nat) : Int)) h.room h.room2 (fun _ _ => rfl) (fun e c he hc => ?_) (fun e c he hc => ?_)
   ·obtain ⟨b, o, e1, e2⟩ := h.rd e he
    obtain rfl : c = 0 := by omega
    refine ⟨b, o, e1, ⟨rfl, cell_lt (e2 e he)⟩, ?_, rfl⟩
    rw [Nat.mul_one, Nat.add_zero]; exact e2 e he
   ·obtain rfl : c = 0 := by omega
    exact .val _ _
/-- A law's contract, as its row wants it. -/
theorem Den.row {P : Program} {f : FuncId} {ds : List D} {u : Value} (h : Den P f ds (.val u)) {w : World} {args : List Value} (ha : RepsI (Zw w) w noN args ds) : Calls P f args.toArray w fun e w' => e = .returned u ∧ Below w.heap.size w w' :=
 (h (fun b => b < w.heap.size) w noN args (fun b hb => hb) (fun _ _ => rfl) ⟨fun k B hm => by simp at hm, fun k k' B B' b hm => by simp at hm⟩ ha).mono (fun e w' ⟨v, i', Zn', p0, p1, _, _, _, _, _, _, p7⟩ => ⟨by rw [p0, p7.valEq], ⟨p1.os, p1.tape, p1.output, p1.size, fun b hb => p1.block b hb (fun ⟨k, c, hk, _⟩ => by simp [Hs.keys] at hk)⟩⟩)
open Go.ChangeShapes Go.WideShapes Go.ChangeAt Go.RowKit Go.Deep Go.Joins

set_option maxRecDepth 100000
section
variable {H : Type} {enc : TypeId × Value → H} {w : World} {base : Nat} {spare : Nat → Bool} {held : Bool} {v : Value}
end
open Go.ChangeShapes Go.WideShapes Go.ChangeAt Go.RowKit Go.Deep Go.Joins
set_option maxRecDepth 100000
section
variable {H : Type} {enc : TypeId × Value → H} {w : World} {base : Nat} {spare : Nat → Bool} {held : Bool} {v : Value}
theorem cipher_one {b0 : Nat} {r : Reach} {d : DataW H} {p : List MemPlace} (hv : Value.okWide Tryz.prog w r b0 43 v) (h : DataW.Trod enc Tryz.prog w base spare held 43 v d p) :
  ∃ c : CG, Dflt c ∧ Rep (Zw w) w noN v (.agg (ciD true c)) := by
 obtain ⟨cs, rfl, hsz⟩ := okWide_struct Tryz.underlying43 hv
 obtain ⟨l⟩ := cs
 have hl3 : l.length = 3 := hsz.trans (by kernel_rfl)
 obtain ⟨fuel, hf0⟩ := h
 match l, hl3 with
 | [a0, a1, a2], _ =>
  obtain ⟨a, _, da, ra⟩ := cipher_rep (cs := [a0, a1, a2]) (by simpa [Value.cells] using hf0)
  refine ⟨a, da, .agg _ [a0, a1, a2] _ rfl (fun j hj => ?_) (fun j hj => ?_)⟩
  ·match j, hj with
   | 0, _ => exact (ra 0 (by omega)).1
   | 1, _ => exact (ra 1 (by omega)).1
   | 2, _ => exact (ra 2 (by omega)).1
  ·match j, hj with
   | 0, _ => exact (ra 0 (by omega)).2
   | 1, _ => exact (ra 1 (by omega)).2
   | 2, _ => exact (ra 2 (by omega)).2
end
open Go.ChangeShapes Go.WideShapes Go.ChangeAt Go.RowKit Go.Deep Go.Joins
set_option maxRecDepth 100000
section
variable {H : Type} {enc : TypeId × Value → H} {w : World} {base : Nat} {spare : Nat → Bool} {held : Bool} {v : Value} {fuel : Nat} {x : DataW H × List MemPlace}
/-- A list of elements. -/
theorem elems_rep (h : DataW.trod enc Tryz.prog w base spare held fuel 26 [v] = some x) :
  ∃ (m : Nat) (E : Nat → EG), m ≤ 9223372036854775807 ∧ (∀ i, EFit (E i)) ∧ (∀ i, m ≤ i → (E i).m = 0) ∧ v.oneCell' = true ∧ Rep (Zw w) w noN v (.fz true m 3 (fun i => elD true (E i))) := by
 obtain ⟨_, _, _, hc2, _⟩ := slice_in Tryz.underlying26 (k := 3) (by kernel_rfl) (by omega) h
 obtain ⟨len, f, h1, h2, h3⟩ := slice_rep (k := 3) Tryz.underlying26 (by kernel_rfl) (by omega) h (Q := fun ds => ∃ E : EG, EFit E ∧ ds = elD true E) (fun n cs y hl ht => by
  obtain ⟨E, _, k2, k3⟩ := elem_rep ht
  exact ⟨_, rfl, ⟨E, k2, rfl⟩, k3⟩)
 obtain ⟨F, l1, l2⟩ := choose_fun (⟨0, false, 0, fun _ => 0, fun _ _ => 0⟩ : EG) len _ h2
 have hfit : ∀ i, EFit (F i) := fun i => by
  by_cases q : i < len
  ·exact (l1 i q).1
  ·rw [l2 i (by omega)]; exact ⟨by simp, fun _ => by simp, fun _ _ => rfl, fun _ _ _ => rfl⟩
 exact ⟨len, F, h1, hfit, fun i hi => by rw [l2 i hi], by rw [hc2]; rfl, h3 _ (fun i hi => (l1 i hi).2.symm)⟩
/-- A switching key. -/
theorem key_one {b0 : Nat} {r : Reach} {d : DataW H} {p : List MemPlace} (hv : Value.okWide Tryz.prog w r b0 28 v) (h : DataW.Trod enc Tryz.prog w base spare held 28 v d p) :
  ∃ (f : Int) (m : Nat) (E : Nat → EG) (m' : Nat) (E' : Nat → EG), (m ≤ 9223372036854775807 ∧ (∀ i, EFit (E i)) ∧ ∀ i, m ≤ i → (E i).m = 0) ∧ (m' ≤ 9223372036854775807 ∧ (∀ i, EFit (E' i)) ∧ ∀ i, m' ≤ i → (E' i).m = 0) ∧
   Rep (Zw w) w noN v (.agg [.val (.int .i64 f), .fz true m 3 (fun i => elD true (E i)), .fz true m' 3 (fun i => elD true (E' i))]) := by
 obtain ⟨cs, rfl, hsz⟩ := okWide_struct Tryz.underlying28 hv
 obtain ⟨l⟩ := cs
 have hl3 : l.length = 3 := hsz.trans (by kernel_rfl)
 obtain ⟨fuel, hf0⟩ := h
 match l, hl3 with
 | [a0, a1, a2], _ =>
  have hf0 : DataW.trod enc Tryz.prog w base spare held fuel 28 [a0, a1, a2] = some (d, p) := by simpa [Value.cells] using hf0
  obtain ⟨xs, n, _, _, hl, hlen, hf⟩ := DataW.trod_struct Tryz.underlying28 hf0
  match xs, hlen with
  | [y0, y1, y2], _ =>
   have f0 := hf 0 _ rfl
   have f1 := hf 1 _ rfl
   have f2 := hf 2 _ rfl
   have ei : Tryz.prog.cellsOf 3 = 1 := by kernel_rfl
   have es : Tryz.prog.cellsOf 26 = 1 := by kernel_rfl
   have g0 : DataW.trod enc Tryz.prog w base spare held n 3 [a0] = some y0 := by simpa [ei] using f0
   have g1 : DataW.trod enc Tryz.prog w base spare held n 26 [a1] = some y1 := by simpa [ei, es] using f1
   have g2 : DataW.trod enc Tryz.prog w base spare held n 26 [a2] = some y2 := by simpa [ei, es] using f2
   obtain ⟨z0, e0, _, w0⟩ := DataW.trod_int Tryz.underlying3 g0
   simp at e0
   subst e0
   obtain ⟨m, E, m1, m2, m3, m4, m5⟩ := elems_rep g1
   obtain ⟨m', E', n1, n2, n3, n4, n5⟩ := elems_rep g2
   refine ⟨z0, m, E, m', E', ⟨m1, m2, m3⟩, ⟨n1, n2, n3⟩, .agg _ [.int .i64 z0, a1, a2] _ rfl (fun j hj => ?_) (fun j hj => ?_)⟩
   ·match j, hj with
    | 0, _ => rfl
    | 1, _ => exact m4
    | 2, _ => exact n4
   ·match j, hj with
    | 0, _ => exact .val _ _
    | 1, _ => exact m5
    | 2, _ => exact n5
end
end Go.Proofs.YtmjildbdkecolaaGreat
