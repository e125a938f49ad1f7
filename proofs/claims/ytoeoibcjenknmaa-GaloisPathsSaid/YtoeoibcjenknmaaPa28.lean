/- GaloisPaths, walked. -/
import Derived.Test.YtoeoibcjenknmaaPa27
import Derived.Test.YtoeoibcjenknmaaPa19
namespace Go.Proofs.Ytoeoibcjenknmaa
open Go.RowKit Go.Shelf

/-- Both ends are the same. -/
theorem PathEnd.both {p : Par} {h : List Int} {want : Int} {e e2 : Ending} {w1 w2 : World} (k : PathEnd p h want e w1) (k2 : PathEnd p h want e2 w2) :
    ∃ (l : List Int) (a1 a2 : Option Addr) (c1 c2 : Nat) (x : Int), e = .returned (.tuple #[.slice a1 l.length c1, .int .i64 x]) ∧ e2 = .returned (.tuple #[.slice a2 l.length c2, .int .i64 x]) ∧ RdI w1 a1 l ∧ RdI w2 a2 l ∧ l.length ≤ 64 := by
  rcases k with ⟨h1, h2⟩ | ⟨h0, h1, h2⟩ | ⟨l, ao, c, h0, h1, hl, h2, h3⟩
  · rcases k2 with ⟨g1, g2⟩ | ⟨g0, g1, g2⟩ | ⟨l2, ao2, c2, g0, g1, _, g2, g3⟩
    · exact ⟨[], none, none, 0, 0, 2, h2, g2, RdI.nil _ _, RdI.nil _ _, by simp⟩
    · exact absurd g0 h1
    · exact absurd g0 h1
  · rcases k2 with ⟨g1, g2⟩ | ⟨g0, g1, g2⟩ | ⟨l2, ao2, c2, g0, g1, _, g2, g3⟩
    · exact absurd h0 g1
    · exact ⟨[], none, none, 0, 0, 4, h2, g2, RdI.nil _ _, RdI.nil _ _, by simp⟩
    · rw [h1] at g1; cases g1
  · rcases k2 with ⟨g1, g2⟩ | ⟨g0, g1, g2⟩ | ⟨l2, ao2, c2, g0, g1, _, g2, g3⟩
    · exact absurd h0 g1
    · rw [h1] at g1; cases g1
    · rw [h1] at g1; cases g1; exact ⟨l, ao, ao2, c, c2, 0, h2, g2, h3, g3, hl⟩

set_option maxHeartbeats 6400000 in
set_option maxRecDepth 100000 in
theorem lawGP (p : Par) (ca : Option Addr) (cc : Nat) (ao : Option Addr) (hc : Nat) (h : List Int) (want : Int) (w : World) (hin : ParIn w p ca cc) (hrd : RdI w ao h) (hno : ao = none → h = [] ∧ hc = 0) (hl1 : h.length ≤ hc) (hc1 : hc ≤ maxLen)
    (hh : ∀ i, i < h.length → -9223372036854775808 ≤ h.getD i 0 ∧ h.getD i 0 ≤ 9223372036854775807) (hw1 : -9223372036854775808 ≤ want) (hw2 : want ≤ 9223372036854775807) :
    Calls Try.prog 3 #[.agg (p.cells ca cc), .slice ao h.length hc, .int .i64 want] w fun e w' => e = .returned (.bool true) ∧ Below w.heap.size w w' := by
  have hA0 : Below w.heap.size w (w.alloc (.cells (p.cells ca cc) 25)) := (Below.refl _ w).alloc (Nat.le_refl _) _
  have HW := Lib.hid hA0
  have HBk : Hid (Blk (w.alloc (.cells (p.cells ca cc) 25)) w.heap.size 25 (p.cells ca cc)) := Lib.hid (Blk.new _ _ _)
  have HAW := Lib.hid (fun w => awake19_walk w)
  unfold maxLen at hc1
  have hc2 : hc ≤ 9223372036854775807 := by omega
  by_cases hlen : h.length ≤ 200
  case neg =>
    have g : decide ((200 : Int) < (h.length : Int)) = true := decide_eq_true (by omega)
    obtain ⟨n, hn⟩ : ∃ n, h.length = n := ⟨_, rfl⟩
    rw [hn] at g hlen ⊢
    unfold Par.cells at HW ⊢
    have hn2 : n ≤ 9223372036854775807 := by omega
    clear hin hrd hno hh hA0 hn
    go_enter Try.func3, Try.ntmps3
    go_wp2_with fail
    (with_reducible refine Calls.mono (HAW.out _) ?_)
    rintro e w1 ⟨rfl, hb⟩
    have HB := Lib.hid (below_step HW.out hb)
    clear hb
    go_wp2
    go_ret
    exact ⟨rfl, HB.out⟩
  have g : decide ((200 : Int) < (h.length : Int)) = false := decide_eq_false (by omega)
  have HIN := Lib.hid (hin.below hA0)
  have HRD := Lib.hid (hrd.below hA0)
  have HPG := Lib.hid (fun (ao : Option Addr) (hc : Nat) (w : World) (a : ParIn w p ca cc) (b : RdI w ao h) => gpath_walk p ca cc ao hc h want w a b hlen hh hw1 hw2)
  have HPR := Lib.hid (fun (ao : Option Addr) (hc : Nat) (w : World) (a : ParIn w p ca cc) (b : RdI w ao h) => r19path_walk p ca cc ao hc h want w a b hlen hh hw1 hw2)
  obtain ⟨W1, hW1⟩ : ∃ W1, w.alloc (.cells (p.cells ca cc) 25) = W1 := ⟨_, rfl⟩
  have hLend : ∃ (g : Option Addr) (gc : Nat), Calls Try.prog 6 #[.slice ao h.length hc] W1 fun e w' => e = .returned (.slice g h.length gc) ∧ RdI w' g h ∧ Below W1.heap.size W1 w' ∧
      ∀ w2, Below w'.heap.size w' w2 → Calls Try.prog 10 #[.slice g h.length gc, .slice ao h.length hc] w2 fun e w3 => e = .returned (.bool true) ∧ Below w2.heap.size w2 w3 := by
    rw [hW1] at HRD
    rcases ao with _ | a
    · obtain ⟨rfl, rfl⟩ := hno rfl
      exact ⟨none, 0, (lendInts_nil W1).mono fun e w' ⟨h1, h2⟩ => by
        subst h2
        exact ⟨h1, RdI.nil _ _, Below.refl _ _, fun w2 _ => keptInts_nil w2⟩⟩
    · exact ⟨some ⟨W1.heap.size, 0, none⟩, h.length + 1, (lendInts_some a hc h W1 (by omega) HRD.out).mono fun e w' ⟨h1, h2, h3⟩ =>
        ⟨h1, rdI_lent h2, h3, fun w2 hb => keptInts_some W1.heap.size hc a h w2 (by omega) ((HRD.out.below h3).below hb) (h2.below hb)⟩⟩
  obtain ⟨ga, gc, hLend⟩ := hLend
  have HL := Lib.hid hLend
  rw [hW1] at HIN HRD HW HBk
  obtain ⟨n, hn⟩ : ∃ n, h.length = n := ⟨_, rfl⟩
  have HN := Lib.hid hn
  rw [hn] at g hlen HL HPG HPR ⊢
  unfold Par.cells at hW1 HBk HPG HPR ⊢
  have hw1b : W1.heap.size = w.heap.size + 1 := by rw [← hW1]; simp
  have HS1 := Lib.hid hw1b
  obtain ⟨c0, c1, c2, c3, c4, c5, c6⟩ := par_cells HBk.out
  clear hin hrd hno hh hA0 hn hLend hw1b hl1
  go_enter Try.func3, Try.ntmps3
  go_wp2_with fail
  (with_reducible refine Calls.mono HL.out ?_)
  rintro e w2 ⟨rfl, hr2, hb2, hk2⟩
  have HB2 := Lib.hid (below_step HW.out hb2)
  have HI2 := Lib.hid (HIN.out.below hb2)
  have HR2 := Lib.hid (HRD.out.below hb2)
  have HK2 := Lib.hid (HBk.out.below hb2)
  have HG2 := Lib.hid hk2
  obtain ⟨d0, d1, d2, d3, d4, d5, d6⟩ := par_cells HK2.out
  have HP := Lib.hid (HPG.out ga gc w2 HI2.out hr2)
  clear hr2 hb2 hk2 c0 c1 c2 c3 c4 c5 c6 HIN HRD HBk HL HW hW1
  go_wp2_with fail
  (with_reducible refine Calls.mono HP.out ?_)
  rintro e w3 ⟨hend, hb3⟩
  have HE3 := Lib.hid hend
  have HB3 := Lib.hid (below_step HB2.out hb3)
  have HI3 := Lib.hid (HI2.out.below hb3)
  have HR3 := Lib.hid (HR2.out.below hb3)
  have HK3 := Lib.hid (HK2.out.below hb3)
  have HG3 : Hid (∀ w4, Below w3.heap.size w3 w4 → Calls Try.prog 10 #[.slice ga n gc, .slice ao n hc] w4 fun e w5 => e = .returned (.bool true) ∧ Below w4.heap.size w4 w5) := Lib.hid (fun w4 hb => HG2.out w4 (below_step hb3 hb))
  obtain ⟨c0, c1, c2, c3, c4, c5, c6⟩ := par_cells HK3.out
  have HQ := Lib.hid (HPR.out ao hc w3 HI3.out HR3.out)
  have hshape : ∃ (l : List Int) (a1 : Option Addr) (cx : Nat) (x : Int), e = .returned (.tuple #[.slice a1 l.length cx, .int .i64 x]) := by
    rcases hend with ⟨h1, h2⟩ | ⟨h0, h1, h2⟩ | ⟨l, ao, c, h0, h1, hl, h2, h3⟩
    · exact ⟨[], _, _, _, h2⟩
    · exact ⟨[], _, _, _, h2⟩
    · exact ⟨l, _, _, _, h2⟩
  obtain ⟨l, a1, cx, x, rfl⟩ := hshape
  obtain ⟨ln, hln⟩ : ∃ ln, l.length = ln := ⟨_, rfl⟩
  rw [hln] at HE3 ⊢
  clear hend hb3 d0 d1 d2 d3 d4 d5 d6 HI2 HR2 HK2 HG2 HP HPG HPR hln
  go_wp2_with fail
  (with_reducible refine Calls.mono HQ.out ?_)
  rintro e w4 ⟨hend, hb4⟩
  obtain ⟨l', b1, b2, cx1, cx2, x', he1, rfl, hr1, hr2, hl64⟩ := HE3.out.both hend
  have HB4 := Lib.hid (below_step HB3.out hb4)
  have HG4 : Hid (∀ w5, Below w4.heap.size w4 w5 → Calls Try.prog 10 #[.slice ga n gc, .slice ao n hc] w5 fun e w6 => e = .returned (.bool true) ∧ Below w5.heap.size w5 w6) := Lib.hid (fun w5 hb => HG3.out w5 (below_step hb4 hb))
  have HS := Lib.hid (sameInts_walk b1 b2 cx1 cx2 l' w4 (by omega) (hr1.below hb4) hr2)
  simp only [Ending.returned.injEq, Value.tuple.injEq, Array.mk.injEq, List.cons.injEq, Value.slice.injEq, Value.int.injEq, and_true, true_and] at he1
  obtain ⟨⟨rfl, rfl, rfl⟩, rfl⟩ := he1
  obtain ⟨ln, hln⟩ : ∃ ln, l'.length = ln := ⟨_, rfl⟩
  rw [hln] at HS ⊢
  clear hend hb4 HE3 hr1 hr2 hl64 HQ HG3 HI3 HR3 HK3 hln
  go_wp2_with fail
  (with_reducible refine Calls.mono HS.out ?_)
  rintro e w5 ⟨rfl, hb5⟩
  have HB5 := Lib.hid (below_step HB4.out hb5)
  have HK := Lib.hid (HG4.out w5 hb5)
  clear hb5 HS HG4
  go_wp2_with fail
  (with_reducible refine Calls.mono HK.out ?_)
  rintro e w6 ⟨rfl, hb6⟩
  have HB6 := Lib.hid (below_step HB5.out hb6)
  clear hb6 HK
  go_wp2_with fail
  (with_reducible refine Calls.mono (HAW.out _) ?_)
  rintro e w7 ⟨rfl, hb7⟩
  have HB7 := Lib.hid (below_step HB6.out hb7)
  clear hb7
  go_wp2
  go_ret
  exact ⟨rfl, HB7.out⟩
end Go.Proofs.Ytoeoibcjenknmaa
