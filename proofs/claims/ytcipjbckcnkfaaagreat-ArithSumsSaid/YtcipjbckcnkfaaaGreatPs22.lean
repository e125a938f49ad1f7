/- The reference's operations without their errors; equal elements. -/
import Derived.Test.YtcipjbckcnkfaaaGreatPs14
import Derived.Deep.QuietTactic
import Derived.BigQuiet
set_option linter.unusedSimpArgs false
set_option linter.unusedVariables false
namespace Go.Proofs.YtcipjbckcnkfaaaGreat
open Go.RowKit

set_option maxHeartbeats 3200000 in
theorem r13Add_walk (p : Par) (ca : Option Addr) (cc : Nat) (A B : El) (aa ab : Option Addr) (cA cB : Nat) (w : World) (hin : ParIn w p ca cc) (hg : Good p) (hM : Match p A B) (hra : RdR w aa A.rows) (hrb : RdR w ab B.rows) :
    Calls Tryz.prog 41 #[.agg (p.cells ca cc), A.val aa cA, B.val ab cB] w fun e w' => ∃ ao c, e = .returned ((sumEl p A B 1).val ao c) ∧ RdRN w' w.heap.size ao (sumEl p A B 1).rows ∧ (sumEl p A B 1).rows.length ≤ c ∧ c ≤ 9223372036854775807 ∧ Below w.heap.size w w' := by
  obtain ⟨W1, hW1⟩ : ∃ W1, (((w.alloc (.cells (p.cells ca cc) 25)).alloc (.cells #[.int .i64 A.level, .bool A.special, .slice aa A.rows.length cA] 54)).alloc (.cells #[.int .i64 B.level, .bool B.special, .slice ab B.rows.length cB] 54)).alloc (.cells #[.int .i64 0, .bool false, .slice none 0 0] 54) = W1 := ⟨_, rfl⟩
  have hA : Below w.heap.size w W1 := by rw [← hW1]; exact ((((Below.refl _ w).alloc (Nat.le_refl _) _).alloc (by simp) _).alloc (by simp; omega) _).alloc (by simp; omega) _
  have b3 : Blk W1 (w.heap.size + 1 + 1 + 1) 54 #[.int .i64 0, .bool false, .slice none 0 0] := by
    rw [← hW1]
    have := Blk.new (((w.alloc (.cells (p.cells ca cc) 25)).alloc (.cells #[.int .i64 A.level, .bool A.special, .slice aa A.rows.length cA] 54)).alloc (.cells #[.int .i64 B.level, .bool B.special, .slice ab B.rows.length cB] 54)) 54 #[.int .i64 0, .bool false, .slice none 0 0]
    rw [World.size_alloc, World.size_alloc, World.size_alloc] at this
    exact this
  have HS := Lib.hid (r09Add_walk p ca cc A B aa ab cA cB W1 (hin.below hA) hg hM (hra.below hA) (hrb.below hA))
  have HA := Lib.hid hA
  have HB3 := Lib.hid b3
  have hSl : (sumEl p A B 1).level = A.level := rfl
  have hSs : (sumEl p A B 1).special = A.special := rfl
  obtain ⟨E, hE⟩ : ∃ E, sumEl p A B 1 = E := ⟨_, rfl⟩
  rw [hE] at HS hSl hSs ⊢
  obtain ⟨m, hm⟩ : ∃ m, E.rows.length = m := ⟨_, rfl⟩
  have hma : (W1.heap.size : Nat) > w.heap.size + 1 + 1 + 1 := b3.lt
  obtain ⟨lv, hlv⟩ : ∃ lv, A.level = lv := ⟨_, rfl⟩
  obtain ⟨sp, hsp⟩ : ∃ sp, A.special = sp := ⟨_, rfl⟩
  unfold El.val Par.cells at *
  rw [hSl, hSs, hm] at HS ⊢
  rw [hlv] at HS hW1 ⊢
  rw [hsp] at HS hW1 ⊢
  have HW1 := Lib.hid hW1
  clear hin hg hM hra hrb hA b3 hlv hsp hW1 hSl hSs hE hm
  go_enter Tryz.func41, Tryz.ntmps41
  go_wp2_with fail
  rw [HW1.out]
  (with_reducible refine Calls.mono HS.out ?_)
  rintro e w3 ⟨ao, c, rfl, hrn, hlc, hcm, hb⟩
  have hb3 := HB3.out.below hb
  have hlt := hb3.lt
  obtain ⟨k0, k1, k2⟩ := el_cells hb3
  have f0 := hb3.free 0
  have f1 := hb3.free 1
  have f2 := hb3.free 2
  have HF : Hid (∀ W4, Turn w3 W4 [w.heap.size + 1 + 1 + 1] → RdRN W4 w.heap.size ao E.rows ∧ m ≤ c ∧ c ≤ 9223372036854775807 ∧ Below w.heap.size w W4) := Lib.hid (fun W4 hT' => by
    exact ⟨(hrn.turn hT' (fun x hx => by simp at hx; omega)).mono (by omega), hlc, hcm, (below_step HA.out hb).trans (hT'.belowN (below_step HA.out hb).size (fun x hx => by simp at hx; omega))⟩)
  clear hb hb3 hrn HS
  go_wp2
  refine bodyPost_ret (v := .agg #[.int .i64 lv, .bool sp, .slice ao m c]) (by simp [results, Tryz.results41, go_sem, k0, k1, k2, hlt]) rfl ⟨ao, c, rfl, ?_⟩
  refine HF.out _ ?_
  repeat (first | exact Turn.refl _ _ | refine Turn.setCell ?_ (.inl (by simp)) _ | refine Turn.alloc ?_ _)

set_option maxHeartbeats 3200000 in
theorem r13Sub_walk (p : Par) (ca : Option Addr) (cc : Nat) (A B : El) (aa ab : Option Addr) (cA cB : Nat) (w : World) (hin : ParIn w p ca cc) (hg : Good p) (hM : Match p A B) (hra : RdR w aa A.rows) (hrb : RdR w ab B.rows) :
    Calls Tryz.prog 47 #[.agg (p.cells ca cc), A.val aa cA, B.val ab cB] w fun e w' => ∃ ao c, e = .returned ((sumEl p A B (-1)).val ao c) ∧ RdRN w' w.heap.size ao (sumEl p A B (-1)).rows ∧ (sumEl p A B (-1)).rows.length ≤ c ∧ c ≤ 9223372036854775807 ∧ Below w.heap.size w w' := by
  obtain ⟨W1, hW1⟩ : ∃ W1, (((w.alloc (.cells (p.cells ca cc) 25)).alloc (.cells #[.int .i64 A.level, .bool A.special, .slice aa A.rows.length cA] 54)).alloc (.cells #[.int .i64 B.level, .bool B.special, .slice ab B.rows.length cB] 54)).alloc (.cells #[.int .i64 0, .bool false, .slice none 0 0] 54) = W1 := ⟨_, rfl⟩
  have hA : Below w.heap.size w W1 := by rw [← hW1]; exact ((((Below.refl _ w).alloc (Nat.le_refl _) _).alloc (by simp) _).alloc (by simp; omega) _).alloc (by simp; omega) _
  have b3 : Blk W1 (w.heap.size + 1 + 1 + 1) 54 #[.int .i64 0, .bool false, .slice none 0 0] := by
    rw [← hW1]
    have := Blk.new (((w.alloc (.cells (p.cells ca cc) 25)).alloc (.cells #[.int .i64 A.level, .bool A.special, .slice aa A.rows.length cA] 54)).alloc (.cells #[.int .i64 B.level, .bool B.special, .slice ab B.rows.length cB] 54)) 54 #[.int .i64 0, .bool false, .slice none 0 0]
    rw [World.size_alloc, World.size_alloc, World.size_alloc] at this
    exact this
  have HS := Lib.hid (r09Sub_walk p ca cc A B aa ab cA cB W1 (hin.below hA) hg hM (hra.below hA) (hrb.below hA))
  have HA := Lib.hid hA
  have HB3 := Lib.hid b3
  have hSl : (sumEl p A B (-1)).level = A.level := rfl
  have hSs : (sumEl p A B (-1)).special = A.special := rfl
  obtain ⟨E, hE⟩ : ∃ E, sumEl p A B (-1) = E := ⟨_, rfl⟩
  rw [hE] at HS hSl hSs ⊢
  obtain ⟨m, hm⟩ : ∃ m, E.rows.length = m := ⟨_, rfl⟩
  have hma : (W1.heap.size : Nat) > w.heap.size + 1 + 1 + 1 := b3.lt
  obtain ⟨lv, hlv⟩ : ∃ lv, A.level = lv := ⟨_, rfl⟩
  obtain ⟨sp, hsp⟩ : ∃ sp, A.special = sp := ⟨_, rfl⟩
  unfold El.val Par.cells at *
  rw [hSl, hSs, hm] at HS ⊢
  rw [hlv] at HS hW1 ⊢
  rw [hsp] at HS hW1 ⊢
  have HW1 := Lib.hid hW1
  clear hin hg hM hra hrb hA b3 hlv hsp hW1 hSl hSs hE hm
  go_enter Tryz.func47, Tryz.ntmps47
  go_wp2_with fail
  rw [HW1.out]
  (with_reducible refine Calls.mono HS.out ?_)
  rintro e w3 ⟨ao, c, rfl, hrn, hlc, hcm, hb⟩
  have hb3 := HB3.out.below hb
  have hlt := hb3.lt
  obtain ⟨k0, k1, k2⟩ := el_cells hb3
  have f0 := hb3.free 0
  have f1 := hb3.free 1
  have f2 := hb3.free 2
  have HF : Hid (∀ W4, Turn w3 W4 [w.heap.size + 1 + 1 + 1] → RdRN W4 w.heap.size ao E.rows ∧ m ≤ c ∧ c ≤ 9223372036854775807 ∧ Below w.heap.size w W4) := Lib.hid (fun W4 hT' => by
    exact ⟨(hrn.turn hT' (fun x hx => by simp at hx; omega)).mono (by omega), hlc, hcm, (below_step HA.out hb).trans (hT'.belowN (below_step HA.out hb).size (fun x hx => by simp at hx; omega))⟩)
  clear hb hb3 hrn HS
  go_wp2
  refine bodyPost_ret (v := .agg #[.int .i64 lv, .bool sp, .slice ao m c]) (by simp [results, Tryz.results47, go_sem, k0, k1, k2, hlt]) rfl ⟨ao, c, rfl, ?_⟩
  refine HF.out _ ?_
  repeat (first | exact Turn.refl _ _ | refine Turn.setCell ?_ (.inl (by simp)) _ | refine Turn.alloc ?_ _)

set_option maxHeartbeats 1600000 in
theorem r05Same_walk (a1 a2 : Option Addr) (c1 c2 : Nat) (l : List Nat) (w : World) (hn : l.length ≤ 9223372036854775807) (h1 : Rd w a1 l) (h2 : Rd w a2 l) :
    Calls Tryz.prog 76 #[.slice a1 l.length c1, .slice a2 l.length c2] w fun e w' => e = .returned (.bool true) ∧ ∃ m, w' = w.drewN m := by
  obtain ⟨n, hn'⟩ : ∃ n, l.length = n := ⟨_, rfl⟩
  rw [hn'] at hn ⊢
  have HN := Lib.hid hn'
  have H1 := Lib.hid h1
  have H2 := Lib.hid h2
  clear h1 h2 hn'
  go_enter Tryz.func76, Tryz.ntmps76
  go_wp2
  go_loopg [5] n (fun k vi wr => ∃ i : Nat, vi = .int .i64 i ∧ i ≤ n ∧ n - i ≤ k ∧ Hid (∃ m, wr = w.drewN m))
  case atStart => exact ⟨0, rfl, by omega, by omega, Lib.hid ⟨0, rfl⟩⟩
  case round =>
    obtain ⟨i, rfl, hi, hk, HB⟩ := hrel
    have HBB : Hid (Below w.heap.size w wr) := by obtain ⟨m, h⟩ := HB.out; rw [h]; exact Lib.hid ((Turn.refl w []).drewN m).below
    by_cases hlt : i < n
    · obtain ⟨b1, o1, rfl, hc1⟩ := (H1.out.below HBB.out) i (by rw [HN.out]; exact hlt)
      obtain ⟨b2, o2, rfl, hc2⟩ := (H2.out.below HBB.out) i (by rw [HN.out]; exact hlt)
      have d1 := hc1 i (by rw [HN.out]; exact hlt)
      have d2 := hc2 i (by rw [HN.out]; exact hlt)
      obtain ⟨x, hx⟩ : ∃ x, l.getD i 0 = x := ⟨_, rfl⟩
      rw [hx] at d1 d2
      clear hx hc1 hc2
      go_wp2
      go_quiet (fail)
      go_wp2
      go_roundg (n - (i + 1))
      case measure => omega
      case rel => exact ⟨i + 1, by go_num, by omega, Nat.le_refl _, Lib.hid (by obtain ⟨m, h⟩ := HB.out; exact ⟨m + _, by rw [h, World.drewN_drewN]⟩)⟩
    · obtain rfl : i = n := by omega
      go_wp2
      go_ret
      exact ⟨rfl, HB.out⟩

set_option maxHeartbeats 3200000 in
theorem r09Same_walk (E : El) (a1 a2 : Option Addr) (c1 c2 : Nat) (w : World) (hn : E.rows.length ≤ 9223372036854775807) (hr : ∀ i, i < E.rows.length → (E.row i).length ≤ 9223372036854775807) (h1 : RdR w a1 E.rows) (h2 : RdR w a2 E.rows) :
    Calls Tryz.prog 43 #[E.val a1 c1, E.val a2 c2] w fun e w' => e = .returned (.bool true) ∧ Below w.heap.size w w' := by
  obtain ⟨W1, hW1⟩ : ∃ W1, (w.alloc (.cells #[.int .i64 E.level, .bool E.special, .slice a1 E.rows.length c1] 54)).alloc (.cells #[.int .i64 E.level, .bool E.special, .slice a2 E.rows.length c2] 54) = W1 := ⟨_, rfl⟩
  have hA : Below w.heap.size w W1 := by rw [← hW1]; exact ((Below.refl _ w).alloc (Nat.le_refl _) _).alloc (by simp) _
  have b1 : Blk W1 w.heap.size 54 #[.int .i64 E.level, .bool E.special, .slice a1 E.rows.length c1] := by rw [← hW1]; exact (Blk.new _ _ _).alloc _
  have b2 : Blk W1 (w.heap.size + 1) 54 #[.int .i64 E.level, .bool E.special, .slice a2 E.rows.length c2] := by
    rw [← hW1]
    have := Blk.new (w.alloc (.cells #[.int .i64 E.level, .bool E.special, .slice a1 E.rows.length c1] 54)) 54 #[.int .i64 E.level, .bool E.special, .slice a2 E.rows.length c2]
    rw [World.size_alloc] at this
    exact this
  have HA := Lib.hid hA
  have HB1 := Lib.hid b1
  have HB2 := Lib.hid b2
  have H1 := Lib.hid (h1.below hA)
  have H2 := Lib.hid (h2.below hA)
  have HR := Lib.hid hr
  have HS := Lib.hid (fun (a1 a2 : Option Addr) (c1 c2 : Nat) (l : List Nat) (w : World) (a : l.length ≤ 9223372036854775807) (b : Rd w a1 l) (c : Rd w a2 l) => r05Same_walk a1 a2 c1 c2 l w a b c)
  obtain ⟨lv, hlv⟩ : ∃ lv, E.level = lv := ⟨_, rfl⟩
  obtain ⟨sp, hsp⟩ : ∃ sp, E.special = sp := ⟨_, rfl⟩
  obtain ⟨m, hm⟩ : ∃ m, E.rows.length = m := ⟨_, rfl⟩
  have HM := Lib.hid hm
  unfold El.val at *
  rw [hm] at hn
  rw [hlv, hsp, hm] at HB1 HB2 hW1 ⊢
  obtain ⟨c0, d0, e0⟩ := el_cells HB1.out
  obtain ⟨g0, k0, n0⟩ := el_cells HB2.out
  clear hr h1 h2 hA b1 b2 hlv hsp hm
  go_enter Tryz.func43, Tryz.ntmps43
  go_wp2
  go_loopg [5] m (fun k vi wr => ∃ i : Nat, vi = .int .i64 i ∧ i ≤ m ∧ m - i ≤ k ∧ Hid (Below W1.heap.size W1 wr))
  case atStart => exact ⟨0, rfl, by omega, by omega, Lib.hid (Below.refl _ _)⟩
  case round =>
    clear c0 d0 e0 g0 k0 n0
    obtain ⟨i, rfl, hi, hk, HB⟩ := hrel
    obtain ⟨c0, d0, e0⟩ := el_cells (HB1.out.below HB.out)
    obtain ⟨g0, k0, n0⟩ := el_cells (HB2.out.below HB.out)
    by_cases hlt : i < m
    · obtain ⟨x1, o1, rfl, hc1⟩ := (H1.out.below HB.out) i (by rw [HM.out]; exact hlt)
      obtain ⟨x2, o2, rfl, hc2⟩ := (H2.out.below HB.out) i (by rw [HM.out]; exact hlt)
      obtain ⟨r1, s1, k1, t1, _⟩ := hc1 i (by rw [HM.out]; exact hlt)
      obtain ⟨r2, s2, k2, t2, _⟩ := hc2 i (by rw [HM.out]; exact hlt)
      have HC := Lib.hid (fun x => HS.out r1 r2 s1 s2 (E.row i) (wr.drewN x) (HR.out i (by rw [HM.out]; exact hlt)) t1 t2)
      have HBd : Hid (∀ x, Below W1.heap.size W1 (wr.drewN x)) := Lib.hid (fun x => below_step HB.out ((Turn.refl wr []).drewN x).below)
      change wr.cell? _ = some (.slice r1 (E.row i).length s1) at k1
      change wr.cell? _ = some (.slice r2 (E.row i).length s2) at k2
      obtain ⟨y, hy⟩ : ∃ y, (E.row i).length = y := ⟨_, rfl⟩
      rw [hy] at k1 k2 HC
      have i0 : (0 : Int) ≤ (i : Int) := Int.natCast_nonneg _
      have i1 : (i : Int) < (m : Int) := by omega
      clear hc1 hc2 t1 t2 hy
      go_wp2
      go_quiet ((go_at_call 76; exact Calls.quiet_of (HC.out _)))
      go_wp2
      go_roundg (m - (i + 1))
      case measure => omega
      case rel => exact ⟨i + 1, by go_num, by omega, Nat.le_refl _, Lib.hid (HBd.out _)⟩
    · obtain rfl : i = m := by omega
      go_wp2
      go_ret
      exact ⟨rfl, below_step HA.out HB.out⟩
end Go.Proofs.YtcipjbckcnkfaaaGreat
