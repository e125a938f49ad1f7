/- An act of both supplies is alike. -/
import Derived.Test.YtkjfpaaiomioaaaSupUM
import Derived.Test.YtkjfpaaiomioaaaSupBM
import Derived.Test.YtkjfpaaiomioaaaSupRBd
import Derived.Test.YtkjfpaaiomioaaaSupRT
import Derived.Test.YtkjfpaaiomioaaaSameW
import Derived.Test.YtkjfpaaiomioaaaSameL
import Derived.Test.YtkjfpaaiomioaaaSmall
namespace Go.Proofs.Ytkjfpaaiomioaaa
open Go.RowKit Go.Shelf

/-- Two supplies, of the program and of the reference, behind an act. -/
def DoesPost (w : World) (b1 b2 : Nat) (s1 s2 : ByteArray) (d : Nat) (e : Ending) (w' : World) : Prop :=
  e = .returned (.bool true) ∧ SupAt w' b1 s1 d ∧ RefAt w' b2 s2 d ∧ Turn w w' [b1, b2]
/-- The block of an act. -/
def actObj (what : Nat) (n h : Int) (q : Nat) : Obj := .cells #[.int .u8 what, .int .i64 n, .int .i64 h, .int .u64 q] 47 (0, 0)
theorem act_cell {w : World} {a what : Nat} {n h : Int} {q : Nat} (hA : w.heap[a]? = some (actObj what n h q)) :
    w.cell? ⟨a, 1, none⟩ = some (.int .i64 n) ∧ w.cell? ⟨a, 2, none⟩ = some (.int .i64 h) ∧ w.cell? ⟨a, 3, none⟩ = some (.int .u64 q) := by
  unfold actObj at hA
  simp [World.cell?, hA]
theorem act_new (w : World) (what : Nat) (n h : Int) (q : Nat) : (w.alloc (.cells #[.int .u8 what, .int .i64 n, .int .i64 h, .int .u64 q] 47)).heap[w.heap.size]? = some (actObj what n h q) := heap_alloc_new w _

set_option maxHeartbeats 1000000 in
theorem does_bits (b1 b2 : Nat) (s1 s2 : ByteArray) (c what : Nat) (n h : Int) (q : Nat) (w : World) (hs1 : s1.size ≤ 1048576) (hs2 : s2.size ≤ 1048576) (hc1 : c ≤ 8 * s1.size) (hc2 : c ≤ 8 * s2.size) (_hq : q ≤ 18446744073709551615) (hS : SupAt w b1 s1 c) (hR : RefAt w b2 s2 c)
    (hne : b1 ≠ b2) (hw5 : what % 5 = 0) (hw : what ≤ 255) (hA : bitsR s2 c n = bitsR s1 c n) :
    Calls Try.prog 15 #[.pointer (some ⟨b1, 0, none⟩), .pointer (some ⟨b2, 0, none⟩), .agg #[.int .u8 what, .int .i64 n, .int .i64 h, .int .u64 q]] w (DoesPost w b1 b2 s1 s2 (bitsR s1 c n).2.2) := by
  have e5 : (what : Int) % 5 = 0 := by omega
  have H1 := Lib.hid hA
  clear hA hw5
  have hb1 := hS.lt
  have hb2 := hR.lt
  obtain ⟨r, hr⟩ : ∃ r, bitsR s1 c n = r := ⟨_, rfl⟩
  rw [hr]
  have HR := Lib.hid hr
  clear hr
  obtain ⟨r1, r2, r3⟩ := r
  go_enter Try.func15, Try.ntmps15
  go_wp2_with fail
  refine (bits_sup b1 s1 c n _ hs1 hc1 (hS.alloc _)).mono ?_
  rw [HR.out]
  rintro e w1 ⟨rfl, hS1, hT1⟩
  have hR1 := (hR.alloc (.cells #[.int .u8 what, .int .i64 n, .int .i64 h, .int .u64 q] 47)).turn hT1 (by simpa using hne.symm)
  have hA1 := hT1.at (act_new w what n h q) (by simp; omega)
  obtain ⟨a1, a2, a3⟩ := act_cell hA1
  have HA1 := Lib.hid hA1
  clear hA1
  go_wp2_with fail
  refine (rbits b2 s2 c n _ hs2 hc2 hR1).mono ?_
  rw [H1.out, HR.out]
  rintro e w2 ⟨rfl, hR2, hT2⟩
  go_wp2
  go_ret
  exact ⟨rfl, hS1.turn hT2 (by simpa using hne), hR2, (((Turn.refl w [b1, b2]).alloc _).new hT1 (fun j hj => by simp at hj; exact .inr (by simp [hj]))).new hT2 (fun j hj => by simp at hj; exact .inr (by simp [hj]))⟩

set_option maxHeartbeats 1000000 in
theorem does_below (b1 b2 : Nat) (s1 s2 : ByteArray) (c what : Nat) (n h : Int) (q : Nat) (w : World) (hs1 : s1.size ≤ 1048576) (hs2 : s2.size ≤ 1048576) (hc1 : c ≤ 8 * s1.size) (hc2 : c ≤ 8 * s2.size) (hq : q ≤ 18446744073709551615) (hS : SupAt w b1 s1 c) (hR : RefAt w b2 s2 c)
    (hne : b1 ≠ b2) (hw5 : what % 5 = 1) (hw : what ≤ 255) (hA : belowR s2 c q = belowR s1 c q) :
    Calls Try.prog 15 #[.pointer (some ⟨b1, 0, none⟩), .pointer (some ⟨b2, 0, none⟩), .agg #[.int .u8 what, .int .i64 n, .int .i64 h, .int .u64 q]] w (DoesPost w b1 b2 s1 s2 (belowR s1 c q).2.2) := by
  have e5 : (what : Int) % 5 = 1 := by omega
  have H1 := Lib.hid hA
  clear hA hw5
  have hb1 := hS.lt
  have hb2 := hR.lt
  obtain ⟨r, hr⟩ : ∃ r, belowR s1 c q = r := ⟨_, rfl⟩
  rw [hr]
  have HR := Lib.hid hr
  clear hr
  obtain ⟨r1, r2, r3⟩ := r
  go_enter Try.func15, Try.ntmps15
  go_wp2_with fail
  refine (below_sup b1 s1 c q _ hs1 hc1 hq (hS.alloc _)).mono ?_
  rw [HR.out]
  rintro e w1 ⟨rfl, hS1, hT1⟩
  have hR1 := (hR.alloc (.cells #[.int .u8 what, .int .i64 n, .int .i64 h, .int .u64 q] 47)).turn hT1 (by simpa using hne.symm)
  have hA1 := hT1.at (act_new w what n h q) (by simp; omega)
  obtain ⟨a1, a2, a3⟩ := act_cell hA1
  have HA1 := Lib.hid hA1
  clear hA1
  go_wp2_with fail
  refine (rbelowM b2 s2 c q _ hs2 hc2 hq hR1).mono ?_
  rw [H1.out, HR.out]
  rintro e w2 ⟨rfl, hR2, hT2⟩
  go_wp2
  go_ret
  exact ⟨rfl, hS1.turn hT2 (by simpa using hne), hR2, (((Turn.refl w [b1, b2]).alloc _).new hT1 (fun j hj => by simp at hj; exact .inr (by simp [hj]))).new hT2 (fun j hj => by simp at hj; exact .inr (by simp [hj]))⟩
end Go.Proofs.Ytkjfpaaiomioaaa
