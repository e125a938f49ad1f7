/- The program's supply: Uniform, with its closure. -/
import Derived.Test.YtkjfpaaiomioaaaSupC
namespace Go.Proofs.Ytkjfpaaiomioaaa
open Go.RowKit Go.Shelf

theorem enters_uniformC : ∀ args w, (callFunc 38 args).run Try.prog w = .ok (.enter 38 args) w := enters_of Try.func38 (by kernel_rfl) rfl

/-- What Uniform's closure comes to. -/
def FillPost (w : World) (b g : Nat) (s : ByteArray) (e : TypeId) (kd : IntKind) (f : Nat → Int) (r : Option (List Nat × Nat)) (en : Ending) (w' : World) : Prop :=
  match r with
  | some (l, d) => en = .returned (.bool true) ∧ SupAt w' b s d ∧ IntRow w' g e kd (l.map f) ∧ Turn w w' [b, g]
  | none => en = .returned (.bool false) ∧ (∃ d, SupAt w' b s d) ∧ Turn w w' [b, g]

set_option maxHeartbeats 1000000 in
theorem uniformC_any (b o p q g : Nat) (s : ByteArray) (c n m : Nat) (w : World) (hs : s.size ≤ 1048576) (hc : c ≤ 8 * s.size) (hm : 1 ≤ m) (hm2 : m ≤ 4294967295) (hn : n ≤ 4096) (hS : SupAt w b s c)
    (ho : w.cell? ⟨o, 0, none⟩ = some (.slice (some ⟨g, 0, none⟩) n n)) (hp : w.cell? ⟨p, 0, none⟩ = some (.pointer (some ⟨b, 0, none⟩))) (hq : w.cell? ⟨q, 0, none⟩ = some (.int .u32 m)) (hg : IntRow w g 39 .u32 (List.replicate n 0))
    (n1 : o ≠ b) (n2 : o ≠ g) (n3 : p ≠ b) (n4 : p ≠ g) (n5 : q ≠ b) (n6 : q ≠ g) (n7 : g ≠ b) :
    Calls Try.prog 38 #[.pointer (some ⟨o, 0, none⟩), .pointer (some ⟨p, 0, none⟩), .pointer (some ⟨q, 0, none⟩)] w (FillPost w b g s 39 .u32 (fun v : Nat => (v : Int)) (takeL s m n c)) := by
  obtain ⟨r, hr⟩ : ∃ r, takeL s m n c = r := ⟨_, rfl⟩
  rw [hr]
  have HR := Lib.hid hr
  clear hr
  go_enter Try.func38, Try.ntmps38
  go_wp2
  go_loopw [9] (fun i wr => ∃ (k d : Nat) (l : List Nat), k ≤ n ∧ i = .int .i64 k ∧ d ≤ 8 * s.size ∧ Hid (takeL s m k c = some (l, d)) ∧ SupAt wr b s d ∧ IntRow wr g 39 .u32 (l.map (fun v : Nat => (v : Int)) ++ List.replicate (n - k) 0) ∧ Turn w wr [b, g]) (fun i _ => n - (intOf i).toNat)
  case atStart => exact ⟨0, c, [], Nat.zero_le _, rfl, hc, Lib.hid rfl, hS, hg, Turn.refl _ _⟩
  case round =>
    obtain ⟨k, d, l, hk, rfl, hd, HT, hSr, hgr, hT⟩ := hrel
    have go := hT.cell ho (by simp [n1, n2])
    have gp := hT.cell hp (by simp [n3, n4])
    have gq := hT.cell hq (by simp [n5, n6])
    by_cases hlt : k < n
    · rcases hb : belowL s m d with _ | ⟨v, d'⟩
      · have H := below_any b s d m wr hs hd hm (by omega) hSr
        rw [hb] at H
        have HB := Lib.hid hb
        have HH := Lib.hid H
        clear hb H
        go_wp2_with fail
        refine HH.out.mono ?_
        rintro e w1 ⟨rfl, ⟨d2, hd2, hS1⟩, hg1⟩
        go_wp2
        go_ret
        have hn := takeL_none (takeL_stop HT.out HB.out) n (by omega)
        rw [← HR.out, hn]
        exact ⟨rfl, ⟨d2, hS1⟩, hT.trans (Turn.of_grown hg1 (by simp))⟩
      · have H := below_any b s d m wr hs hd hm (by omega) hSr
        rw [hb] at H
        have hbs := belowL_spec hb
        have hv : v ≤ 4294967295 := by omega
        have HB := Lib.hid hb
        have HH := Lib.hid H
        clear hb H
        go_wp2_with fail
        refine HH.out.mono ?_
        rintro e w1 ⟨rfl, hS1, hg1⟩
        have hT1 := Turn.of_grown hg1 (S := [b]) (by simp)
        have hT2 := hT.trans (Turn.of_grown hg1 (S := [b, g]) (by simp))
        have go1 := hT2.cell ho (by simp [n1, n2])
        have hgr1 := hgr.turn hT1 (by simpa using n7)
        have hl := takeL_spec1 hc HT.out
        have hcell := hgr1.cell k (by simp [hl]; omega)
        have hfree := hgr1.free k
        have HL := Lib.hid hl
        clear hl
        go_wp2
        go_roundw
        case rel =>
          refine ⟨k + 1, d', l ++ [v], by omega, by go_num, hbs.2.2, Lib.hid (takeL_more HT.out HB.out), hS1.other n7.symm _, ?_, hT2.setCell (.inl (by simp)) _⟩
          have hset := hgr1.set k v
          have e1 := fill_set (l.map (fun v : Nat => (v : Int))) (v : Int) 0 n (by simp [HL.out]; omega)
          rw [List.length_map, HL.out] at e1
          rw [e1] at hset
          rw [List.map_append]
          exact hset
        case measure => simp [intOf]; omega
    · go_wp2
      go_ret
      obtain rfl : k = n := by omega
      rw [← HR.out, HT.out]
      rw [Nat.sub_self, List.replicate_zero, List.append_nil] at hgr
      exact ⟨rfl, hSr, hgr, hT⟩
end Go.Proofs.Ytkjfpaaiomioaaa
