/- The reference's supply: Bounded. -/
import Derived.Test.YtkjfpaaiomioaaaSupRU
import Derived.Test.YtkjfpaaiomioaaaSupL
namespace Go.Proofs.Ytkjfpaaiomioaaa
open Go.RowKit Go.Shelf

set_option maxHeartbeats 1000000 in
theorem rbounded (b : Nat) (s : ByteArray) (c q : Nat) (n : Int) (w : World) (hs : s.size ≤ 1048576) (hc : c ≤ 8 * s.size) (hq : q ≤ 4294967295) (hS : RefAt w b s c) :
    Calls Try.prog 36 #[.pointer (some ⟨b, 0, none⟩), .int .i64 n, .int .u32 q] w (RListPost w b s 2 .i64 (boundedR s c n q)) := by
  have h0 := hS.c1
  have hb := hS.lt
  obtain ⟨i0, hi, hz0, hz1, hz2⟩ := info_parts info_i64
  obtain ⟨r, hr⟩ : ∃ r, boundedR s c n q = r := ⟨_, rfl⟩
  rw [hr]
  have HR := Lib.hid hr
  clear hr
  by_cases h1 : n < 0 ∨ 4096 < n ∨ 2147483647 < q
  · have e : r = ([], 2, c) := by rw [← HR.out, boundedR, if_pos h1]
    subst e
    by_cases h2 : n < 0
    · go_enter Try.func36, Try.ntmps36
      go_wp2
      go_ret2
      exact rlistPost_nil hS (Turn.refl _ _)
    by_cases h3 : 4096 < n
    · go_enter Try.func36, Try.ntmps36
      go_wp2
      go_ret2
      exact rlistPost_nil hS (Turn.refl _ _)
    · have h4 : 2147483647 < q := by omega
      clear h1
      go_enter Try.func36, Try.ntmps36
      go_wp2
      go_ret2
      exact rlistPost_nil hS (Turn.refl _ _)
  · have e : r = boundedR s c n q := HR.out.symm
    rw [boundedR, if_neg h1] at e
    have h2 : ¬ n < 0 := by omega
    have h3 : ¬ 4096 < n := by omega
    have h4 : ¬ 2147483647 < q := by omega
    clear h1
    obtain ⟨k, rfl⟩ := Int.eq_ofNat_of_zero_le (show 0 ≤ n by omega)
    rw [Int.toNat_natCast] at e
    have HE := Lib.hid e
    clear e
    go_enter Try.func36, Try.ntmps36
    go_wp2
    go_loopw [9, 10] (fun v i wr => ∃ (j d : Nat) (l : List Nat), j ≤ k ∧ i = .int .i64 j ∧ d ≤ 8 * s.size ∧ Hid (takeL s (2 * q + 1) j c = some (l, d)) ∧ RefAt wr b s d ∧ wr.ownsRow w.heap.size 2 1 v j ((l.map (fun v : Nat => (v : Int) - (q : Int))).map (Value.int .i64)) ∧ Turn w wr [b]) (fun _ i _ => k - (intOf i).toNat)
    case atStart => exact ⟨0, c, [], Nat.zero_le _, rfl, hc, Lib.hid rfl, hS, World.ownsRow_nil _ _ _ _, Turn.refl _ _⟩
    case round =>
      obtain ⟨j, d, l, hj, rfl, hd, HT, hSr, hown, hT⟩ := hrel
      by_cases hlt : j < k
      · have H := rbelow_any b s d (2 * q + 1) _ hs hd (by omega) (by omega) hSr
        rcases hL : belowL s (2 * q + 1) d with _ | ⟨x, d'⟩
        · rw [hL] at H
          have HH := Lib.hid H
          have HL := Lib.hid hL
          clear H hL
          go_wp2_with fail
          refine HH.out.mono ?_
          rintro e w1 ⟨rfl, ⟨d2, hd2, hS1⟩, hg⟩
          have k1 := hS1.c1
          have k2 := hS1.f1
          go_wp2
          go_ret2
          have hn := takeL_none (takeL_stop HT.out HL.out) k (by omega)
          have e : r = ([], 4, c) := by rw [HE.out, hn]
          subst e
          exact rlistPost_nil (hS1.set c) ((hT.trans (Turn.of_grown hg (by simp))).setCell (.inl (by simp)) _)
        · rw [hL] at H
          have hbs := belowL_spec hL
          have HH := Lib.hid H
          have HL := Lib.hid hL
          clear H hL
          have hx : x ≤ 4294967295 := by omega
          go_wp2_with fail
          refine HH.out.mono ?_
          rintro e w1 ⟨rfl, hS1, hg⟩
          have hvb := hown.lt
          have hown1 := hown.kept hg (.inr (fun e => by have := hvb b e; omega))
          have hT1 := hT.trans (Turn.of_grown hg (S := [b]) (by simp))
          have hw1 := hT1.size
          have HV := Lib.hid hvb
          clear hvb
          go_wp2_with (at_builtin; refine wpList_append_own _ rfl _ _ 36 rfl w.heap.size 2 i0 (.int .i64 0) 1 8 Try.underlying36 hi hz0 hz1 hz2 rfl (by decide) _ _ _ rfl (hown1.alloc _) ⟨w1.heap.size, 0, none⟩ 1 1 [.int .i64 ((x : Int) - (q : Int))] rfl rfl ?c1 ?c2 ?c3 ?c4 ?c5 ?_)
          case c1 =>
            intro t u ht
            match t, ht with
            | 0, ht => simp at ht; subst ht; simp [Addr.add]
          case c2 => intro u hu; simp at hu; subst hu; rfl
          case c3 => unfold maxLen; omega
          case c4 => omega
          case c5 => simp; omega
          · intro v' w2 hown2 hg2 _
            have HO := Lib.hid hown2
            clear hown2
            go_wp2
            go_roundw
            case rel =>
              refine ⟨j + 1, d', l ++ [x], by omega, by go_num, hbs.2.2, Lib.hid (takeL_more HT.out HL.out), ?_, ?_, ?_⟩
              · exact (hS1.alloc _).kept hg2 (fun e => by have := HV.out b e.symm; omega)
              · have h := HO.out
                rw [List.map_append, List.map_append, List.map_map]
                exact h
              · have ht := hT1.alloc (.cells #[.int .i64 ((x : Int) - (q : Int))] 2)
                exact ⟨hg2.os.trans ht.os, hg2.tape.trans ht.tape, hg2.output.trans ht.output, Nat.le_trans ht.size hg2.size, fun i hi hne => (hg2.block i (Nat.lt_of_lt_of_le hi ht.size) (fun e => by have := HV.out i e.symm; omega)).trans (ht.block i hi hne)⟩
            case measure => simp [intOf]; omega
      · go_wp2
        go_ret2
        obtain rfl : j = k := by omega
        have hlen := takeL_spec1 hc HT.out
        have e : r = (l.map (fun v : Nat => (v : Int) - (q : Int)), 0, d) := by rw [HE.out, HT.out]
        subst e
        refine ⟨_, rfl, ?_, fun i hi => (hown.lt i hi).1, hSr, hT⟩
        have e1 : (l.map (fun v : Nat => (v : Int) - (q : Int))).length = j := by rw [List.length_map]; exact hlen
        rw [e1]
        exact owns_base hown
end Go.Proofs.Ytkjfpaaiomioaaa
