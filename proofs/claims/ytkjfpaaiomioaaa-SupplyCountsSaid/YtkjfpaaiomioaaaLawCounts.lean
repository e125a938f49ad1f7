/- SupplyCounts: its walk. -/
import Derived.Test.YtkjfpaaiomioaaaCntPlain
import Derived.Test.YtkjfpaaiomioaaaPick
import Derived.Test.YtkjfpaaiomioaaaLawNone
namespace Go.Proofs.Ytkjfpaaiomioaaa
open Go.RowKit Go.Shelf

/-- Block g is a row of truth values. -/
def BoolRow (w : World) (g : Nat) (l : List Bool) : Prop := w.heap[g]? = some (.cells (l.map Value.bool).toArray 4 (0, 0))
section
variable {w : World} {g : Nat} {l : List Bool}
theorem BoolRow.cell (h : BoolRow w g l) (k : Nat) (hk : k < l.length) : w.cell? ⟨g, k, none⟩ = some (.bool (l.getD k false)) := by
  unfold BoolRow at h; simp [World.cell?, h, List.getD_eq_getElem?_getD, hk]
theorem BoolRow.free (h : BoolRow w g l) (k : Nat) : w.frozen? ⟨g, k, none⟩ = false := by
  unfold BoolRow at h; simp [World.frozen?, h]
theorem BoolRow.turn {w' : World} {S : List Nat} (h : BoolRow w g l) (ht : Turn w w' S) (hn : g ∉ S) : BoolRow w' g l := ht.at h hn
theorem BoolRow.set (h : BoolRow w g l) (k : Nat) (x : Bool) : BoolRow (w.setCell ⟨g, k, none⟩ (.bool x)) g (l.set k x) := by
  unfold BoolRow at *
  simp [World.setCell, Array.getElem?_modify, h, List.map_set]
end
/-- A row of 'not seen', as make lays it. -/
def falseRow (n : Nat) : Array Value := ((List.replicate n false).map Value.bool).toArray
theorem info_bool : (Try.prog.info? 4).map (fun i => (i.zero, i.size, i.bytes)) = some (some (.bool false), 1, 1) := by kernel_rfl
theorem falseRow_made (n : Nat) : madeCells #[Value.bool false] n = falseRow n := by
  apply Array.toList_inj.1
  rw [toList_madeCells_one]
  simp [falseRow]
theorem mk_bool (n : Nat) (hn : n ≤ 100000) (W : World) : (Instr.makeSlice 24 (.int .i64 (n : Int)) (.int .i64 (n : Int))).run Try.prog W = .ok (.slice (some ⟨W.heap.size, 0, none⟩) n n) (W.alloc (.cells (falseRow n) 4)) := by
  rw [← falseRow_made]
  exact run_make_row' 24 4 (.bool false) 1 Try.underlying24 info_bool rfl .i64 .i64 n (by omega) (by omega) W

/-- The string of one byte. -/
def oneStr (X : Nat) : ByteArray := bytesOf [(X : Int)]
theorem size_one (X : Nat) : (oneStr X).size = 1 := by unfold oneStr; rw [size_bytesOf]; rfl
theorem byte_one (X : Nat) (h : X < 256) : byteAt (oneStr X) 0 = X := by
  unfold byteAt oneStr bytesOf
  simp [ByteArray.push]
  omega
theorem conv_one (X : Nat) (W : World) : (convert 27 9 (.slice (some ⟨W.heap.size, 0, none⟩) 1 1)).run Try.prog (W.alloc (.cells #[.int .u8 (X : Int)] 5)) = .ok (.string (oneStr X)) (W.alloc (.cells #[.int .u8 (X : Int)] 5)) :=
  string_of_row (ns := [(X : Int)]) (heap_alloc_new W _) rfl

set_option maxRecDepth 100000 in
set_option maxHeartbeats 4000000 in
theorem counts_near (n h : Int) (s : ByteArray) (w : World) (hs : s.size ≤ 5000) :
    Calls Try.prog 3 #[.int .i64 n, .int .i64 h, .string s] w fun e w' => e = .returned (.bool true) ∧ Below w.heap.size w w' := by
  obtain ⟨p, hp, hp2⟩ : ∃ p : Nat, n % 200 = (p : Int) ∧ p < 200 := ⟨(n % 200).toNat, by omega, by omega⟩
  have HP := Lib.hid hp
  clear hp
  go_enter Try.func3, Try.ntmps3
  go_wp2_with fail
  refine (pick_any n 200 _ (by omega) (by omega)).mono ?_
  rw [HP.out]
  rintro e w1 ⟨rfl, rfl⟩
  obtain ⟨m, hm⟩ : ∃ m, m = 1 + p := ⟨_, rfl⟩
  have e1 : (1 : Int) + (p : Int) = (m : Int) := by omega
  have hm1 : 1 ≤ m := by omega
  have hm2 : m ≤ 200 := by omega
  obtain ⟨K, hK⟩ : ∃ K, lenBits (m - 1) = K := ⟨_, rfl⟩
  have hK8 : K ≤ 8 := by rw [← hK]; exact lenBits_le (by omega)
  have HK := Lib.hid hK
  clear hK hm hp2 HP
  go_wp2
  clear e1
  go_loop [8] (fun i => ∃ k : Nat, i = .int .i64 k ∧ k ≤ K) (fun i => K - (intOf i).toNat)
  case atStart => exact ⟨0, rfl, Nat.zero_le _⟩
  case round =>
    obtain ⟨k, rfl, hk⟩ := hrel
    have hpow : 2 ^ k ≤ 256 := Nat.pow_le_pow_right (n := 2) (by decide) (show k ≤ 8 by omega)
    obtain ⟨P, hP⟩ : ∃ P, 2 ^ k = P := ⟨_, rfl⟩
    have hPi : (2 : Int) ^ k = (P : Int) := by rw [← hP]; simp
    by_cases hlt : P < m
    · have hkK : k < K := by
        have h1 := lt_lenBits (m - 1)
        rw [HK.out] at h1
        rcases Nat.lt_or_ge k K with h2 | h2
        · exact h2
        · have := Nat.pow_le_pow_right (n := 2) (by decide) h2
          omega
      go_wp2
      go_round
      case rel => exact ⟨k + 1, by go_num, by omega⟩
      case measure => simp [intOf]; omega
    · have hkK : k = K := by
        have := lenBits_le (n := m - 1) (k := k) (by rw [hP]; omega)
        rw [HK.out] at this; omega
      subst hkK
      have hmk := mk_bool m (by omega)
      have hrow0 : BoolRow (w1.alloc (.cells (falseRow m) 4)) w1.heap.size (List.replicate m false) := heap_alloc_new w1 _
      have HR0 := Lib.hid hrow0
      clear hrow0
      go_wp2
      go_loopw [10, 11] (fun cv i wr => ∃ x c : Nat, Hid (c = min x m) ∧ i = .int .i64 x ∧ x ≤ P ∧ cv = .int .i64 c ∧ c ≤ 200 ∧ BoolRow wr w1.heap.size (List.replicate c true ++ List.replicate (m - c) false) ∧ Turn w1 wr []) (fun _ i _ => P - (intOf i).toNat)
      case atStart => exact ⟨0, 0, Lib.hid (by simp), rfl, Nat.zero_le _, rfl, Nat.zero_le _, by simpa using HR0.out, (Turn.refl _ _).alloc _⟩
      case round =>
        obtain ⟨x, c, HC, rfl, hx, rfl, hc200, hrow, hT⟩ := hrel
        have hg : w1.heap.size < wr.heap.size := block_lt hrow
        by_cases hxP : x < P
        · obtain ⟨X, hX⟩ : ∃ X, x * 2 ^ (8 - k) = X := ⟨_, rfl⟩
          have hX8 : X < 256 := by rw [← hX]; exact shift_byte hK8 (by rw [hP]; exact hxP)
          have hXi : (x : Int) * 2 ^ (8 - k) = (X : Int) := by rw [← hX]; simp
          have hcv := conv_one X
          have hbyte := byte_one X hX8
          have hB := belowR_byte (s := oneStr X) (m := m) (k := k) (x := x) (size_one X) hm1 HK.out hK8 (by rw [hbyte, hX])
          have HB := Lib.hid hB
          have HXX := Lib.hid hX
          clear hB hbyte hX
          go_wp2_with fail
          refine (new_sup (oneStr X) _ (by rw [size_one]; decide)).mono ?_
          rintro e w2 ⟨rfl, rfl⟩
          have hS := new_sup_at (oneStr X) (wr.alloc (.cells #[.int .u8 (X : Int)] 5))
          rw [World.size_alloc] at hS
          go_wp2_with fail
          refine (below_sup _ (oneStr X) 0 m _ (by rw [size_one]; decide) (by omega) (by omega) hS).mono ?_
          by_cases hxm : x < m
          · have hr := HB.out.1 hxm
            rw [hr]
            rintro e w3 ⟨rfl, hS3, hT3⟩
            obtain rfl : c = x := by have := HC.out; omega
            have hT3w : Turn w1 w3 [] := ((hT.alloc _).alloc _).new hT3 (fun j hj => by simp at hj; exact .inl (by omega))
            have hrow3 : BoolRow w3 w1.heap.size (List.replicate c true ++ List.replicate (m - c) false) := ((heap_past _ _ _ (by simp; omega)).trans ((heap_past _ _ _ hg).trans hrow) |> fun h => hT3.at h (by simp; omega))
            have hcell := hrow3.cell c (by simp; omega)
            have hget : (List.replicate c true ++ List.replicate (m - c) false).getD c false = false := by
              rw [List.getD_eq_getElem?_getD, List.getElem?_append_right (by simp), List.length_replicate, Nat.sub_self, List.getElem?_replicate, if_pos (by omega)]; rfl
            rw [hget] at hcell
            have hfree := hrow3.free c
            clear hget hr
            go_wp2_with fail
            refine (taken_sup _ (oneStr X) k _ hS3).mono ?_
            rintro e w4 ⟨rfl, rfl⟩
            go_wp2
            go_roundw
            case rel =>
              refine ⟨c + 1, c + 1, Lib.hid (by omega), by go_num, by omega, by go_num, by omega, ?_, hT3w.setCell (.inr (Nat.le_refl _)) _⟩
              have h := hrow3.set c true
              have hf := fill_set (List.replicate c true) true false m (by simp; omega)
              rw [List.length_replicate] at hf
              rw [hf] at h
              rw [List.replicate_succ']
              exact h
            case measure => simp [intOf]; omega
          · have hno := HB.out.2 hxm
            obtain ⟨⟨r1, r2, r3⟩, hr⟩ : ∃ r, belowR (oneStr X) 0 m = r := ⟨_, rfl⟩
            rw [hr] at hno ⊢
            have hcm : m ≤ x := by omega
            have hno' : r2 = 0 → ¬ r3 = k := hno
            have HNO := Lib.hid hno'
            clear hno hno' hr
            rintro e w3 ⟨rfl, hS3, hT3⟩
            have hT3w : Turn w1 w3 [] := ((hT.alloc _).alloc _).new hT3 (fun j hj => by simp at hj; exact .inl (by omega))
            have hrow3 : BoolRow w3 w1.heap.size (List.replicate c true ++ List.replicate (m - c) false) := ((heap_past _ _ _ (by simp; omega)).trans ((heap_past _ _ _ hg).trans hrow) |> fun h => hT3.at h (by simp; omega))
            have HC2 : Hid (c = min (x + 1) m) := Lib.hid (by have := HC.out; omega)
            by_cases hr2 : r2 = 0
            · have hr3 := HNO.out hr2
              subst hr2
              have hr3b : ((r3 : Int) == (k : Int)) = false := by rw [beq_eq_false_iff_ne]; omega
              clear hr3
              go_wp2_with fail
              refine (taken_sup _ (oneStr X) r3 _ hS3).mono ?_
              rintro e w4 ⟨rfl, rfl⟩
              go_wp2
              go_roundw
              case rel => exact ⟨x + 1, c, HC2, by go_num, by omega, rfl, hc200, hrow3, hT3w⟩
              case measure => simp [intOf]; omega
            · have hr2b : ((r2 : Int) == 0) = false := by simpa using hr2
              clear hr2
              go_wp2
              go_roundw
              case rel => exact ⟨x + 1, c, HC2, by go_num, by omega, rfl, hc200, hrow3, hT3w⟩
              case measure => simp [intOf]; omega
        · obtain rfl : c = m := by have := HC.out; omega
          obtain ⟨wo, rfl⟩ : ∃ wo : World, wo = wr := ⟨_, rfl⟩
          clear hrow hg
          obtain ⟨W, hW, hW2⟩ : ∃ W : Nat, h % ((c : Int) + 1) = (W : Int) ∧ W ≤ c := by
            have h1 := Int.emod_nonneg h (show ((c : Int) + 1) ≠ 0 by omega)
            have h2 := Int.emod_lt_of_pos h (show 0 < (c : Int) + 1 by omega)
            exact ⟨(h % ((c : Int) + 1)).toNat, by omega, by omega⟩
          have HWW := Lib.hid hW
          clear hW
          go_wp2_with fail
          refine (pick_any h ((c : Int) + 1) _ (by omega) (by omega)).mono ?_
          rw [HWW.out]
          rintro e w2 ⟨rfl, rfl⟩
          go_wp2_with fail
          refine (new_sup s _ (by omega)).mono ?_
          rintro e w3 ⟨rfl, rfl⟩
          have hS := new_sup_at s w2
          go_wp2_with fail
          refine (ternary_sup _ s 0 c W _ (by omega) (Nat.zero_le _) hS).mono ?_
          have hto' := ternaryR_ok (s := s) (m := c) (h := W) hm1 (by omega) hW2
          obtain ⟨⟨O, e1, d1⟩, hr1⟩ : ∃ r, ternaryR s 0 c W = r := ⟨_, rfl⟩
          rw [hr1] at hto' ⊢
          have hto : (e1 = 0 ∧ O.length = c ∧ nz O = W ∧ ∀ x ∈ O, -1 ≤ x ∧ x ≤ 1) ∨ (e1 = 4 ∧ O = []) := hto'
          clear hto' hr1
          rintro e w3 ⟨v1, rfl, hv1, hB1, hS3, hT3⟩
          have hT3w : Turn w1 w3 [] := (hT.alloc _).new hT3 (fun j hj => by have := hT.size; simp at hj; exact .inl (by omega))
          have hv1' : w3.ownsRow 0 40 1 v1 O.length (O.map (Value.int .i8)) := hv1
          have hv1lt := hv1'.lt
          go_wp2_with fail
          refine (new_sup s _ (by omega)).mono ?_
          rintro e w4 ⟨rfl, rfl⟩
          have hS4 := new_sup_at s w3
          go_wp2_with fail
          refine (bounded_sup _ s 0 W c _ (by omega) (Nat.zero_le _) (by omega) hS4).mono ?_
          have hbo' := boundedR_ok (s := s) (m := c) (b := W) (by omega) (by omega)
          obtain ⟨⟨B, f2, d2⟩, hr2⟩ : ∃ r, boundedR s 0 c W = r := ⟨_, rfl⟩
          rw [hr2] at hbo' ⊢
          have hbo1 : (f2 = 0 ∧ B.length = c ∧ ∀ x ∈ B, -(W : Int) ≤ x ∧ x ≤ W) ∨ (f2 = 4 ∧ B = []) := hbo'
          clear hbo' hr2
          rintro e w6 ⟨v2, rfl, hv2, hB2, hS6, hT6a⟩
          have hT6 : Turn w1 w6 [] := (hT3w.alloc _).new hT6a (fun j hj => by have := hT3w.size; simp at hj; exact .inl (by omega))
          have hv2' : w6.ownsRow 0 2 1 v2 B.length (B.map (Value.int .i64)) := hv2
          have hv1'' : w6.ownsRow 0 40 1 v1 O.length (O.map (Value.int .i8)) := owns_turn (owns_turn hv1' ((Turn.refl w3 []).alloc _) (fun k _ => by simp)) hT6a (fun k hk => by have := (hv1lt k hk).2; simp; omega)
          obtain ⟨a2, len2, cap2, rfl, hbo, hb2⟩ : ∃ a2 len2 cap2, v2 = .slice a2 len2 cap2 ∧ ((f2 = 0 ∧ len2 = c) ∨ (f2 = 4 ∧ len2 = 0)) ∧ ∀ j, j < len2 → ∃ g2 y, a2 = some ⟨g2, 0, none⟩ ∧ w6.cell? ⟨g2, j, none⟩ = some (.int .i64 y) ∧ -(W : Int) ≤ y ∧ y ≤ W := by
            rcases hbo1 with ⟨hf, hl, hel⟩ | ⟨hf, hl⟩
            · rw [hl] at hv2'
              rcases hv2'.2 with ⟨_, h⟩ | ⟨g, cap, cur, h, _⟩
              · omega
              · subst h
                refine ⟨_, _, _, rfl, .inl ⟨hf, rfl⟩, fun j hj => ?_⟩
                have hjl : j < B.length := by omega
                have hc := hv2'.cellAt j (by omega)
                have := hel _ (mem_getD hjl)
                refine ⟨g, B.getD j 0, rfl, ?_, this.1, this.2⟩
                rw [hc]; simp [List.getD_eq_getElem?_getD, hjl]
            · subst hl
              rcases hv2'.2 with ⟨h, _⟩ | ⟨g, cap, cur, h, _⟩
              · exact ⟨_, _, _, h, .inr ⟨hf, rfl⟩, fun j hj => by omega⟩
              · exact ⟨_, _, _, h, .inr ⟨hf, rfl⟩, fun j hj => by simp at hj⟩
          have HB2 := Lib.hid hb2
          have HV1 := Lib.hid hv1''
          clear hb2 hbo1 hv2' hv2 hv1'' hv1' hv1 hB1 hB2 hv1lt hS hS3 hS4 hS6
          rcases hto with ⟨he0, hlen1, hnz1, hel1⟩ | ⟨he0, hnil1⟩
          · subst he0
            obtain ⟨g1, cap1, rfl⟩ : ∃ g q0, v1 = .slice (some ⟨g, 0, none⟩) c q0 := by
              have h := HV1.out
              rw [hlen1] at h
              rcases h.2 with ⟨_, h⟩ | ⟨g, cap, cur, h, _⟩
              · omega
              · exact ⟨g, cap, h⟩
            have hcl : ∀ j, j < c → w6.cell? ⟨g1, j, none⟩ = some (.int .i8 (O.getD j 0)) ∧ -1 ≤ O.getD j 0 ∧ O.getD j 0 ≤ 1 := by
              intro j hj
              have h := HV1.out
              have hjl : j < O.length := by omega
              rw [hlen1] at h
              rw [h.cellAt j (by omega)]
              have := hel1 _ (mem_getD hjl)
              exact ⟨by simp [List.getD_eq_getElem?_getD, hjl], this.1, this.2⟩
            have HCL := Lib.hid hcl
            have HNZ := Lib.hid hnz1
            have HL1 := Lib.hid hlen1
            clear hcl hnz1 hlen1 hel1
            go_wp2
            go_loop [20, 21] (fun cv i => ∃ j q0 : Nat, i = .int .i64 j ∧ j ≤ c ∧ cv = .int .i64 q0 ∧ q0 ≤ j ∧ Hid (q0 = nz (O.take j))) (fun _ i => c - (intOf i).toNat)
            case atStart => exact ⟨0, 0, rfl, Nat.zero_le _, rfl, Nat.le_refl _, Lib.hid (by simp [nz])⟩
            case round =>
              obtain ⟨j, q0, rfl, hj, rfl, hcj, HCC⟩ := hrel
              by_cases hlt3 : j < c
              · obtain ⟨hcell, hlo, hhi⟩ := HCL.out j hlt3
                have hnt := nz_take O j (by rw [HL1.out]; exact hlt3)
                obtain ⟨y, hy⟩ : ∃ y, O.getD j 0 = y := ⟨_, rfl⟩
                rw [hy] at hcell hlo hhi hnt
                have HNT := Lib.hid hnt
                clear hy hnt
                by_cases hy0 : y = 0
                · subst hy0
                  go_wp2
                  go_round
                  case rel => exact ⟨j + 1, q0, by go_num, by omega, rfl, by omega, Lib.hid (by have h1 := HCC.out; have h2 := HNT.out; rw [if_pos rfl] at h2; omega)⟩
                  case measure => simp [intOf]; omega
                · have hyb : ((y : Int) != 0) = true := by simpa using hy0
                  go_wp2
                  go_round
                  case rel => exact ⟨j + 1, q0 + 1, by go_num, by omega, by go_num, by omega, Lib.hid (by have h1 := HCC.out; have h2 := HNT.out; rw [if_neg hy0] at h2; omega)⟩
                  case measure => simp [intOf]; omega
              · obtain rfl : j = c := by omega
                have hcW : q0 = W := by
                  have h1 := HCC.out
                  rw [List.take_of_length_le (by rw [HL1.out]; exact Nat.le_refl _), HNZ.out] at h1
                  exact h1
                subst hcW
                rcases hbo with ⟨hf0, hl2⟩ | ⟨hf0, hl2⟩
                · subst hf0
                  subst hl2
                  go_wp2
                  go_loop [22] (fun i => ∃ j : Nat, i = .int .i64 j ∧ j ≤ len2) (fun i => len2 - (intOf i).toNat)
                  case atStart => exact ⟨0, rfl, Nat.zero_le _⟩
                  case round =>
                    obtain ⟨j, rfl, hj⟩ := hrel
                    by_cases hlt4 : j < len2
                    · obtain ⟨g2, y, rfl, hy, hy1, hy2⟩ := HB2.out j hlt4
                      go_wp2
                      go_round
                      case rel => exact ⟨j + 1, by go_num, by omega⟩
                      case measure => simp [intOf]; omega
                    · go_wp2_with fail
                      refine (shown_true _).mono ?_
                      rintro e w9 ⟨rfl, hT9⟩
                      go_wp2
                      go_ret
                      exact ⟨rfl, (hT6.trans hT9).below⟩

                · subst hf0
                  subst hl2
                  go_wp2
                  go_loop [22] (fun i => ∃ j : Nat, i = .int .i64 j ∧ j ≤ 0) (fun i => 0 - (intOf i).toNat)
                  case atStart => exact ⟨0, rfl, Nat.zero_le _⟩
                  case round =>
                    obtain ⟨j, rfl, hj⟩ := hrel
                    by_cases hlt4 : j < 0
                    · exact absurd hlt4 (Nat.not_lt_zero _)
                    · go_wp2_with fail
                      refine (shown_true _).mono ?_
                      rintro e w9 ⟨rfl, hT9⟩
                      go_wp2
                      go_ret
                      exact ⟨rfl, (hT6.trans hT9).below⟩

          · subst he0
            rcases hbo with ⟨hf0, hl2⟩ | ⟨hf0, hl2⟩
            · subst hf0
              subst hl2
              go_wp2
              go_loop [22] (fun i => ∃ j : Nat, i = .int .i64 j ∧ j ≤ len2) (fun i => len2 - (intOf i).toNat)
              case atStart => exact ⟨0, rfl, Nat.zero_le _⟩
              case round =>
                obtain ⟨j, rfl, hj⟩ := hrel
                by_cases hlt4 : j < len2
                · obtain ⟨g2, y, rfl, hy, hy1, hy2⟩ := HB2.out j hlt4
                  go_wp2
                  go_round
                  case rel => exact ⟨j + 1, by go_num, by omega⟩
                  case measure => simp [intOf]; omega
                · go_wp2_with fail
                  refine (shown_true _).mono ?_
                  rintro e w9 ⟨rfl, hT9⟩
                  go_wp2
                  go_ret
                  exact ⟨rfl, (hT6.trans hT9).below⟩

            · subst hf0
              subst hl2
              go_wp2
              go_loop [22] (fun i => ∃ j : Nat, i = .int .i64 j ∧ j ≤ 0) (fun i => 0 - (intOf i).toNat)
              case atStart => exact ⟨0, rfl, Nat.zero_le _⟩
              case round =>
                obtain ⟨j, rfl, hj⟩ := hrel
                by_cases hlt4 : j < 0
                · exact absurd hlt4 (Nat.not_lt_zero _)
                · go_wp2_with fail
                  refine (shown_true _).mono ?_
                  rintro e w9 ⟨rfl, hT9⟩
                  go_wp2
                  go_ret
                  exact ⟨rfl, (hT6.trans hT9).below⟩

set_option maxRecDepth 100000 in
set_option maxHeartbeats 2000000 in
theorem lawCounts (n h : Int) (s : ByteArray) (w : World) (hs : s.size ≤ maxLen) :
    Calls Try.prog 3 #[.int .i64 n, .int .i64 h, .string s] w fun e w' => e = .returned (.bool true) ∧ Below w.heap.size w w' := by
  unfold maxLen at hs
  by_cases h5 : s.size ≤ 5000
  · exact counts_near n h s w h5
  · have h6 : 5000 < s.size := by omega
    clear h5
    go_enter Try.func3, Try.ntmps3
    go_wp2_with fail
    refine (shown_true _).mono ?_
    rintro e w2 ⟨rfl, hT2⟩
    go_wp2
    go_ret
    exact ⟨rfl, hT2.below⟩
end Go.Proofs.Ytkjfpaaiomioaaa
