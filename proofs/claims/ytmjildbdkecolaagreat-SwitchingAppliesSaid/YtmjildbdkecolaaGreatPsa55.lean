/- What a key makes of digits and of an element: the reference, by data.
What a key makes of digits and of an element: both sides make the same.
The law on what a key makes of digits and of an element: by data. -/
import Derived.Test.YtmjildbdkecolaaGreatPsa53
import Derived.Test.YtmjildbdkecolaaGreatPsa51
import Derived.Test.YtmjildbdkecolaaGreatPsa52
set_option linter.unusedSimpArgs false
set_option linter.unusedVariables false
set_option linter.unnecessarySimpa false
namespace Go.Proofs.YtmjildbdkecolaaGreat
open Go.RowKit
instance fi12 : FI Tryz.prog 12 Tryz.f12 := ⟨Tryz.func12, Tryz.call12⟩
instance fi15 : FI Tryz.prog 15 Tryz.f15 := ⟨Tryz.func15, Tryz.call15⟩
instance fi50 : FI Tryz.prog 50 Tryz.f50 := ⟨Tryz.func50, Tryz.call50⟩
set_option maxRecDepth 20000
set_option maxHeartbeats 4000000
theorem r18fits_den (p : PD) (hvp : VP p) (hs : p.special ≠ 0) (L : LG) (hL : LFit L) : Den Tryz.prog 50 [.agg (parL true p), lgD true L] (.val (.bool (evry (fun i => fitL p L.m (L.E i)) L.m && decide (0 < L.m)))) := by
 refine den_intro (fn := Tryz.f50) rfl rfl rfl rfl rfl ?_
 have hLm := hL.m
 refine go ?_
 refine c_down (fun j => L.m - j) (fun j => j ≤ L.m ∧ ∀ k, k < j → fitL p L.m (L.E k) = true) (fun j : Nat => [(5, .val (.int .i64 (j : Int)))]) (fun _ => []) 0 (fun j ⟨hj, hF⟩ => ?_) ⟨by omega, fun e he => by omega⟩
 refine go ?_
 refine c_if (fun h3 => ?_) (fun h3 => ?_)
 ·have hfe : fitL p L.m (L.E j) = !(decide (errI (eOk p (L.E j)) ≠ 0) || !(L.E j).sp || decide ((L.E j).lv ≠ (L.m : Int))) := by
   unfold fitL
   cases q1 : eOk p (L.E j) <;> cases q2 : (L.E j).sp <;> simp [errI]
  refine go ?_
  refine r_call (r09Check_den p hvp hs (L.E j) (hL.l j) (hL.e j)) ?_
  refine go ?_
  refine c_ifB (fun h4 => ?_) (fun h4 => ?_)
  ·refine go ?_
   refine fin ?_
   rw [evry_no (f := fun i => fitL p L.m (L.E i)) h3 (by show fitL p L.m (L.E j) = false; rw [hfe, h4]; rfl)]
   exact cv
  ·refine go ?_
   refine ⟨j + 1, ⟨by omega, fun i hi => ?_⟩, by omega, ?_⟩
   ·by_cases q : i < j
    ·exact hF i q
    ·obtain rfl : i = j := by omega
     rw [hfe, h4]; rfl
   ·exact sub
 ·refine go ?_
  refine fin ?_
  rw [evry_iff.2 (fun k hk => hF k (by omega))]
  exact cv
theorem app2_key {k a b : Bool} (h : ((decide (errI k ≠ 0) || a || b) == false) = true) : k = true := by
 cases k
 ·simp at h
 ·rfl
theorem app2_all {k r g : Bool} {ex pw : Int} {m c : Nat} (hg : k = true → g = true) (h : (decide (errI k ≠ 0) || !(decide (errI g = 0) && decide (1 ≤ (1 : Int)) && decide ((1 : Int) ≤ (c : Int)) && decide (1 ≤ ex) && decide (ex ≤ pw)) || decide (c < m) || !(r && decide (0 < m))) = false) : (k && decide (1 ≤ ex) && decide (ex ≤ pw) && decide (m ≠ 0) && decide (m ≤ c) && r) = true := by
 cases k
 ·simp at h
 ·cases r
  ·simp at h
  ·simp at h
   simp
   omega
theorem r18ApplyDigits_bad (p : PD) (hp : PFit p) (f : Int) (A B L : LG) (hA : LFit A) (hB : LFit B) (hL : LFit L) (ex : Int) (h : appB p f A B L ex = false) : Den Tryz.prog 12 [.agg (parL true p), .agg (keyD true f A B), lgD true L, .val (.int .i64 ex)] (.tup [.agg zeroEl, .agg zeroEl, .val (.int .i64 2)]) := by
 refine den_intro (fn := Tryz.f12) rfl rfl rfl rfl rfl ?_
 have hLm := hL.m
 refine go ?_
 refine r_call (r18CheckKey_den p hp f A B hA hB) ?_
 refine go ?_
 refine g_callM (hl := fun hb => r_call (r14State_den p hp 1 ex) (run_fin rfl)) (h := ?_)
 refine go ?_
 refine g_callM (hl := fun hb => r_call (r18fits_den p (good_VP (keyB_good (f := f) (A := A) (B := B) (app2_key hb))) (good_special (keyB_good (f := f) (A := A) (B := B) (app2_key hb))) L hL) (run_fin rfl)) (h := ?_)
 refine go ?_
 refine c_ifB (fun h1 => ?_) (fun h1 => ?_)
 ·refine go ?_
  refine fin ?_
  exact cv
 ·exfalso
  unfold stB at h1
  have := app2_all (fun q => goodB_iff.2 (keyB_good q)) h1
  unfold appB at h
  rw [this] at h
  cases h
theorem Kv.check18 {p : PD} {n L0 : Nat} {f : Int} {A B : Nat → Nat → Nat → Nat} (h : Kv p n L0 f A B) : Den Tryz.prog 35 [.agg (parL true p), .agg (keyV true f L0 n A B)] (.val (.int .i64 0)) := by
 have := r18CheckKey_den p h.fit f (lgV L0 L0 true (L0 + 1) n A) (lgV L0 L0 true (L0 + 1) n B) (h.fitA A) (h.fitA B)
 rw [h.key] at this
 exact this
abbrev sum2 (lv n : Nat) (X Y : Nat → Nat → Nat) : List D := elL false lv true (lv + 1) n X ++ elL false lv true (lv + 1) n Y
abbrev sumJ (lv n : Nat) : Nat → List D
 | 0 => zeroEl ++ zeroEl
 | 1 => elL false lv true (lv + 1) n (fun _ _ => 0) ++ zeroEl
 | _ => elL false lv true (lv + 1) n (fun _ _ => 0) ++ elL false lv true (lv + 1) n (fun _ _ => 0)
theorem r18ApplyDigits_ok (p : PD) (n L0 : Nat) (f : Int) (A B : Nat → Nat → Nat → Nat) (h : Kv p n L0 f A B) (lv ex : Nat) (hC : Cv p n lv ex) (L : Nat → Nat → Nat → Nat) (hLg : ∀ j, Vg p lv (L j)) (b : Nat) (hb : b = invV (resI ((p.prime ^ ex : Nat) : Int) p.special) p.special) :
  Den Tryz.prog 12 [.agg (parL true p), .agg (keyV true f L0 n A B), .fz true lv 3 (fun i => elL true lv true (lv + 1) n (L i)), .val (.int .i64 (ex : Int))]
   (.tup [.agg (elL false lv false lv n (downV p lv b p.special (p.prime ^ ex) (innV p lv n L (fun j => resV L0 lv (A j)) lv))), .agg (elL false lv false lv n (downV p lv b p.special (p.prime ^ ex) (innV p lv n L (fun j => resV L0 lv (B j)) lv))), .val (.int .i64 0)]) := by
 refine den_intro (fn := Tryz.f12) rfl rfl rfl rfl rfl ?_
 have hL := hC.lv
 have h32 := hL.n32
 have hN : NatIs p.n n := hL.n
 have h1 := hL.l1
 have l2 := hL.l2
 have l24 := hL.vp.len2
 have e1 := hC.st.e1
 have e2 := hC.st.e2
 have ht := h.top
 have hle : lv ≤ L0 := by omega
 have hst : Den Tryz.prog 49 [.agg (parL true p), .val (.int .i64 1), .val (.int .i64 (ex : Int))] (.val (.bool true)) := by
  have := r14State_den p h.fit 1 (ex : Int)
  rw [stB_iff.2 ⟨h.good, by omega, by omega, e1, e2⟩] at this
  exact this
 have hall : evry (fun i => fitL p lv ((lgV lv lv true (lv + 1) n L).E i)) lv = true := evry_iff.2 (fun i _ => by
  show (true && decide ((lv : Int) = (lv : Int)) && eOk p ⟨lv, true, lv + 1, fun _ => n, L i⟩) = true
  rw [eOk_V hL (hLg i), decide_eq_true rfl]; rfl)
 have hsa : Den Tryz.prog 50 [.agg (parL true p), .fz true lv 3 (fun i => elL true lv true (lv + 1) n (L i))] (.val (.bool true)) := by
  have := r18fits_den p hL.vp hL.sp (lgV lv lv true (lv + 1) n L) ⟨by show lv ≤ _; omega, fun _ => by show lv + 1 ≤ _; omega, fun _ _ => by show n ≤ _; omega⟩
  rw [show evry (fun i => fitL p (lgV lv lv true (lv + 1) n L).m ((lgV lv lv true (lv + 1) n L).E i)) (lgV lv lv true (lv + 1) n L).m = true from hall, show decide (0 < (lgV lv lv true (lv + 1) n L).m) = true from decide_eq_true (by show 0 < lv; omega)] at this
  exact this
 obtain ⟨b1, b2, b3⟩ := good_pow hC.st.good hC.st.e2
 have hT := b1 ex (Nat.le_refl _)
 have hq : p.special = modQ p lv lv := by unfold modQ; rw [if_neg (by omega)]
 have hpl := r13Plain_den p ex b1 (good_ex b1 b2)
 have hz : Den Tryz.prog 51 [.agg (parL true p), .agg (elL true lv true (lv + 1) n (L 0)), zerosD n] (.agg (elL false lv true (lv + 1) n (fun _ _ => 0))) := r13Zero_den p n lv true hL _ rfl
 have hre : ∀ (K : Nat → Nat → Nat → Nat), (∀ j, Vg p L0 (K j)) → ∀ j, Den Tryz.prog 52 [.agg (parL true p), .agg (elL true L0 true (L0 + 1) n (K j)), .val (.int .i64 (lv : Int)), .val (.bool true)] (.tup [.agg (elL false lv true (lv + 1) n (resV L0 lv (K j))), .val (.int .i64 0)]) := fun K hK j => r09RestrictS_den p n L0 lv h.lv h1 hle (K j) (hK j)
 have hmu : ∀ (K : Nat → Nat → Nat → Nat), (∀ j, Vg p L0 (K j)) → ∀ j, Den Tryz.prog 54 [.agg (parL true p), .agg (elL true lv true (lv + 1) n (L j)), .agg (elL true lv true (lv + 1) n (resV L0 lv (K j)))] (.agg (elL false lv true (lv + 1) n (prdV p lv n (L j) (resV L0 lv (K j))))) := fun K hK j => r13Mul_den p n lv true hL _ _ (hLg j) (vg_res hle (hK j))
 have had : ∀ (K : Nat → Nat → Nat → Nat), (∀ j, Vg p L0 (K j)) → ∀ j, Den Tryz.prog 53 [.agg (parL true p), .agg (elL true lv true (lv + 1) n (innV p lv n L (fun j => resV L0 lv (K j)) j)), .agg (elL true lv true (lv + 1) n (prdV p lv n (L j) (resV L0 lv (K j))))] (.agg (elL false lv true (lv + 1) n (innV p lv n L (fun j => resV L0 lv (K j)) (j + 1)))) := fun K hK j => by
  have := r13Add_den p n lv true hL _ _ (vg_inn hL L (fun j => resV L0 lv (K j)) j) (vg_prd hL (L j) (resV L0 lv (K j)))
  rw [sumV_1 hL] at this
  exact this
 have hdv : ∀ X, Vg p lv X → Den Tryz.prog 56 [.agg (parL true p), .agg (elL true lv true (lv + 1) n X), .val (.int .u32 (p.special : Int)), .val (.int .i64 ((p.prime ^ ex : Nat) : Int))] (.agg (elL false lv false lv n (downV p lv b p.special (p.prime ^ ex) X))) := fun X hX => by
  have := r18DividedS_den p n lv (p.prime ^ ex) hL hT X hX p.special b hq hb
  rw [divS_eq hL] at this
  exact this
 have dA := hdv _ (vg_inn hL L (fun j => resV L0 lv (A j)) lv)
 have dB := hdv _ (vg_inn hL L (fun j => resV L0 lv (B j)) lv)
 have zA : (fun _ _ => 0) = innV p lv n L (fun j => resV L0 lv (A j)) 0 := rfl
 have zB : (fun _ _ => 0) = innV p lv n L (fun j => resV L0 lv (B j)) 0 := rfl
 have reA : ∀ j, Den Tryz.prog 52 [.agg (parL true p), .agg (elL true L0 true (L0 + 1) n (A j)), .val (.int .i64 (lv : Int)), .val (.bool true)] (.tup [.agg (elL false lv true (lv + 1) n ((fun j => resV L0 lv (A j)) j)), .val (.int .i64 0)]) := hre A h.a
 have reB : ∀ j, Den Tryz.prog 52 [.agg (parL true p), .agg (elL true L0 true (L0 + 1) n (B j)), .val (.int .i64 (lv : Int)), .val (.bool true)] (.tup [.agg (elL false lv true (lv + 1) n ((fun j => resV L0 lv (B j)) j)), .val (.int .i64 0)]) := hre B h.b
 have muA : ∀ j, Den Tryz.prog 54 [.agg (parL true p), .agg (elL true lv true (lv + 1) n (L j)), .agg (elL true lv true (lv + 1) n ((fun j => resV L0 lv (A j)) j))] (.agg (elL false lv true (lv + 1) n (prdV p lv n (L j) ((fun j => resV L0 lv (A j)) j)))) := hmu A h.a
 have muB : ∀ j, Den Tryz.prog 54 [.agg (parL true p), .agg (elL true lv true (lv + 1) n (L j)), .agg (elL true lv true (lv + 1) n ((fun j => resV L0 lv (B j)) j))] (.agg (elL false lv true (lv + 1) n (prdV p lv n (L j) ((fun j => resV L0 lv (B j)) j)))) := hmu B h.b
 have adA : ∀ j, Den Tryz.prog 53 [.agg (parL true p), .agg (elL true lv true (lv + 1) n (innV p lv n L (fun j => resV L0 lv (A j)) j)), .agg (elL true lv true (lv + 1) n (prdV p lv n (L j) ((fun j => resV L0 lv (A j)) j)))] (.agg (elL false lv true (lv + 1) n (innV p lv n L (fun j => resV L0 lv (A j)) (j + 1)))) := had A h.a
 have adB : ∀ j, Den Tryz.prog 53 [.agg (parL true p), .agg (elL true lv true (lv + 1) n (innV p lv n L (fun j => resV L0 lv (B j)) j)), .agg (elL true lv true (lv + 1) n (prdV p lv n (L j) ((fun j => resV L0 lv (B j)) j)))] (.agg (elL false lv true (lv + 1) n (innV p lv n L (fun j => resV L0 lv (B j)) (j + 1)))) := had B h.b
 clear hre hmu had hdv
 generalize (fun j => resV L0 lv (A j)) = RA at *
 generalize (fun j => resV L0 lv (B j)) = RB at *
 generalize innV p lv n L RA = X at *
 generalize innV p lv n L RB = Y at *
 generalize prdV p lv n = Q at *
 generalize downV p lv b p.special (p.prime ^ ex) = DV at *
 refine go ?_
 refine r_call h.check18 ?_
 refine go ?_
 refine g_callM (hl := fun hb => r_call hst (run_fin rfl)) (h := ?_)
 refine go ?_
 refine g_callM (hl := fun hb => r_call hsa (run_fin rfl)) (h := ?_)
 refine go ?_
 refine c_ifB (fun h2 => ?_) (fun h2 => ?_)
 ·exfalso
  simp at h2
  omega
 clear h2
 refine go ?_
 refine c_down (fun j => 2 - j) (fun j => j ≤ 2) (fun j : Nat => [(12, .val (.int .i64 (j : Int)))]) (fun j => [(1011, some (.lit 90 (sumJ lv n j)))]) 0 (fun j hj => ?_) (by omega)
 refine go ?_
 refine c_if (fun h3 => ?_) (fun h3 => ?_)
 ·obtain rfl | rfl : j = 0 ∨ j = 1 := by omega
  ·refine go ?_
   refine r_call hz ?_
   refine go ?_
   refine ⟨1, by omega, by omega, ?_⟩
   exact sub
  ·refine go ?_
   refine r_call hz ?_
   refine go ?_
   refine ⟨2, by omega, by omega, ?_⟩
   exact sub
 obtain rfl : j = 2 := by omega
 refine c_lit 1011 (sum2 lv n (X 0) (Y 0)) (by rw [← zA, ← zB]; exact .cons (.refl _) (.cons (.refl _) (.cons (.refl _) (.cons (.refl _) (.cons (.refl _) (.cons (.refl _) .nil)))))) ?_
 refine go ?_
 refine c_up lv (fun j => [(13, .val (.int .i64 (j : Nat)))]) (fun j => [(1011, some (.lit 90 (sum2 lv n (X j) (Y j))))]) (fun j hj => ?_)
 refine go ?_
 refine c_if (fun h3 => ?_) (fun h3 => ?_)
 ·refine go ?_
  refine r_call (reA j) ?_
  refine go ?_
  refine r_call (reB j) ?_
  refine go ?_
  refine r_call (muA j) ?_
  refine go ?_
  refine r_call (adA j) ?_
  refine go ?_
  refine r_call (muB j) ?_
  refine go ?_
  refine r_call (adB j) ?_
  refine go ?_
  refine ⟨h3, ?_⟩
  exact sub
 ·obtain rfl : j = lv := by omega
  refine go ?_
  refine r_call hpl ?_
  refine go ?_
  refine r_call dA ?_
  refine go ?_
  refine r_call dB ?_
  refine go ?_
  refine fin ?_
  exact cv
open Go.RowKit
set_option maxRecDepth 20000
set_option maxHeartbeats 4000000
/-- Two functions make the same two elements and error of the same. -/
def AlikeA (f g : FuncId) (ds : List D) : Prop := ∃ (l n : Nat) (e : Int) (X Y : Nat → Nat → Nat), l ≤ 1000 ∧ n ≤ 32 ∧ Den Tryz.prog f ds (.tup [.agg (elL false l false l n X), .agg (elL false l false l n Y), .val (.int .i64 e)]) ∧ Den Tryz.prog g ds (.tup [.agg (elL false l false l n X), .agg (elL false l false l n Y), .val (.int .i64 e)])
theorem zero_el {n : Nat} {X : Nat → Nat → Nat} : Cvt (.agg zeroEl) (.agg (elL false 0 false 0 n X)) := Cvt.agg (.cons (.of_eq rfl) (.cons (.of_eq rfl) (.cons (Cvt.nil _ _ _) .nil)))
theorem AlikeA.zero {f g : FuncId} {ds : List D} {e : Int} (h1 : Den Tryz.prog f ds (.tup [.agg zeroEl, .agg zeroEl, .val (.int .i64 e)])) (h2 : Den Tryz.prog g ds (.tup [.agg zeroEl, .agg zeroEl, .val (.int .i64 e)])) : AlikeA f g ds :=
 ⟨0, 0, e, fun _ _ => 0, fun _ _ => 0, by omega, by omega, h1.res (Cvt.tup (.cons zero_el (.cons zero_el (.cons (.of_eq rfl) .nil)))), h2.res (Cvt.tup (.cons zero_el (.cons zero_el (.cons (.of_eq rfl) .nil))))⟩
theorem AlikeA.arg {f g : FuncId} {ds ds' : List D} (h : AlikeA f g ds') (hc : CvtL ds ds') : AlikeA f g ds := by
 obtain ⟨l, n, e, X, Y, h1, h2, h3, h4⟩ := h
 exact ⟨l, n, e, X, Y, h1, h2, h3.arg hc, h4.arg hc⟩
theorem fitL_iff {p : PD} {m : Nat} {e : EG} (h : fitL p m e = true) : e.sp = true ∧ e.lv = (m : Int) ∧ eOk p e = true := by
 unfold fitL at h
 simp only [Bool.and_eq_true, decide_eq_true_eq] at h
 exact ⟨h.1.1, h.1.2, h.2⟩
theorem fitE_iff {p : PD} {e : EG} (h : fitE p e = true) : e.sp = true ∧ e.lv = (p.chain.length : Int) ∧ eOk p e = true := by
 unfold fitE at h
 simp only [Bool.and_eq_true, decide_eq_true_eq] at h
 exact ⟨h.1.1, h.1.2, h.2⟩
theorem EIn.zero {e : EG} (h : EIn e) (h0 : e.m = 0) (r j : Nat) : e.g r j = 0 := h.o3 r j (by rw [h.o2 r (by omega)]; omega)
theorem list_vg {p : PD} {A : LG} {n lv m : Nat} {sp : Bool} (hL : Lv p n lv) (hA : LIn A) (hm : A.m = m) (hl : ∀ i, i < m → (A.E i).lv = (lv : Int)) (hs : ∀ i, i < m → (A.E i).sp = sp) (h : ∀ i, i < m → eOk p (A.E i) = true) (i : Nat) : Vg p lv (A.E i).g := by
 by_cases q : i < m
 ·exact el_vg hL (hA.e i) (hl i q) (hs i q) (h i q)
 ·exact fun r j => by rw [(hA.e i).zero (hA.o i (by omega)) r j]; exact hL.q0 r
/-- A valid key among any. -/
theorem key_of {p : PD} (hp : PFit p) {f : Int} {A B : LG} (hA : LIn A) (hB : LIn B) (h : keyB p f A B = true) : ∃ n L0 : Nat, Kv p n L0 f (fun i => (A.E i).g) (fun i => (B.E i).g) ∧ Cvt (.agg (keyD true f A B)) (.agg (keyV true f L0 n (fun i => (A.E i).g) (fun i => (B.E i).g))) := by
 have hg := keyB_good h
 obtain ⟨n, hn, n4, n32⟩ := good_n hg
 have hvp := good_VP hg
 have hL : Lv p n p.chain.length := ⟨hvp, good_special hg, hn, hvp.len1, Nat.le_refl _⟩
 unfold keyB at h
 simp only [Bool.and_eq_true, decide_eq_true_eq, evry_iff] at h
 obtain ⟨⟨⟨⟨⟨_, hf⟩, hAm⟩, hBm⟩, hAe⟩, hBe⟩ := h
 rw [hAm] at hAe
 rw [hBm] at hBe
 refine ⟨n, p.chain.length, ⟨hp, hg, hL, rfl, hf, fun i => ?_, fun i => ?_⟩, ?_⟩
 ·exact list_vg hL hA hAm (fun i hi => (fitE_iff (hAe i hi)).2.1) (fun i hi => (fitE_iff (hAe i hi)).1) (fun i hi => (fitE_iff (hAe i hi)).2.2) i
 ·exact list_vg hL hB hBm (fun i hi => (fitE_iff (hBe i hi)).2.1) (fun i hi => (fitE_iff (hBe i hi)).1) (fun i hi => (fitE_iff (hBe i hi)).2.2) i
 ·exact Cvt.agg (.cons (.of_eq rfl) (.cons (list_cv (sp := true) hn hAm (fun i hi => (fitE_iff (hAe i hi)).2.1) (fun i hi => (fitE_iff (hAe i hi)).1) (fun i hi => (fitE_iff (hAe i hi)).2.2)) (.cons (list_cv (sp := true) hn hBm (fun i hi => (fitE_iff (hBe i hi)).2.1) (fun i hi => (fitE_iff (hBe i hi)).1) (fun i hi => (fitE_iff (hBe i hi)).2.2)) .nil)))
theorem alike_applyDigits (p : PD) (hp : PFit p) (f : Int) (A B L : LG) (hA : LIn A) (hB : LIn B) (hL : LIn L) (fA : LFit A) (fB : LFit B) (fL : LFit L) (ex : Int) : AlikeA 11 12 [.agg (parL true p), .agg (keyD true f A B), lgD true L, .val (.int .i64 ex)] := by
 cases q : appB p f A B L ex with
 | false => exact .zero (swApplyDigits_bad p hp f A B L fA fB fL ex q) (r18ApplyDigits_bad p hp f A B L fA fB fL ex q)
 | true =>
  unfold appB at q
  simp only [Bool.and_eq_true, decide_eq_true_eq, evry_iff] at q
  obtain ⟨⟨⟨⟨⟨qk, q1⟩, q2⟩, q3⟩, q4⟩, q5⟩ := q
  obtain ⟨n, L0, hK, hcv⟩ := key_of hp hA hB qk
  obtain ⟨x, rfl⟩ := Int.eq_ofNat_of_zero_le (show 0 ≤ ex by omega)
  have hn := hK.lv.n
  have hC : Cv p n L.m x := ⟨hp, ⟨hK.good, by omega, by omega, q1, q2⟩, hn⟩
  have l2 := hC.lv.l2
  have l24 := hC.lv.vp.len2
  have hLg := list_vg (sp := true) hC.lv hL rfl (fun i hi => (fitL_iff (q5 i hi)).2.1) (fun i hi => (fitL_iff (q5 i hi)).1) (fun i hi => (fitL_iff (q5 i hi)).2.2)
  have hcl : CvtL [.agg (parL true p), .agg (keyD true f A B), lgD true L, .val (.int .i64 (x : Int))] [.agg (parL true p), .agg (keyV true f L0 n (fun i => (A.E i).g) (fun i => (B.E i).g)), .fz true L.m 3 (fun i => elL true L.m true (L.m + 1) n (L.E i).g), .val (.int .i64 (x : Int))] :=
   .cons (.of_eq rfl) (.cons hcv (.cons (list_cv (sp := true) hn rfl (fun i hi => (fitL_iff (q5 i hi)).2.1) (fun i hi => (fitL_iff (q5 i hi)).1) (fun i hi => (fitL_iff (q5 i hi)).2.2)) (.cons (.of_eq rfl) .nil)))
  exact ⟨L.m, n, 0, _, _, by omega, hC.lv.n32, (swApplyDigits_ok p n L0 f _ _ hK L.m x hC (fun i => (L.E i).g) hLg _ rfl).arg hcl, (r18ApplyDigits_ok p n L0 f _ _ hK L.m x hC (fun i => (L.E i).g) hLg _ rfl).arg hcl⟩
section
variable {p : PD} {f : Int} {A B : LG} {e : EG} {ex : Int}
theorem swApply_bad (h : Den Tryz.prog 42 [.agg (parL true p), .agg (elD true e)] (.tup [.val (.slice none 0 0), .val (.int .i64 2)])) : Den Tryz.prog 14 [.agg (parL true p), .agg (keyD true f A B), .agg (elD true e), .val (.int .i64 ex)] (.tup [.agg zeroEl, .agg zeroEl, .val (.int .i64 2)]) := by
 refine den_intro (fn := Tryz.f14) rfl rfl rfl rfl rfl ?_
 refine go ?_
 refine r_call h ?_
 refine go ?_
 refine fin ?_
 exact cv
theorem r18Apply_bad (h : Den Tryz.prog 58 [.agg (parL true p), .agg (elD true e)] (.tup [.val (.slice none 0 0), .val (.int .i64 2)])) : Den Tryz.prog 15 [.agg (parL true p), .agg (keyD true f A B), .agg (elD true e), .val (.int .i64 ex)] (.tup [.agg zeroEl, .agg zeroEl, .val (.int .i64 2)]) := by
 refine den_intro (fn := Tryz.f15) rfl rfl rfl rfl rfl ?_
 refine go ?_
 refine r_call h ?_
 refine go ?_
 refine fin ?_
 exact cv
theorem swApply_of {m lv M n l n2 : Nat} {x : Int} {G : Nat → Nat → Nat → Nat} {X Y : Nat → Nat → Nat} (h : Den Tryz.prog 42 [.agg (parL true p), .agg (elD true e)] (.tup [.fz false m 3 (fun i => elL false lv true M n (G i)), .val (.int .i64 0)]))
  (h2 : Den Tryz.prog 11 [.agg (parL true p), .agg (keyD true f A B), .fz true m 3 (fun i => elL true lv true M n (G i)), .val (.int .i64 ex)] (.tup [.agg (elL false l false l n2 X), .agg (elL false l false l n2 Y), .val (.int .i64 x)])) :
  Den Tryz.prog 14 [.agg (parL true p), .agg (keyD true f A B), .agg (elD true e), .val (.int .i64 ex)] (.tup [.agg (elL false l false l n2 X), .agg (elL false l false l n2 Y), .val (.int .i64 x)]) := by
 refine den_intro (fn := Tryz.f14) rfl rfl rfl rfl rfl ?_
 refine go ?_
 refine r_call h ?_
 refine go ?_
 refine r_call h2 ?_
 refine go ?_
 refine fin ?_
 exact cv
theorem r18Apply_of {m lv M n l n2 : Nat} {x : Int} {G : Nat → Nat → Nat → Nat} {X Y : Nat → Nat → Nat} (h : Den Tryz.prog 58 [.agg (parL true p), .agg (elD true e)] (.tup [.fz false m 3 (fun i => elL false lv true M n (G i)), .val (.int .i64 0)]))
  (h2 : Den Tryz.prog 12 [.agg (parL true p), .agg (keyD true f A B), .fz true m 3 (fun i => elL true lv true M n (G i)), .val (.int .i64 ex)] (.tup [.agg (elL false l false l n2 X), .agg (elL false l false l n2 Y), .val (.int .i64 x)])) :
  Den Tryz.prog 15 [.agg (parL true p), .agg (keyD true f A B), .agg (elD true e), .val (.int .i64 ex)] (.tup [.agg (elL false l false l n2 X), .agg (elL false l false l n2 Y), .val (.int .i64 x)]) := by
 refine den_intro (fn := Tryz.f15) rfl rfl rfl rfl rfl ?_
 refine go ?_
 refine r_call h ?_
 refine go ?_
 refine r_call h2 ?_
 refine go ?_
 refine fin ?_
 exact cv
end
theorem alike_apply (p : PD) (hp : PFit p) (f : Int) (A B : LG) (hA : LIn A) (hB : LIn B) (fA : LFit A) (fB : LFit B) (e : EG) (he : EIn e) (hs : smallE e = true) (ex : Int) : AlikeA 14 15 [.agg (parL true p), .agg (keyD true f A B), .agg (elD true e), .val (.int .i64 ex)] := by
 cases q : (goodB p && (!e.sp && eOk p e)) with
 | false => exact .zero (swApply_bad (swDigits_bad p hp e (he.small hs).2 (he.small hs).1 q)) (r18Apply_bad (r18Digits_bad p hp e (he.small hs).2 (he.small hs).1 q))
 | true =>
  simp only [Bool.and_eq_true, Bool.not_eq_true'] at q
  obtain ⟨q1, q2, q3⟩ := q
  have hg := goodB_iff.1 q1
  obtain ⟨n, lv, hL, hv, hcv⟩ := el_of hg he q2 q3
  have l2 := hL.l2
  have l24 := hL.vp.len2
  have h32 := hL.n32
  have hcl : CvtL [.agg (parL true p), .agg (elD true e)] [.agg (parL true p), .agg (elL true lv false lv n e.g)] := .cons (.of_eq rfl) (.cons hcv .nil)
  have d1 := (swDigits_ok p n lv hp hg hL e.g hv).arg hcl
  have d2 := (r18Digits_ok p n lv hp hg hL e.g hv).arg hcl
  have hfit : LFit (lgV lv lv true (lv + 1) n (dgV p lv e.g)) := ⟨by show lv ≤ _; omega, fun _ => by show lv + 1 ≤ _; omega, fun _ _ => by show n ≤ _; omega⟩
  have hz : Cvt (.tup [.agg zeroEl, .agg zeroEl, .val (.int .i64 2)]) (.tup [.agg (elL false 0 false 0 n (fun _ _ => 0)), .agg (elL false 0 false 0 n (fun _ _ => 0)), .val (.int .i64 2)]) := Cvt.tup (.cons zero_el (.cons zero_el (.cons (.of_eq rfl) .nil)))
  cases q4 : appB p f A B (lgV lv lv true (lv + 1) n (dgV p lv e.g)) ex with
  | false =>
   have s1 := (swApplyDigits_bad p hp f A B (lgV lv lv true (lv + 1) n (dgV p lv e.g)) fA fB hfit ex q4).res hz
   have s2 := (r18ApplyDigits_bad p hp f A B (lgV lv lv true (lv + 1) n (dgV p lv e.g)) fA fB hfit ex q4).res hz
   exact ⟨0, n, 2, fun _ _ => 0, fun _ _ => 0, by omega, h32, swApply_of d1 s1, r18Apply_of d2 s2⟩
  | true =>
   unfold appB at q4
   simp only [Bool.and_eq_true, decide_eq_true_eq] at q4
   obtain ⟨⟨⟨⟨⟨qk, q5⟩, q6⟩, _⟩, _⟩, _⟩ := q4
   obtain ⟨n', L0, hK, hkc⟩ := key_of hp hA hB qk
   obtain rfl : n' = n := by have := hK.lv.n; have := hL.n; omega
   obtain ⟨x, rfl⟩ := Int.eq_ofNat_of_zero_le (show 0 ≤ ex by omega)
   have hC : Cv p n' lv x := ⟨hp, ⟨hg, by omega, by omega, q5, q6⟩, hL.n⟩
   have hD : ∀ j, Vg p lv (dgV p lv e.g j) := fun j k i => resI_lt (hL.q0 k)
   have hcl2 : CvtL [.agg (parL true p), .agg (keyD true f A B), .fz true lv 3 (fun i => elL true lv true (lv + 1) n' (dgV p lv e.g i)), .val (.int .i64 (x : Int))] [.agg (parL true p), .agg (keyV true f L0 n' (fun i => (A.E i).g) (fun i => (B.E i).g)), .fz true lv 3 (fun i => elL true lv true (lv + 1) n' (dgV p lv e.g i)), .val (.int .i64 (x : Int))] :=
    .cons (.of_eq rfl) (.cons hkc (.cons (.of_eq rfl) (.cons (.of_eq rfl) .nil)))
   have s1 := (swApplyDigits_ok p n' L0 f _ _ hK lv x hC _ hD _ rfl).arg hcl2
   have s2 := (r18ApplyDigits_ok p n' L0 f _ _ hK lv x hC _ hD _ rfl).arg hcl2
   exact ⟨lv, n', 0, _, _, by omega, h32, swApply_of d1 s1, r18Apply_of d2 s2⟩
open Go.RowKit
instance fi3 : FI Tryz.prog 3 Tryz.f3 := ⟨Tryz.func3, Tryz.call3⟩
set_option maxRecDepth 20000
set_option maxHeartbeats 4000000
theorem sameV (l n : Nat) (X : Nat → Nat → Nat) (hl : l ≤ 1000) (hn : n ≤ 32) : Den Tryz.prog 13 [.agg (elL true l false l n X), .agg (elL true l false l n X)] (.val (.bool true)) := by
 have := r09Same_den ⟨l, false, l, fun _ => n, X⟩ ⟨l, false, l, fun _ => n, X⟩ (by show l ≤ _; omega) (by show l ≤ _; omega) (fun _ => by show n ≤ _; omega) (fun _ => by show n ≤ _; omega)
 rw [sameE_refl] at this
 exact this
theorem four_f {a b c d : Bool} (h : (!a || !b || !c || d) = false) : a = true ∧ b = true ∧ c = true := by
 cases a <;> cases b <;> cases c <;> simp_all
/-- An element without the special prime's row. -/
def cutE (e : EG) (k : Nat) : EG := ⟨e.lv, false, k, fun r => if r < k then e.ln r else 0, fun r j => if r < k then e.g r j else 0⟩
def plainE (e : EG) : EG := ⟨e.lv, false, e.m, e.ln, e.g⟩
theorem cutE_cv (e : EG) (k : Nat) : Cvt (.agg [.val (.int .i64 e.lv), .val (.bool false), .fz true (k - 0) 1 (fun r => [.fz true (e.ln (0 + r)) 1 (fun j => [.val (.int .u32 ((e.g (0 + r) j : Nat) : Int))])])]) (.agg (elD true (cutE e k))) := by
 refine Cvt.agg (.cons (.of_eq rfl) (.cons (.of_eq rfl) (.cons ?_ .nil)))
 show Cvt (.fz true k 1 _) (.fz true k 1 _)
 refine Cvt.fz (.inl rfl) (fun r hr => ⟨rfl, fun c hc => ?_⟩)
 obtain rfl : c = 0 := by have : c < 1 := hc; omega
 show Cvt (.fz true (e.ln (0 + r)) 1 (fun j => [.val (.int .u32 ((e.g (0 + r) j : Nat) : Int))])) (.fz true (if r < k then e.ln r else 0) 1 (fun j => [.val (.int .u32 ((if r < k then e.g r j else 0 : Nat) : Int))]))
 simp only [if_pos hr, Nat.zero_add]
 exact .of_eq rfl
theorem swApplies_gen (p : PD) (f : Int) (A B L : LG) (hA : LIn A) (hB : LIn B) (hL : LIn L) (ex : Int) (haw : Den Tryz.prog 10 [] (.val (.bool true)))
  (h1 : smallL A = true → smallL B = true → smallL L = true → AlikeA 11 12 [.agg (parL true p), .agg (keyD true f A B), lgD true L, .val (.int .i64 ex)])
  (h2 : smallL A = true → smallL B = true → smallL L = true → 0 < L.m → AlikeA 14 15 [.agg (parL true p), .agg (keyD true f A B), .agg (elD true (plainE (L.E 0))), .val (.int .i64 ex)])
  (h3 : smallL A = true → smallL B = true → smallL L = true → 0 < L.m → ∀ k : Nat, (L.E 0).lv = (k : Int) → k < (L.E 0).m → AlikeA 14 15 [.agg (parL true p), .agg (keyD true f A B), .agg (elD true (cutE (L.E 0) k)), .val (.int .i64 ex)]) :
  Den Tryz.prog 3 [.agg (parL true p), .agg (keyD true f A B), .agg [lgD true L, .val (.int .i64 ex)]] (.val (.bool true)) := by
 refine den_intro (fn := Tryz.f3) rfl rfl rfl rfl rfl ?_
 refine go ?_
 refine r_callO (law18large_den A hA.m (fun i => (hA.e i).m) (fun i => (hA.e i).l)) ?_
 refine go ?_
 refine g_callM (hl := fun hb => r_callO (law18large_den B hB.m (fun i => (hB.e i).m) (fun i => (hB.e i).l)) (run_fin rfl)) (h := ?_)
 refine go ?_
 refine g_callM (hl := fun hb => r_callO (law18large_den L hL.m (fun i => (hL.e i).m) (fun i => (hL.e i).l)) (run_fin rfl)) (h := ?_)
 refine go ?_
 refine c_ifB (fun q => ?_) (fun q => ?_)
 ·refine go ?_
  refine r_call haw ?_
  refine go ?_
  refine fin ?_
  exact cv
 obtain ⟨qA, qB, qL⟩ := four_f q
 clear q
 replace h1 := h1 qA qB qL
 replace h2 := h2 qA qB qL
 replace h3 := h3 qA qB qL
 obtain ⟨l1, n1, e1, X1, Y1, b1, b2, d1, r1⟩ := h1
 refine go ?_
 refine r_call d1 ?_
 refine go ?_
 refine r_call r1 ?_
 refine go ?_
 refine r_call (sameV l1 n1 X1 b1 b2) ?_
 refine go ?_
 refine g_callM (hl := fun hb => r_call (sameV l1 n1 Y1 b1 b2) (run_fin rfl)) (h := ?_)
 refine go ?_
 refine c_if (fun q => ?_) (fun q => ?_)
 ·refine go ?_
  refine r_call haw ?_
  refine go ?_
  refine fin ?_
  exact cv
 refine go ?_
 refine c_ifB (fun q2 => ?_) (fun q2 => ?_)
 ·have q3 : (L.E 0).lv < ((L.E 0).m : Int) ∧ 0 ≤ (L.E 0).lv := by simpa using q2
  obtain ⟨k, hk⟩ := Int.eq_ofNat_of_zero_le q3.2
  have hN : NatIs (L.E 0).lv k := hk
  have hkm : k < (L.E 0).m := by omega
  obtain ⟨l2, n2, e2, X2, Y2, b3, b4, d2, r2⟩ := h3 (by omega) k hk hkm
  refine go ?_
  refine r_eqS 94 (.val (.int .i64 ((k : Nat) : Int))) (by show D.val (.int .i64 (L.E 0).lv) = _; rw [hk]) ?_
  have hkm2 : k < (L.E (Int.toNat 0)).m := hkm
  refine go ?_
  have hcl : CvtL [.agg (parL true p), .agg (keyD true f A B), .agg [.val (.int .i64 (L.E (Int.toNat 0)).lv), .val (.bool false), .fz true (k - 0) 1 (fun r => [.fz true ((L.E (Int.toNat 0)).ln (0 + r)) 1 (fun j => [.val (.int .u32 (((L.E (Int.toNat 0)).g (0 + r) j : Nat) : Int))])])], .val (.int .i64 ex)] [.agg (parL true p), .agg (keyD true f A B), .agg (elD true (cutE (L.E 0) k)), .val (.int .i64 ex)] := .cons (.of_eq rfl) (.cons (.of_eq rfl) (.cons (cutE_cv (L.E 0) k) (.cons (.of_eq rfl) .nil)))
  replace d2 := d2.arg hcl
  replace r2 := r2.arg hcl
  refine r_call d2 ?_
  refine go ?_
  refine r_call r2 ?_
  refine go ?_
  refine r_call (sameV l2 n2 X2 b3 b4) ?_
  refine go ?_
  refine r_call (sameV l2 n2 Y2 b3 b4) ?_
  refine go ?_
  refine g_callM (hl := fun hb => r_call haw (run_fin rfl)) (h := ?_)
  refine go ?_
  refine fin_slot 6 (.val (.bool true)) ?_ ?_
  ·exact .eq (by simp)
  ·refine fin ?_
   exact cv
 ·obtain ⟨l2, n2, e2, X2, Y2, b3, b4, d2, r2⟩ := h2 (by omega)
  refine go ?_
  refine r_call d2 ?_
  refine go ?_
  refine r_call r2 ?_
  refine go ?_
  refine r_call (sameV l2 n2 X2 b3 b4) ?_
  refine go ?_
  refine r_call (sameV l2 n2 Y2 b3 b4) ?_
  refine go ?_
  refine g_callM (hl := fun hb => r_call haw (run_fin rfl)) (h := ?_)
  refine go ?_
  refine fin_slot 6 (.val (.bool true)) ?_ ?_
  ·exact .eq (by simp)
  ·refine fin ?_
   exact cv
theorem cut_in {e : EG} (h : EIn e) {k : Nat} (hk : k < e.m) : EIn (cutE e k) := by
 refine ⟨by show k ≤ _; have := h.m; omega, fun r => ?_, fun r hr => ?_, fun r j hj => ?_⟩
 ·show (if r < k then e.ln r else 0) ≤ _
  have := h.l r
  split <;> omega
 ·exact if_neg (by have : k ≤ r := hr; omega)
 ·show (if r < k then e.g r j else 0) = 0
  have hj : (if r < k then e.ln r else 0) ≤ j := hj
  split
  ·rw [if_pos ‹_›] at hj; exact h.o3 r j hj
  ·rfl
theorem cut_small {e : EG} (hs : smallE e = true) {k : Nat} (hk : k < e.m) : smallE (cutE e k) = true := by
 unfold smallE at hs ⊢
 rw [Bool.and_eq_true, decide_eq_true_eq, evry_iff] at hs ⊢
 refine ⟨by show k ≤ _; omega, fun r hr => ?_⟩
 have hr : r < k := hr
 have := of_decide_eq_true (hs.2 r (by omega))
 show decide ((if r < k then e.ln r else 0) ≤ 80) = true
 rw [if_pos hr]; exact decide_eq_true this
theorem swApplies_den (p : PD) (hp : PFit p) (f : Int) (A B L : LG) (hA : LIn A) (hB : LIn B) (hL : LIn L) (ex : Int) (haw : Den Tryz.prog 10 [] (.val (.bool true))) :
  Den Tryz.prog 3 [.agg (parL true p), .agg (keyD true f A B), .agg [lgD true L, .val (.int .i64 ex)]] (.val (.bool true)) := by
 have hsm : smallL L = true → 0 < L.m → smallE (L.E 0) = true := fun h h0 => by
  unfold smallL at h
  rw [Bool.and_eq_true, decide_eq_true_eq, evry_iff] at h
  exact h.2 0 h0
 refine swApplies_gen p f A B L hA hB hL ex haw (fun qA qB qL => alike_applyDigits p hp f A B L hA hB hL (hA.small qA) (hB.small qB) (hL.small qL) ex)
  (fun qA qB qL h0 => alike_apply p hp f A B hA hB (hA.small qA) (hB.small qB) (plainE (L.E 0)) ⟨(hL.e 0).m, (hL.e 0).l, (hL.e 0).o2, (hL.e 0).o3⟩ (hsm qL h0) ex)
  (fun qA qB qL h0 k hk hkm => alike_apply p hp f A B hA hB (hA.small qA) (hB.small qB) _ (cut_in (hL.e 0) hkm) (cut_small (hsm qL h0) hkm) ex)
end Go.Proofs.YtmjildbdkecolaaGreat
