/-
  Texts of this claim, laid together: Olw, Bnx.
-/
import Derived.Test.YtjmofmdcegefgaaQ19
import Derived.Test.YtjmofmdcegefgaaQ23
namespace Go.Proofs.Ytjmofmdcegefgaa
open Go.RowKit

set_option maxHeartbeats 2000000 in
set_option maxRecDepth 4000 in
theorem implOld_any (v tv : Value) (d : List Bk) (t : List (List Int)) (lo hi lo2 hi2 : Nat) (w : World) (h : RD w lo hi v d) (h2 : RT w lo2 hi2 tv t) :
    Calls Try.prog 10 #[v, .agg #[tv]] w fun e w' => e = .returned (.int .i64 (old d t)) ∧ Below w.heap.size w w' := by
  obtain ⟨a, cap, b, off, rfl, q1, q2, q3, -⟩ := h.open
  obtain ⟨a2, cap2, b2, off2, rfl, -⟩ := h2.open
  have hb0 := balloc w (.cells #[.slice a2 t.length cap2] 26)
  have X0 := Lib.hid (heap_alloc_new w (.cells #[.slice a2 t.length cap2] 26))
  have HD := Lib.hid (h.below hb0)
  have HD0 := Lib.hid h
  have HT := Lib.hid (h2.below hb0)
  have HT0 := Lib.hid h2
  have HB0 := Lib.hid hb0
  clear h h2 hb0 q3
  cases hv : dvOk d
  · rw [old_no1 hv]
    have c1 := fun wx h => implDvv_any (.slice a d.length cap) d lo hi wx h
    rw [hv] at c1
    have C1 := Lib.hid c1
    clear c1 hv
    go_enter Try.func10, Try.ntmps10
    go_wp2_with fail
    refine (C1.out _ HD.out).mono ?_
    rintro e w1 ⟨rfl, b1⟩
    have HF := Lib.hid (bup2 HB0.out b1)
    clear b1
    go_wp2_with fail
    all_goals (go_ret; exact ⟨rfl, HF.out⟩)
  · have HV := Lib.hid hv
    have hl12 := (dv_len hv).2
    have c1 := fun wx h => implDvv_any (.slice a d.length cap) d lo hi wx h
    rw [hv] at c1
    have C1 := Lib.hid c1
    clear c1 hv
    cases hv : tabVal t
    · rw [old_no2 hv]
      have c1 := fun wx h => implTbv_any (.slice a2 t.length cap2) t lo2 hi2 wx h
      rw [hv] at c1
      have C2 := Lib.hid c1
      clear c1 hv
      go_enter Try.func10, Try.ntmps10
      go_wp2_with fail
      refine (C1.out _ HD.out).mono ?_
      rintro e w1 ⟨rfl, b1⟩
      have HB1 := Lib.hid (And.intro (bup2 HB0.out b1) (And.intro b1 (box_keep X0.out b1)))
      obtain ⟨d1, -⟩ := one_at HB1.out.2.2
      clear b1
      go_wp2_with fail
      refine (C2.out _ (HT.out.below HB1.out.2.1)).mono ?_
      rintro e w2 ⟨rfl, b2⟩
      have HF := Lib.hid (bup2 HB1.out.1 b2)
      clear b2
      go_wp2_with fail
      all_goals (go_ret; exact ⟨rfl, HF.out⟩)
    · have hold := old_yes HV.out hv
      have hfr := frees_le HV.out
      have hsum := sumN_bcs d t
      have hall := sumN_all (Nat.le_refl (bcs d t).length)
      rw [hold]
      have HH := Lib.hid hall
      have HS := Lib.hid hsum
      have c1 := fun wx h => implTbv_any (.slice a2 t.length cap2) t lo2 hi2 wx h
      rw [hv] at c1
      have C2 := Lib.hid c1
      have C3 := Lib.hid (fun wx h => implFre_any (.slice a d.length cap) d lo hi wx h)
      have C4 := Lib.hid (fun wx h h2 => implBcs_any (.slice a d.length cap) (.slice a2 t.length cap2) d t lo hi lo2 hi2 wx h h2)
      have hlb := bcs_len d t
      clear c1 hv hold hall hsum
      go_enter Try.func10, Try.ntmps10
      go_wp2_with fail
      refine (C1.out _ HD.out).mono ?_
      rintro e w1 ⟨rfl, b1⟩
      have HB1 := Lib.hid (And.intro (bup2 HB0.out b1) (And.intro b1 (box_keep X0.out b1)))
      obtain ⟨d1, -⟩ := one_at HB1.out.2.2
      clear b1
      go_wp2_with fail
      refine (C2.out _ (HT.out.below HB1.out.2.1)).mono ?_
      rintro e w2 ⟨rfl, b2⟩
      have HB2 := Lib.hid (And.intro (bup2 HB1.out.1 b2) (box_keep HB1.out.2.2 b2))
      clear b2 d1
      go_wp2_with fail
      refine (C3.out _ (HD0.out.below HB2.out.1)).mono ?_
      rintro e w3 ⟨rfl, b3⟩
      have HB3 := Lib.hid (And.intro (bup2 HB2.out.1 b3) (box_keep HB2.out.2 b3))
      obtain ⟨d1, -⟩ := one_at HB3.out.2
      clear b3
      go_wp2_with fail
      refine (C4.out _ (HD0.out.below HB3.out.1) (HT0.out.below HB3.out.1)).mono ?_
      rintro e w4 ⟨vu, rfl, o4, b4⟩
      obtain ⟨au, capu, bu, offu, rfl, u1, u2, u3', u4'⟩ := o4.ri.open
      have HB4 := Lib.hid (bup2 HB3.out.1 b4)
      have Q4 := Lib.hid u4'
      clear o4 b4 d1 u4'
      go_wp2_with fail
      go_loopw [5, 7, 26] (fun m _ i wr => ∃ k : Nat, k ≤ (bcs d t).length ∧ i = .int .i64 k ∧ m = .int .i64 (4 * (d.length : Int) - frees d - sumN (bcs d t) k) ∧ Below w.heap.size w wr ∧ Below w4.heap.size w4 wr) (fun _ _ i _ => (bcs d t).length - (intOf i).toNat)
      case atStart => exact ⟨0, Nat.zero_le _, rfl, by rw [sumN_zero]; go_num, HB4.out, Below.refl _ _⟩
      case round =>
        obtain ⟨k, hk, rfl, rfl, hbr, hbs⟩ := hrel
        have HR := Lib.hid (And.intro hbr hbs)
        clear hbr hbs HB4
        have hs1 := HS.out k
        by_cases hlt : k < (bcs d t).length
        · obtain rfl := u3' (by omega)
          have hki : (k : Int) < ((bcs d t).length : Int) := by omega
          have hc := cell_later HR.out.2 (Q4.out k hlt)
          have hst := sumN_succ hlt
          have hx := bcs_at hlt
          generalize (bcs d t)[k] = x at hc hst hx
          have HST := Lib.hid hst
          clear hst u3'
          go_wp2_with fail
          go_roundw
          case rel => exact ⟨k + 1, by omega, by go_num, by rw [HST.out]; go_num, HR.out.1, HR.out.2⟩
          case measure => simp [intOf]; omega
        · have hki : ¬ (k : Int) < ((bcs d t).length : Int) := by omega
          obtain rfl : k = (bcs d t).length := by omega
          rw [HH.out] at hs1 ⊢
          go_wp2_with fail
          go_ret
          exact ⟨rfl, HR.out.1⟩

set_option maxHeartbeats 2000000 in
set_option maxRecDepth 4000 in
theorem specOld_any (v tv : Value) (d : List Bk) (t : List (List Int)) (lo hi lo2 hi2 : Nat) (w : World) (h : RD w lo hi v d) (h2 : RT w lo2 hi2 tv t) :
    Calls Try.prog 11 #[v, .agg #[tv]] w fun e w' => e = .returned (.int .i64 (old d t)) ∧ Below w.heap.size w w' := by
  obtain ⟨a, cap, b, off, rfl, q1, q2, q3, -⟩ := h.open
  obtain ⟨a2, cap2, b2, off2, rfl, -⟩ := h2.open
  have hb0 := balloc w (.cells #[.slice a2 t.length cap2] 26)
  have X0 := Lib.hid (heap_alloc_new w (.cells #[.slice a2 t.length cap2] 26))
  have HD := Lib.hid (h.below hb0)
  have HD0 := Lib.hid h
  have HT := Lib.hid (h2.below hb0)
  have HT0 := Lib.hid h2
  have HB0 := Lib.hid hb0
  clear h h2 hb0 q3
  cases hv : dvOk d
  · rw [old_no1 hv]
    have c1 := fun wx h => specDvv_any (.slice a d.length cap) d lo hi wx h
    rw [hv] at c1
    have C1 := Lib.hid c1
    clear c1 hv
    go_enter Try.func11, Try.ntmps11
    go_wp2_with fail
    refine (C1.out _ HD.out).mono ?_
    rintro e w1 ⟨rfl, b1⟩
    have HF := Lib.hid (bup2 HB0.out b1)
    clear b1
    go_wp2_with fail
    all_goals (go_ret; exact ⟨rfl, HF.out⟩)
  · have HV := Lib.hid hv
    have hl12 := (dv_len hv).2
    have c1 := fun wx h => specDvv_any (.slice a d.length cap) d lo hi wx h
    rw [hv] at c1
    have C1 := Lib.hid c1
    clear c1 hv
    cases hv : tabVal t
    · rw [old_no2 hv]
      have c1 := fun wx h => specTbv_any (.slice a2 t.length cap2) t lo2 hi2 wx h
      rw [hv] at c1
      have C2 := Lib.hid c1
      clear c1 hv
      go_enter Try.func11, Try.ntmps11
      go_wp2_with fail
      refine (C1.out _ HD.out).mono ?_
      rintro e w1 ⟨rfl, b1⟩
      have HB1 := Lib.hid (And.intro (bup2 HB0.out b1) (And.intro b1 (box_keep X0.out b1)))
      obtain ⟨d1, -⟩ := one_at HB1.out.2.2
      clear b1
      go_wp2_with fail
      refine (C2.out _ (HT.out.below HB1.out.2.1)).mono ?_
      rintro e w2 ⟨rfl, b2⟩
      have HF := Lib.hid (bup2 HB1.out.1 b2)
      clear b2
      go_wp2_with fail
      all_goals (go_ret; exact ⟨rfl, HF.out⟩)
    · have hold := old_yes HV.out hv
      have hfr := frees_le HV.out
      have hsum := sumN_bcs d t
      have hall := sumN_all (Nat.le_refl (bcs d t).length)
      rw [hold]
      have HH := Lib.hid hall
      have HS := Lib.hid hsum
      have c1 := fun wx h => specTbv_any (.slice a2 t.length cap2) t lo2 hi2 wx h
      rw [hv] at c1
      have C2 := Lib.hid c1
      have C3 := Lib.hid (fun wx h => specFre_any (.slice a d.length cap) d lo hi wx h)
      have C4 := Lib.hid (fun wx h h2 => specBcs_any (.slice a d.length cap) (.slice a2 t.length cap2) d t lo hi lo2 hi2 wx h h2)
      have hlb := bcs_len d t
      clear c1 hv hold hall hsum
      go_enter Try.func11, Try.ntmps11
      go_wp2_with fail
      refine (C1.out _ HD.out).mono ?_
      rintro e w1 ⟨rfl, b1⟩
      have HB1 := Lib.hid (And.intro (bup2 HB0.out b1) (And.intro b1 (box_keep X0.out b1)))
      obtain ⟨d1, -⟩ := one_at HB1.out.2.2
      clear b1
      go_wp2_with fail
      refine (C2.out _ (HT.out.below HB1.out.2.1)).mono ?_
      rintro e w2 ⟨rfl, b2⟩
      have HB2 := Lib.hid (And.intro (bup2 HB1.out.1 b2) (box_keep HB1.out.2.2 b2))
      clear b2 d1
      go_wp2_with fail
      refine (C3.out _ (HD0.out.below HB2.out.1)).mono ?_
      rintro e w3 ⟨rfl, b3⟩
      have HB3 := Lib.hid (And.intro (bup2 HB2.out.1 b3) (box_keep HB2.out.2 b3))
      obtain ⟨d1, -⟩ := one_at HB3.out.2
      clear b3
      go_wp2_with fail
      refine (C4.out _ (HD0.out.below HB3.out.1) (HT0.out.below HB3.out.1)).mono ?_
      rintro e w4 ⟨vu, rfl, o4, b4⟩
      obtain ⟨au, capu, bu, offu, rfl, u1, u2, u3', u4'⟩ := o4.ri.open
      have HB4 := Lib.hid (bup2 HB3.out.1 b4)
      have Q4 := Lib.hid u4'
      clear o4 b4 d1 u4'
      go_wp2_with fail
      go_loopw [5, 7] (fun m i wr => ∃ k : Nat, k ≤ (bcs d t).length ∧ i = .int .i64 k ∧ m = .int .i64 (4 * (d.length : Int) - frees d - sumN (bcs d t) k) ∧ Below w.heap.size w wr ∧ Below w4.heap.size w4 wr) (fun _ i _ => (bcs d t).length - (intOf i).toNat)
      case atStart => exact ⟨0, Nat.zero_le _, rfl, by rw [sumN_zero]; go_num, HB4.out, Below.refl _ _⟩
      case round =>
        obtain ⟨k, hk, rfl, rfl, hbr, hbs⟩ := hrel
        have HR := Lib.hid (And.intro hbr hbs)
        clear hbr hbs HB4
        have hs1 := HS.out k
        by_cases hlt : k < (bcs d t).length
        · obtain rfl := u3' (by omega)
          have hki : (k : Int) < ((bcs d t).length : Int) := by omega
          have hc := cell_later HR.out.2 (Q4.out k hlt)
          have hst := sumN_succ hlt
          have hx := bcs_at hlt
          generalize (bcs d t)[k] = x at hc hst hx
          have HST := Lib.hid hst
          clear hst u3'
          go_wp2_with fail
          go_roundw
          case rel => exact ⟨k + 1, by omega, by go_num, by rw [HST.out]; go_num, HR.out.1, HR.out.2⟩
          case measure => simp [intOf]; omega
        · have hki : ¬ (k : Int) < ((bcs d t).length : Int) := by omega
          obtain rfl : k = (bcs d t).length := by omega
          rw [HH.out] at hs1 ⊢
          go_wp2_with fail
          go_ret
          exact ⟨rfl, HR.out.1⟩

end Go.Proofs.Ytjmofmdcegefgaa

namespace Go.Proofs.Ytjmofmdcegefgaa
open Go.RowKit
set_option linter.unusedSimpArgs false
set_option linter.unusedVariables false
set_option linter.unnecessarySimpa false

set_option maxHeartbeats 2000000 in
theorem implNext_any (v : Value) (b : Bk) (lo hi : Nat) (w : World) (h : RB1 w lo hi v b) :
    Calls Try.prog 19 #[v] w fun e w' => e = .returned (.int .i64 (bnext b)) ∧ Below w.heap.size w w' := by
  obtain ⟨s, rfl, hw, hp⟩ := h
  obtain ⟨a, cap, b0, off, rfl, q1, q2, q3, q4⟩ := hp.open
  have HB0 := Lib.hid (balloc w (.cells #[.int .i64 b.wear, .slice a b.pages.length cap] 44))
  have X0 := Lib.hid (heap_alloc_new w (.cells #[.int .i64 b.wear, .slice a b.pages.length cap] 44))
  have c1 := fun wx h => implBkv_any (.agg #[.int .i64 b.wear, .slice a b.pages.length cap]) b lo hi wx h
  have HP := Lib.hid (RB1.mk' (hp.below HB0.out) hw)
  have Q4 := Lib.hid q4
  clear hp q4
  cases hk : bkOk b
  · rw [hk] at c1
    have C1 := Lib.hid c1
    rw [bnext_no hk]
    clear c1 hk q3
    go_enter Try.func19, Try.ntmps19
    go_wp2_with fail
    refine (C1.out _ HP.out).mono ?_
    rintro e w1 ⟨rfl, b1⟩
    have HF := Lib.hid (bup2 HB0.out b1)
    clear b1
    go_wp2_with fail
    go_ret
    exact ⟨rfl, HF.out⟩
  · rw [hk] at c1
    have C1 := Lib.hid c1
    have HK := Lib.hid hk
    have h4 := (bkOk_iff.1 hk).2.1
    obtain ⟨y, hy⟩ : ∃ y, y = bnext b := ⟨_, rfl⟩
    have HY := Lib.hid hy
    rw [← hy]
    have hpl : b.pages.length ≤ 1048576 := by omega
    clear c1 hk h4 hy
    go_enter Try.func19, Try.ntmps19
    go_wp2_with fail
    refine (C1.out _ HP.out).mono ?_
    rintro e w1 ⟨rfl, b1⟩
    have HF := Lib.hid (bup2 HB0.out b1)
    obtain ⟨⟨d1, d2⟩, -⟩ := two_at (box_keep X0.out b1)
    clear b1
    go_wp2_with fail
    go_loopw [11] (fun i wr => ∃ k : Nat, k ≤ b.pages.length ∧ i = .int .i64 k ∧ (∀ j (hj : j < k) (hb : j < b.pages.length), b.pages[j].full = true) ∧ Below w.heap.size w wr) (fun i _ => b.pages.length - (intOf i).toNat)
    case atStart => exact ⟨0, Nat.zero_le _, rfl, fun j hj => by omega, HF.out⟩
    case round =>
      obtain ⟨k, hk, rfl, hall, hbr⟩ := hrel
      have HB := Lib.hid hbr
      have HA := Lib.hid hall
      clear hbr hall HF
      by_cases hlt : k < b.pages.length
      · obtain rfl := q3 (by omega)
        have hki : (k : Int) < (b.pages.length : Int) := by omega
        obtain ⟨e0, e1, e2, e3, e4⟩ := (Q4.out k hlt).below HB.out
        have HYE := Lib.hid (fun (hf : b.pages[k].full = false) => bnext_at HK.out hlt (fun j hj => HA.out j hj (by omega)) hf)
        have HAE : Hid (b.pages[k].full = true → ∀ j (hj : j < k + 1) (hb : j < b.pages.length), b.pages[j].full = true) := Lib.hid (fun hf j hj hb => by
          by_cases e : j = k
          · subst e; exact hf
          · exact HA.out j (by omega) hb)
        generalize b.pages[k] = p at e0 e1 e2 e3 e4 HYE HAE
        have HB6 := Lib.hid (bup2 HB.out (balloc wr (.cells #[.bool p.full, .int .i64 p.file, .int .i64 p.place, .int .i64 p.value, .int .i64 p.stamp] 53)))
        cases hf : p.full
        · rw [hf] at e0 HB6
          have HE := Lib.hid (show y = (k : Int) by rw [HY.out]; exact HYE.out hf)
          clear q3 hf HYE HAE
          go_wp2_with fail
          go_ret
          exact ⟨by rw [HE.out]; rfl, HB6.out⟩
        · rw [hf] at e0 HB6
          have HN := Lib.hid (HAE.out hf)
          clear q3 hf HYE HAE
          go_wp2_with fail
          go_roundw
          case rel => exact ⟨k + 1, by omega, by go_num, HN.out, HB6.out⟩
          case measure => simp [intOf]; omega
      · have hki : ¬ (k : Int) < (b.pages.length : Int) := by omega
        have HE := Lib.hid (show y = -1 by rw [HY.out]; exact bnext_full fun j hj => HA.out j (by omega) hj)
        go_wp2_with fail
        go_ret
        exact ⟨by rw [HE.out]; rfl, HB.out⟩

set_option maxHeartbeats 1000000 in
theorem implSpl_yes (p q : Pg) (w : World) (h1 : pgOk p = true) (h2 : pgOk q = true) (h3 : p.full = true) (h4 : q.full = true) (h5 : q.file = p.file) (h6 : q.place = p.place) :
    Calls Try.prog 30 #[pgv p, pgv q] w fun e w' => e = .returned (.bool true) ∧ Below w.heap.size w w' := by
  have c1 := fun wx => implPgv_any p wx
  have c2 := fun wx => implPgv_any q wx
  rw [h1] at c1
  rw [h2] at c2
  obtain ⟨pf, f, g, x1, s1⟩ := p
  obtain ⟨qf, f2, g2, x2, s2⟩ := q
  simp only at h3 h4 h5 h6
  subst h3 h4 h5 h6
  unfold pgv at c1 c2 ⊢
  simp only at c1 c2 ⊢
  have C1 := Lib.hid c1
  have C2 := Lib.hid c2
  have X1 := Lib.hid (box_keep (heap_alloc_new w (.cells #[.bool true, .int .i64 f2, .int .i64 g2, .int .i64 x1, .int .i64 s1] 53)) (balloc _ (.cells #[.bool true, .int .i64 f2, .int .i64 g2, .int .i64 x2, .int .i64 s2] 53)))
  have e1 : (w.alloc (.cells #[.bool true, .int .i64 f2, .int .i64 g2, .int .i64 x1, .int .i64 s1] 53)).heap.size = w.heap.size + 1 := by simp
  have x2' := heap_alloc_new (w.alloc (.cells #[.bool true, .int .i64 f2, .int .i64 g2, .int .i64 x1, .int .i64 s1] 53)) (.cells #[.bool true, .int .i64 f2, .int .i64 g2, .int .i64 x2, .int .i64 s2] 53)
  rw [e1] at x2'
  have X2 := Lib.hid x2'
  have HB := Lib.hid (two_below w (.cells #[.bool true, .int .i64 f2, .int .i64 g2, .int .i64 x1, .int .i64 s1] 53) (.cells #[.bool true, .int .i64 f2, .int .i64 g2, .int .i64 x2, .int .i64 s2] 53))
  clear c1 c2 h1 h2 x2' e1
  go_enter Try.func30, Try.ntmps30
  go_wp2_with fail
  refine (C1.out _).mono ?_
  rintro e w1 ⟨rfl, b1⟩
  replace X1 := Lib.hid (box_keep X1.out b1)
  replace X2 := Lib.hid (box_keep X2.out b1)
  replace HB := Lib.hid (bup2 HB.out b1)
  obtain ⟨z0, z1, z2, z3, z4⟩ := five0 (p := ⟨true, f2, g2, x2, s2⟩) X2.out
  clear b1
  go_wp2_with fail
  refine (C2.out _).mono ?_
  rintro e w2 ⟨rfl, b2⟩
  replace X1 := Lib.hid (box_keep X1.out b2)
  replace X2 := Lib.hid (box_keep X2.out b2)
  replace HB := Lib.hid (bup2 HB.out b2)
  clear z0 z1 z2 z3 z4
  obtain ⟨z0, z1, z2, z3, z4⟩ := five0 (p := ⟨true, f2, g2, x2, s2⟩) X2.out
  obtain ⟨y0, y1, y2, y3, y4⟩ := five0 (p := ⟨true, f2, g2, x1, s1⟩) X1.out
  clear b2
  go_wp2_with fail
  all_goals (go_ret; exact ⟨rfl, HB.out⟩)

end Go.Proofs.Ytjmofmdcegefgaa

