/-
  The walks of OldPages, both ways.
-/
import Derived.Test.YtfcfifjfmflicaaBcw
namespace Go.Proofs.Ytfcfifjfmflicaa
open Go.RowKit

set_option maxHeartbeats 2000000 in
set_option maxRecDepth 4000 in
theorem implOld_any (v tv : Value) (d : List Bk) (t : List (List Int)) (lo hi lo2 hi2 : Nat) (w : World) (h : RD w lo hi v d) (h2 : RT w lo2 hi2 tv t) :
    Calls Try.prog 10 #[v, .agg #[tv]] w fun e w' => e = .returned (.int .i64 (old d t)) ∧ Below w.heap.size w w' := by
  obtain ⟨a, cap, b, off, rfl, q1, q2, q3, -⟩ := h.open
  obtain ⟨a2, cap2, b2, off2, rfl, -⟩ := h2.open
  have hb0 := balloc w (.cells #[.slice a2 t.length cap2] 31)
  have X0 := Lib.hid (heap_alloc_new w (.cells #[.slice a2 t.length cap2] 31))
  have HD := Lib.hid (h.below hb0)
  have HD0 := Lib.hid h
  have HT := Lib.hid (h2.below hb0)
  have HT0 := Lib.hid h2
  have HB0 := Lib.hid hb0
  clear h h2 hb0 q3
  cases hv : dvOk d
  · rw [old_no1 hv]
    have c1 := fun wx h => implDvv_any (.slice a d.length cap) d lo hi wx h
    rw [hv] at c1
    have C1 := Lib.hid c1
    clear c1 hv
    go_enter Try.func10, Try.ntmps10
    go_wp2_with fail
    refine (C1.out _ HD.out).mono ?_
    rintro e w1 ⟨rfl, b1⟩
    have HF := Lib.hid (bup2 HB0.out b1)
    clear b1
    go_wp2_with fail
    all_goals (go_ret; exact ⟨rfl, HF.out⟩)
  · have HV := Lib.hid hv
    have hl12 := (dv_len hv).2
    have c1 := fun wx h => implDvv_any (.slice a d.length cap) d lo hi wx h
    rw [hv] at c1
    have C1 := Lib.hid c1
    clear c1 hv
    cases hv : tabVal t
    · rw [old_no2 hv]
      have c1 := fun wx h => implTbv_any (.slice a2 t.length cap2) t lo2 hi2 wx h
      rw [hv] at c1
      have C2 := Lib.hid c1
      clear c1 hv
      go_enter Try.func10, Try.ntmps10
      go_wp2_with fail
      refine (C1.out _ HD.out).mono ?_
      rintro e w1 ⟨rfl, b1⟩
      have HB1 := Lib.hid (And.intro (bup2 HB0.out b1) (And.intro b1 (box_keep X0.out b1)))
      obtain ⟨d1, -⟩ := one_at HB1.out.2.2
      clear b1
      go_wp2_with fail
      refine (C2.out _ (HT.out.below HB1.out.2.1)).mono ?_
      rintro e w2 ⟨rfl, b2⟩
      have HF := Lib.hid (bup2 HB1.out.1 b2)
      clear b2
      go_wp2_with fail
      all_goals (go_ret; exact ⟨rfl, HF.out⟩)
    · have hold := old_yes HV.out hv
      have hfr := frees_le HV.out
      have hsum := sumN_bcs d t
      have hall := sumN_all (Nat.le_refl (bcs d t).length)
      rw [hold]
      have HH := Lib.hid hall
      have HS := Lib.hid hsum
      have c1 := fun wx h => implTbv_any (.slice a2 t.length cap2) t lo2 hi2 wx h
      rw [hv] at c1
      have C2 := Lib.hid c1
      have C3 := Lib.hid (fun wx h => implFre_any (.slice a d.length cap) d lo hi wx h)
      have C4 := Lib.hid (fun wx h h2 => implBcs_any (.slice a d.length cap) (.slice a2 t.length cap2) d t lo hi lo2 hi2 wx h h2)
      have hlb := bcs_len d t
      clear c1 hv hold hall hsum
      go_enter Try.func10, Try.ntmps10
      go_wp2_with fail
      refine (C1.out _ HD.out).mono ?_
      rintro e w1 ⟨rfl, b1⟩
      have HB1 := Lib.hid (And.intro (bup2 HB0.out b1) (And.intro b1 (box_keep X0.out b1)))
      obtain ⟨d1, -⟩ := one_at HB1.out.2.2
      clear b1
      go_wp2_with fail
      refine (C2.out _ (HT.out.below HB1.out.2.1)).mono ?_
      rintro e w2 ⟨rfl, b2⟩
      have HB2 := Lib.hid (And.intro (bup2 HB1.out.1 b2) (box_keep HB1.out.2.2 b2))
      clear b2 d1
      go_wp2_with fail
      refine (C3.out _ (HD0.out.below HB2.out.1)).mono ?_
      rintro e w3 ⟨rfl, b3⟩
      have HB3 := Lib.hid (And.intro (bup2 HB2.out.1 b3) (box_keep HB2.out.2 b3))
      obtain ⟨d1, -⟩ := one_at HB3.out.2
      clear b3
      go_wp2_with fail
      refine (C4.out _ (HD0.out.below HB3.out.1) (HT0.out.below HB3.out.1)).mono ?_
      rintro e w4 ⟨vu, rfl, o4, b4⟩
      obtain ⟨au, capu, bu, offu, rfl, u1, u2, u3', u4'⟩ := o4.ri.open
      have HB4 := Lib.hid (bup2 HB3.out.1 b4)
      have Q4 := Lib.hid u4'
      clear o4 b4 d1 u4'
      go_wp2_with fail
      go_loopw [5, 7, 26] (fun m _ i wr => ∃ k : Nat, k ≤ (bcs d t).length ∧ i = .int .i64 k ∧ m = .int .i64 (4 * (d.length : Int) - frees d - sumN (bcs d t) k) ∧ Below w.heap.size w wr ∧ Below w4.heap.size w4 wr) (fun _ _ i _ => (bcs d t).length - (intOf i).toNat)
      case atStart => exact ⟨0, Nat.zero_le _, rfl, by rw [sumN_zero]; go_num, HB4.out, Below.refl _ _⟩
      case round =>
        obtain ⟨k, hk, rfl, rfl, hbr, hbs⟩ := hrel
        have HR := Lib.hid (And.intro hbr hbs)
        clear hbr hbs HB4
        have hs1 := HS.out k
        by_cases hlt : k < (bcs d t).length
        · obtain rfl := u3' (by omega)
          have hki : (k : Int) < ((bcs d t).length : Int) := by omega
          have hc := cell_later HR.out.2 (Q4.out k hlt)
          have hst := sumN_succ hlt
          have hx := bcs_at hlt
          generalize (bcs d t)[k] = x at hc hst hx
          have HST := Lib.hid hst
          clear hst u3'
          go_wp2_with fail
          go_roundw
          case rel => exact ⟨k + 1, by omega, by go_num, by rw [HST.out]; go_num, HR.out.1, HR.out.2⟩
          case measure => simp [intOf]; omega
        · have hki : ¬ (k : Int) < ((bcs d t).length : Int) := by omega
          obtain rfl : k = (bcs d t).length := by omega
          rw [HH.out] at hs1 ⊢
          go_wp2_with fail
          go_ret
          exact ⟨rfl, HR.out.1⟩

set_option maxHeartbeats 2000000 in
set_option maxRecDepth 4000 in
theorem specOld_any (v tv : Value) (d : List Bk) (t : List (List Int)) (lo hi lo2 hi2 : Nat) (w : World) (h : RD w lo hi v d) (h2 : RT w lo2 hi2 tv t) :
    Calls Try.prog 7 #[v, .agg #[tv]] w fun e w' => e = .returned (.int .i64 (old d t)) ∧ Below w.heap.size w w' := by
  obtain ⟨a, cap, b, off, rfl, q1, q2, q3, -⟩ := h.open
  obtain ⟨a2, cap2, b2, off2, rfl, -⟩ := h2.open
  have hb0 := balloc w (.cells #[.slice a2 t.length cap2] 31)
  have X0 := Lib.hid (heap_alloc_new w (.cells #[.slice a2 t.length cap2] 31))
  have HD := Lib.hid (h.below hb0)
  have HD0 := Lib.hid h
  have HT := Lib.hid (h2.below hb0)
  have HT0 := Lib.hid h2
  have HB0 := Lib.hid hb0
  clear h h2 hb0 q3
  cases hv : dvOk d
  · rw [old_no1 hv]
    have c1 := fun wx h => specDvv_any (.slice a d.length cap) d lo hi wx h
    rw [hv] at c1
    have C1 := Lib.hid c1
    clear c1 hv
    go_enter Try.func7, Try.ntmps7
    go_wp2_with fail
    refine (C1.out _ HD.out).mono ?_
    rintro e w1 ⟨rfl, b1⟩
    have HF := Lib.hid (bup2 HB0.out b1)
    clear b1
    go_wp2_with fail
    all_goals (go_ret; exact ⟨rfl, HF.out⟩)
  · have HV := Lib.hid hv
    have hl12 := (dv_len hv).2
    have c1 := fun wx h => specDvv_any (.slice a d.length cap) d lo hi wx h
    rw [hv] at c1
    have C1 := Lib.hid c1
    clear c1 hv
    cases hv : tabVal t
    · rw [old_no2 hv]
      have c1 := fun wx h => specTbv_any (.slice a2 t.length cap2) t lo2 hi2 wx h
      rw [hv] at c1
      have C2 := Lib.hid c1
      clear c1 hv
      go_enter Try.func7, Try.ntmps7
      go_wp2_with fail
      refine (C1.out _ HD.out).mono ?_
      rintro e w1 ⟨rfl, b1⟩
      have HB1 := Lib.hid (And.intro (bup2 HB0.out b1) (And.intro b1 (box_keep X0.out b1)))
      obtain ⟨d1, -⟩ := one_at HB1.out.2.2
      clear b1
      go_wp2_with fail
      refine (C2.out _ (HT.out.below HB1.out.2.1)).mono ?_
      rintro e w2 ⟨rfl, b2⟩
      have HF := Lib.hid (bup2 HB1.out.1 b2)
      clear b2
      go_wp2_with fail
      all_goals (go_ret; exact ⟨rfl, HF.out⟩)
    · have hold := old_yes HV.out hv
      have hfr := frees_le HV.out
      have hsum := sumN_bcs d t
      have hall := sumN_all (Nat.le_refl (bcs d t).length)
      rw [hold]
      have HH := Lib.hid hall
      have HS := Lib.hid hsum
      have c1 := fun wx h => specTbv_any (.slice a2 t.length cap2) t lo2 hi2 wx h
      rw [hv] at c1
      have C2 := Lib.hid c1
      have C3 := Lib.hid (fun wx h => specFre_any (.slice a d.length cap) d lo hi wx h)
      have C4 := Lib.hid (fun wx h h2 => specBcs_any (.slice a d.length cap) (.slice a2 t.length cap2) d t lo hi lo2 hi2 wx h h2)
      have hlb := bcs_len d t
      clear c1 hv hold hall hsum
      go_enter Try.func7, Try.ntmps7
      go_wp2_with fail
      refine (C1.out _ HD.out).mono ?_
      rintro e w1 ⟨rfl, b1⟩
      have HB1 := Lib.hid (And.intro (bup2 HB0.out b1) (And.intro b1 (box_keep X0.out b1)))
      obtain ⟨d1, -⟩ := one_at HB1.out.2.2
      clear b1
      go_wp2_with fail
      refine (C2.out _ (HT.out.below HB1.out.2.1)).mono ?_
      rintro e w2 ⟨rfl, b2⟩
      have HB2 := Lib.hid (And.intro (bup2 HB1.out.1 b2) (box_keep HB1.out.2.2 b2))
      clear b2 d1
      go_wp2_with fail
      refine (C3.out _ (HD0.out.below HB2.out.1)).mono ?_
      rintro e w3 ⟨rfl, b3⟩
      have HB3 := Lib.hid (And.intro (bup2 HB2.out.1 b3) (box_keep HB2.out.2 b3))
      obtain ⟨d1, -⟩ := one_at HB3.out.2
      clear b3
      go_wp2_with fail
      refine (C4.out _ (HD0.out.below HB3.out.1) (HT0.out.below HB3.out.1)).mono ?_
      rintro e w4 ⟨vu, rfl, o4, b4⟩
      obtain ⟨au, capu, bu, offu, rfl, u1, u2, u3', u4'⟩ := o4.ri.open
      have HB4 := Lib.hid (bup2 HB3.out.1 b4)
      have Q4 := Lib.hid u4'
      clear o4 b4 d1 u4'
      go_wp2_with fail
      go_loopw [5, 7] (fun m i wr => ∃ k : Nat, k ≤ (bcs d t).length ∧ i = .int .i64 k ∧ m = .int .i64 (4 * (d.length : Int) - frees d - sumN (bcs d t) k) ∧ Below w.heap.size w wr ∧ Below w4.heap.size w4 wr) (fun _ i _ => (bcs d t).length - (intOf i).toNat)
      case atStart => exact ⟨0, Nat.zero_le _, rfl, by rw [sumN_zero]; go_num, HB4.out, Below.refl _ _⟩
      case round =>
        obtain ⟨k, hk, rfl, rfl, hbr, hbs⟩ := hrel
        have HR := Lib.hid (And.intro hbr hbs)
        clear hbr hbs HB4
        have hs1 := HS.out k
        by_cases hlt : k < (bcs d t).length
        · obtain rfl := u3' (by omega)
          have hki : (k : Int) < ((bcs d t).length : Int) := by omega
          have hc := cell_later HR.out.2 (Q4.out k hlt)
          have hst := sumN_succ hlt
          have hx := bcs_at hlt
          generalize (bcs d t)[k] = x at hc hst hx
          have HST := Lib.hid hst
          clear hst u3'
          go_wp2_with fail
          go_roundw
          case rel => exact ⟨k + 1, by omega, by go_num, by rw [HST.out]; go_num, HR.out.1, HR.out.2⟩
          case measure => simp [intOf]; omega
        · have hki : ¬ (k : Int) < ((bcs d t).length : Int) := by omega
          obtain rfl : k = (bcs d t).length := by omega
          rw [HH.out] at hs1 ⊢
          go_wp2_with fail
          go_ret
          exact ⟨rfl, HR.out.1⟩

end Go.Proofs.Ytfcfifjfmflicaa
