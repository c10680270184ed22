/-
  Texts of this claim, laid together: Bvx.
-/
import Derived.Test.YtjmofmdcegefgaaQ01
import Derived.Test.YtjmofmdcegefgaaQ19
import Derived.Test.YtjmofmdcegefgaaQ20
namespace Go.Proofs.Ytjmofmdcegefgaa
open Go.RowKit
set_option linter.unusedSimpArgs false

set_option maxHeartbeats 4000000 in
set_option maxRecDepth 4000 in
theorem implBv_any (v tv : Value) (d : List Bk) (t : List (List Int)) (h : Hd) (now : Int) (lo hi lo2 hi2 : Nat) (w : World) (hd : RD w lo hi v d) (h2 : RT w lo2 hi2 tv t) (hh : HdI h) (hnow : I64 now) :
    Calls Try.prog 21 #[v, .agg #[tv], hdv h, .int .i64 now] w fun e w' => e = .returned (.int .i64 (bv d t h now)) ∧ Below w.heap.size w w' := by
  unfold I64 at hnow
  obtain ⟨a, cap, b, off, rfl, q1, q2, q3, -⟩ := hd.open
  obtain ⟨a2, cap2, b2, off2, rfl, -⟩ := h2.open
  have HB0 := Lib.hid (two_below w (.cells #[.slice a2 t.length cap2] 26) (hbox h))
  have e1 : (w.alloc (.cells #[.slice a2 t.length cap2] 26)).heap.size = w.heap.size + 1 := by simp
  have X1 : Hid (((w.alloc (.cells #[.slice a2 t.length cap2] 26)).alloc (hbox h)).heap[w.heap.size + 1]? = some (hbox h)) := Lib.hid (by have := heap_alloc_new (w.alloc (.cells #[.slice a2 t.length cap2] 26)) (hbox h); rw [e1] at this; exact this)
  have X0 := Lib.hid (box_keep (heap_alloc_new w (.cells #[.slice a2 t.length cap2] 26)) (balloc _ (hbox h)))
  obtain ⟨w0, hw0⟩ : ∃ w0, w0 = (w.alloc (.cells #[.slice a2 t.length cap2] 26)).alloc (hbox h) := ⟨_, rfl⟩
  rw [← hw0] at HB0 X1 X0
  have HW := Lib.hid hw0
  have HD0 := Lib.hid hd
  have HT0 := Lib.hid h2
  have C0 := Lib.hid (fun wx hx => implHdv_any (.slice a d.length cap) d h lo hi wx hx hh)
  have HHd := Lib.hid (fun n wx => isHead_any h n wx)
  obtain ⟨A, B, C⟩ := h
  unfold hdv at C0 HHd ⊢
  unfold hbox at HW X1
  simp only at C0 HHd HW X1 ⊢
  clear hd h2 e1 hw0
  cases hv : hdOk d ⟨A, B, C⟩
  · rw [bv_no (.inl hv)]
    rw [hv] at C0
    clear hv q3
    go_enter Try.func21, Try.ntmps21
    go_wp2_with fail
    rw [← HW.out]
    refine (C0.out _ (HD0.out.below HB0.out)).mono ?_
    rintro e w1 ⟨rfl, b1⟩
    have HF := Lib.hid (bup2 HB0.out b1)
    clear b1
    go_wp2_with fail
    all_goals (go_ret; exact ⟨rfl, HF.out⟩)
  · have HHV := Lib.hid hv
    rw [hv] at C0
    cases hv2 : tabVal t
    · rw [bv_no (.inr (.inl hv2))]
      have c1 := fun wx h => implTbv_any (.slice a2 t.length cap2) t lo2 hi2 wx h
      rw [hv2] at c1
      have C2 := Lib.hid c1
      clear c1 hv hv2 q3
      go_enter Try.func21, Try.ntmps21
      go_wp2_with fail
      rw [← HW.out]
      refine (C0.out _ (HD0.out.below HB0.out)).mono ?_
      rintro e w1 ⟨rfl, b1⟩
      have HB1 := Lib.hid (bup2 HB0.out b1)
      obtain ⟨d1, -⟩ := one_at (box_keep X0.out b1)
      clear b1
      go_wp2_with fail
      refine (C2.out _ (HT0.out.below HB1.out)).mono ?_
      rintro e w2 ⟨rfl, b2⟩
      have HF := Lib.hid (bup2 HB1.out b2)
      clear b2
      go_wp2_with fail
      all_goals (go_ret; exact ⟨rfl, HF.out⟩)
    · have c1 := fun wx h => implTbv_any (.slice a2 t.length cap2) t lo2 hi2 wx h
      rw [hv2] at c1
      have C2 := Lib.hid c1
      clear c1
      by_cases hn0 : 0 ≤ now ∧ now ≤ 1000000
      · have hdv1 := (hdOk_iff.1 hv).1
        have HV := Lib.hid hdv1
        have hgv := bv_yes hv hv2 hn0
        have hcl := bcs_len_yes hdv1 hv2
        have HAT := Lib.hid (fun k (hk : k < (bcs d t).length) => bcs_at hk)
        have hl12 := (dv_len hdv1).2
        have C4 := Lib.hid (fun wx h h2 => implBcs_any (.slice a d.length cap) (.slice a2 t.length cap2) d t lo hi lo2 hi2 wx h h2)
        rw [hgv]
        generalize bcs d t = cs at hcl HAT C4 ⊢
        have HCL := Lib.hid hcl
        obtain ⟨hn0, hn1⟩ := hn0
        have ht0 : decide (now < 0) = false := by simpa using hn0
        have ht1 : decide (1000000 < now) = false := by simpa using hn1
        clear hv hv2 hdv1 hgv
        go_enter Try.func21, Try.ntmps21
        go_wp2_with fail
        rw [← HW.out]
        refine (C0.out _ (HD0.out.below HB0.out)).mono ?_
        rintro e w1 ⟨rfl, b1⟩
        have HB1 := Lib.hid (And.intro (bup2 HB0.out b1) b1)
        obtain ⟨d1, -⟩ := one_at (box_keep X0.out b1)
        clear b1
        go_wp2_with fail
        refine (C2.out _ (HT0.out.below HB1.out.1)).mono ?_
        rintro e w2 ⟨rfl, b2⟩
        have HB2 := Lib.hid (And.intro (bup2 HB1.out.1 b2) (bup2 HB1.out.2 b2))
        clear b2 d1
        obtain ⟨d1, -⟩ := one_at (box_keep X0.out HB2.out.2)
        go_wp2_with fail
        refine (C4.out _ (HD0.out.below HB2.out.1) (HT0.out.below HB2.out.1)).mono ?_
        rintro e w4 ⟨vu, rfl, o4, b4⟩
        obtain ⟨au, capu, bu, offu, rfl, u1, u2, u3', u4'⟩ := o4.ri.open
        have HB4 := Lib.hid (And.intro (bup2 HB2.out.1 b4) (box_keep X1.out (bup2 HB2.out.2 b4)))
        have Q4 := Lib.hid u4'
        clear o4 b4 d1 u4' C2 C4 C0
        rw [hcl] at u1 u3' ⊢
        clear hcl
        go_wp2_with fail
        go_loopw [10, 11, 12, 13, 14, 16, 17, 40] (fun m s _ _ _ _ _ i wr => ∃ k : Nat, k ≤ d.length ∧ i = .int .i64 k ∧ m = .int .i64 (bvN d cs ⟨A, B, C⟩ now k).1 ∧ s = .int .i64 (bvN d cs ⟨A, B, C⟩ now k).2 ∧ Below w.heap.size w wr ∧ Below w4.heap.size w4 wr) (fun _ _ _ _ _ _ _ i _ => d.length - (intOf i).toNat)
        case atStart => exact ⟨0, Nat.zero_le _, rfl, rfl, rfl, HB4.out.1, Below.refl _ _⟩
        case round =>
          obtain ⟨k, hk, rfl, rfl, rfl, hbr, hbs⟩ := hrel
          obtain ⟨wo, rfl⟩ : ∃ wo : World, wo = wr := ⟨_, rfl⟩
          have HR := Lib.hid (And.intro hbr hbs)
          clear hbr hbs
          by_cases hlt : k < d.length
          · have hki : (k : Int) < (d.length : Int) := by omega
            obtain rfl := q3 (by omega)
            obtain rfl := u3' (by omega)
            have hkc : k < cs.length := by have := HCL.out; omega
            obtain ⟨a', cap', b', off', c1, c2, hp, hw, r1, r2, r3, r4⟩ := (HD0.out.below HR.out.1).at k hlt
            have hbk := dv_blk HV.out hlt
            have h4 := dv_len4 HV.out hlt
            have hm : may d cs ⟨A, B, C⟩ k = (decide (nfull d[k].pages = 4) && decide (cs[k] < 4) && !isHd ⟨A, B, C⟩ k) := by
              unfold may
              rw [getDb_in hlt, getD_in hkc]
            have HUP := Lib.hid (fun hm hs => bvN_up (h := ⟨A, B, C⟩) (now := now) hlt hkc hm hs)
            have HKP := Lib.hid (fun hs => bvN_keep (h := ⟨A, B, C⟩) (now := now) hlt hkc hs)
            have HNO := Lib.hid (fun (hm : may d cs ⟨A, B, C⟩ k = false) => bvN_no (now := now) hm)
            have e5 := cell_later HR.out.2 (Q4.out k hkc)
            have hcx := HAT.out k hkc
            have HP := Lib.hid (RB1.mk'' hp hw)
            have HL := Lib.hid (lastN_bd hbk)
            have R4 := Lib.hid r4
            have hx4 : d[k].pages.length ≤ 1048576 := by omega
            generalize cs[k] = x at hm HUP HKP e5 hcx
            generalize d[k] = bk at c1 c2 hp hw hm HP hx4 HUP HKP r1 r3 HL R4 h4 hbk
            have hb5 := balloc wo (.cells #[.int .i64 bk.wear, .slice a' bk.pages.length cap'] 44)
            have X5 := heap_alloc_new wo (.cells #[.int .i64 bk.wear, .slice a' bk.pages.length cap'] 44)
            obtain ⟨⟨f1, f2⟩, -⟩ := two_at X5
            replace e5 := cell_later hb5 e5
            obtain ⟨⟨g1, g2, g3⟩, -⟩ := three_at (box_keep HB4.out.2 (bup2 HR.out.2 hb5))
            have HR5 := Lib.hid (And.intro (bup2 HR.out.1 hb5) (bup2 HR.out.2 hb5))
            have HWB := Lib.hid hb5
            have HM := fun (w' : World) (hq : Below (wo.alloc (.cells #[.int .i64 bk.wear, .slice a' bk.pages.length cap'] 44)).heap.size (wo.alloc (.cells #[.int .i64 bk.wear, .slice a' bk.pages.length cap'] 44)) w') => mayClean_any _ bk x _ _ w' (RB1.keep HP.out (bup2 hb5 hq)) hx4
            obtain ⟨w5, hw5⟩ : ∃ w5, w5 = wo.alloc (.cells #[.int .i64 bk.wear, .slice a' bk.pages.length cap'] 44) := ⟨_, rfl⟩
            rw [← hw5] at f1 f2 e5 g1 g2 g3 HR5 HM HWB
            have HW5 := Lib.hid hw5
            have HR3 := Lib.hid r3
            clear hb5 X5 hw5 hp r4 r3 h4
            cases hmc : (decide (nfull bk.pages = 4) && decide (x < 4))
            · rw [hmc] at HM hm
              have HM2 := Lib.hid HM
              have HN := Lib.hid (HNO.out (by rw [hm]; simp))
              clear HM hm hmc HUP HKP HNO
              go_wp2
              rw [← HW5.out]
              refine region_held_n 12 (S := fun w' => Below w5.heap.size w5 w') (by kernel_rfl) (by kernel_rfl) (bdrew _) (fun hS0 => ?_)
              refine hs_take (fuel := 11) 0 (some 45) (Value.agg #[.int .i64 bk.wear, .slice a' bk.pages.length cap']) rfl rfl (by kernel_rfl) (by kernel_rfl) (by kernel_rfl) (fun _ _ _ h => h) (by rfl) (fun wq hq => ?_) (by assumption) ?_
              · have p1 := cell_later hq f1
                have p2 := cell_later hq f2
                go_simp
              simp only [Act.put, List.setIfInBounds_toArray, List.set_cons_zero, List.set_cons_succ]
              refine hs_take (fuel := 10) 1 (some 46) (.slice (some ⟨bu, offu, none⟩) d.length capu) rfl rfl (by kernel_rfl) (by kernel_rfl) (by kernel_rfl) (fun _ _ _ h => h) (by rfl) (fun wq hq => ?_) (by assumption) ?_
              · go_simp
              simp only [Act.put, List.setIfInBounds_toArray, List.set_cons_zero, List.set_cons_succ]
              refine hs_take (fuel := 9) 2 (some 47) (.int .i64 k) rfl rfl (by kernel_rfl) (by kernel_rfl) (by kernel_rfl) (fun _ _ _ h => h) (by rfl) (fun wq hq => ?_) (by assumption) ?_
              · go_simp
              simp only [Act.put, List.setIfInBounds_toArray, List.set_cons_zero, List.set_cons_succ]
              refine hs_take (fuel := 8) 3 (some 48) (.pointer (some ⟨bu, offu + k, none⟩)) rfl rfl (by kernel_rfl) (by kernel_rfl) (by kernel_rfl) (fun _ _ _ h => h) (by rfl) (fun wq hq => ?_) (by assumption) ?_
              · go_simp
              simp only [Act.put, List.setIfInBounds_toArray, List.set_cons_zero, List.set_cons_succ]
              refine hs_take (fuel := 7) 4 (some 49) (.int .i64 x) rfl rfl (by kernel_rfl) (by kernel_rfl) (by kernel_rfl) (fun _ _ _ h => h) (by rfl) (fun wq hq => ?_) (by assumption) ?_
              · have p1 := cell_later hq e5
                go_simp
              simp only [Act.put, List.setIfInBounds_toArray, List.set_cons_zero, List.set_cons_succ]
              refine wpAnyH_ready (fuel := 6) (rs := [5]) (by kernel_rfl) (by simp) (AllReadyH.cons rfl (fun K hK => ?_) AllReadyH.nil)
              go_simp
              refine (HM2.out _ (by assumption)).mono ?_
              rintro e w6 ⟨rfl, b6⟩
              refine hK.out _ _ ?_ (fun hS => ?_)
              · exact bup2 (by assumption) b6
              refine hs_take (fuel := 5) 6 (some 51) (.bool true) rfl rfl (by kernel_rfl) (by kernel_rfl) (by kernel_rfl) (fun _ _ _ h => h) (by rfl) (fun wq hq => ?_) (by assumption) ?_
              · go_simp
              simp only [Act.put, List.setIfInBounds_toArray, List.set_cons_zero, List.set_cons_succ]
              refine hs_take (fuel := 4) 7 (some 52) (.bool true) rfl rfl (by kernel_rfl) (by kernel_rfl) (by kernel_rfl) (fun _ _ _ h => h) (by rfl) (fun wq hq => ?_) (by assumption) ?_
              · go_simp
              simp only [Act.put, List.setIfInBounds_toArray, List.set_cons_zero, List.set_cons_succ]
              refine hs_skip (fuel := 3) 8 (some 53) rfl rfl (by kernel_rfl) (by kernel_rfl) (by kernel_rfl) (fun _ _ _ h => h) (by rfl) (by assumption) ?_
              simp only [Act.put, List.setIfInBounds_toArray, List.set_cons_zero, List.set_cons_succ]
              refine hs_skip (fuel := 2) 9 (some 54) rfl rfl (by kernel_rfl) (by kernel_rfl) (by kernel_rfl) (fun _ _ _ h => h) (by rfl) (by assumption) ?_
              simp only [Act.put, List.setIfInBounds_toArray, List.set_cons_zero, List.set_cons_succ]
              refine hs_skip (fuel := 1) 10 (some 55) rfl rfl (by kernel_rfl) (by kernel_rfl) (by kernel_rfl) (fun _ _ _ h => h) (by rfl) (by assumption) ?_
              simp only [Act.put, List.setIfInBounds_toArray, List.set_cons_zero, List.set_cons_succ]
              refine hs_take (fuel := 0) 11 (some 56) (.bool true) rfl rfl (by kernel_rfl) (by kernel_rfl) (by kernel_rfl) (fun _ _ _ h => h) (by rfl) (fun wq hq => ?_) (by assumption) ?_
              · go_simp
              simp only [Act.put, List.setIfInBounds_toArray, List.set_cons_zero, List.set_cons_succ]
              refine wpAnyH_done (by kernel_rfl) ?_ _
              have c6 : Below w5.heap.size w5 w6 := by assumption
              have HF := Lib.hid (And.intro (bup2 HR5.out.1 c6) (bup2 HR5.out.2 c6))
              clear c6 f1 f2 e5 g1 g2 g3
              go_wp2
              go_roundw
              case rel => exact ⟨k + 1, by omega, by go_num, by rw [HN.out], by rw [HN.out], HF.out.1, HF.out.2⟩
              case measure => simp [intOf]; omega
            · rw [hmc, Bool.true_and] at hm
              rw [hmc] at HM
              have HM2 := Lib.hid HM
              have hi := fun wx => HHd.out k wx
              clear HM hmc
              cases hih : isHd ⟨A, B, C⟩ k
              · rw [hih] at hm hi
                have HI := Lib.hid hi
                replace HUP := Lib.hid (fun hs => HUP.out (by rw [hm]; rfl) hs)
                clear hm HNO hi hih
                go_wp2
                rw [← HW5.out]
                refine region_held_n 12 (S := fun w' => Below w5.heap.size w5 w') (by kernel_rfl) (by kernel_rfl) (bdrew _) (fun hS0 => ?_)
                refine hs_take (fuel := 11) 0 (some 45) (Value.agg #[.int .i64 bk.wear, .slice a' bk.pages.length cap']) rfl rfl (by kernel_rfl) (by kernel_rfl) (by kernel_rfl) (fun _ _ _ h => h) (by rfl) (fun wq hq => ?_) (by assumption) ?_
                · have p1 := cell_later hq f1
                  have p2 := cell_later hq f2
                  go_simp
                simp only [Act.put, List.setIfInBounds_toArray, List.set_cons_zero, List.set_cons_succ]
                refine hs_take (fuel := 10) 1 (some 46) (.slice (some ⟨bu, offu, none⟩) d.length capu) rfl rfl (by kernel_rfl) (by kernel_rfl) (by kernel_rfl) (fun _ _ _ h => h) (by rfl) (fun wq hq => ?_) (by assumption) ?_
                · go_simp
                simp only [Act.put, List.setIfInBounds_toArray, List.set_cons_zero, List.set_cons_succ]
                refine hs_take (fuel := 9) 2 (some 47) (.int .i64 k) rfl rfl (by kernel_rfl) (by kernel_rfl) (by kernel_rfl) (fun _ _ _ h => h) (by rfl) (fun wq hq => ?_) (by assumption) ?_
                · go_simp
                simp only [Act.put, List.setIfInBounds_toArray, List.set_cons_zero, List.set_cons_succ]
                refine hs_take (fuel := 8) 3 (some 48) (.pointer (some ⟨bu, offu + k, none⟩)) rfl rfl (by kernel_rfl) (by kernel_rfl) (by kernel_rfl) (fun _ _ _ h => h) (by rfl) (fun wq hq => ?_) (by assumption) ?_
                · go_simp
                simp only [Act.put, List.setIfInBounds_toArray, List.set_cons_zero, List.set_cons_succ]
                refine hs_take (fuel := 7) 4 (some 49) (.int .i64 x) rfl rfl (by kernel_rfl) (by kernel_rfl) (by kernel_rfl) (fun _ _ _ h => h) (by rfl) (fun wq hq => ?_) (by assumption) ?_
                · have p1 := cell_later hq e5
                  go_simp
                simp only [Act.put, List.setIfInBounds_toArray, List.set_cons_zero, List.set_cons_succ]
                refine wpAnyH_ready (fuel := 6) (rs := [5]) (by kernel_rfl) (by simp) (AllReadyH.cons rfl (fun K hK => ?_) AllReadyH.nil)
                go_simp
                refine (HM2.out _ (by assumption)).mono ?_
                rintro e w6 ⟨rfl, b6⟩
                refine hK.out _ _ ?_ (fun hS => ?_)
                · exact bup2 (by assumption) b6
                refine hs_take (fuel := 5) 6 (some 51) (.bool false) rfl rfl (by kernel_rfl) (by kernel_rfl) (by kernel_rfl) (fun _ _ _ h => h) (by rfl) (fun wq hq => ?_) (by assumption) ?_
                · go_simp
                simp only [Act.put, List.setIfInBounds_toArray, List.set_cons_zero, List.set_cons_succ]
                refine hs_take (fuel := 4) 7 (some 52) (.bool false) rfl rfl (by kernel_rfl) (by kernel_rfl) (by kernel_rfl) (fun _ _ _ h => h) (by rfl) (fun wq hq => ?_) (by assumption) ?_
                · go_simp
                simp only [Act.put, List.setIfInBounds_toArray, List.set_cons_zero, List.set_cons_succ]
                refine hs_take (fuel := 3) 8 (some 53) (.agg #[.int .i64 A, .int .i64 B, .int .i64 C]) rfl rfl (by kernel_rfl) (by kernel_rfl) (by kernel_rfl) (fun _ _ _ h => h) (by rfl) (fun wq hq => ?_) (by assumption) ?_
                · have p1 := cell_later hq g1
                  have p2 := cell_later hq g2
                  have p3 := cell_later hq g3
                  go_simp
                simp only [Act.put, List.setIfInBounds_toArray, List.set_cons_zero, List.set_cons_succ]
                refine hs_take (fuel := 2) 9 (some 54) (.int .i64 k) rfl rfl (by kernel_rfl) (by kernel_rfl) (by kernel_rfl) (fun _ _ _ h => h) (by rfl) (fun wq hq => ?_) (by assumption) ?_
                · go_simp
                simp only [Act.put, List.setIfInBounds_toArray, List.set_cons_zero, List.set_cons_succ]
                refine wpAnyH_ready (fuel := 1) (rs := [10]) (by kernel_rfl) (by simp) (AllReadyH.cons rfl (fun K hK => ?_) AllReadyH.nil)
                go_simp
                refine (HI.out _).mono ?_
                rintro e w7 ⟨rfl, b7⟩
                refine hK.out _ _ ?_ (fun hS => ?_)
                · exact bup2 (bup2 (by assumption) b6) b7
                refine hs_take (fuel := 0) 11 (some 56) (.bool false) rfl rfl (by kernel_rfl) (by kernel_rfl) (by kernel_rfl) (fun _ _ _ h => h) (by rfl) (fun wq hq => ?_) (by assumption) ?_
                · go_simp
                simp only [Act.put, List.setIfInBounds_toArray, List.set_cons_zero, List.set_cons_succ]
                refine wpAnyH_done (by kernel_rfl) ?_ _
                have c7 : Below w5.heap.size w5 w7 := by assumption
                have HF7 := Lib.hid (And.intro (bup2 HR5.out.1 c7) (bup2 HR5.out.2 c7))
                have H57 := Lib.hid c7
                replace f1 := cell_later c7 f1
                replace f2 := cell_later c7 f2
                replace e5 := cell_later c7 e5
                have E5 := Lib.hid e5
                clear c7 g1 g2 g3 e5
                go_wp2_with fail
                go_loopw [14, 16, 60] (fun m _ i wq => ∃ j : Nat, j ≤ bk.pages.length ∧ i = .int .i64 j ∧ m = .int .i64 (lastN bk.pages j) ∧ Below w7.heap.size w7 wq) (fun _ _ i _ => bk.pages.length - (intOf i).toNat)
                case atStart => exact ⟨0, Nat.zero_le _, rfl, rfl, Below.refl _ _⟩
                case round =>
                  obtain ⟨j, hj, rfl, rfl, hbq⟩ := hrel
                  have HQ := Lib.hid hbq
                  clear hbq
                  have hbd := HL.out j
                  by_cases hjl : j < bk.pages.length
                  · have hji : (j : Int) < (bk.pages.length : Int) := by omega
                    obtain rfl := HR3.out (by omega)
                    obtain ⟨y0, y1, y2, y3, y4⟩ := (R4.out j hjl).below (bup2 HWB.out (bup2 H57.out HQ.out))
                    have hst := lastN_step hjl
                    generalize bk.pages[j] = p at y0 y1 y2 y3 y4 hst
                    have HST := Lib.hid hst
                    have HB6 := Lib.hid (bup2 HQ.out (balloc wr (.cells #[.bool p.full, .int .i64 p.file, .int .i64 p.place, .int .i64 p.value, .int .i64 p.stamp] 53)))
                    clear hst f1 f2
                    go_wp2_with fail
                    go_roundw
                    case rel => exact ⟨j + 1, by omega, by go_num, by rw [HST.out], HB6.out⟩
                    case measure => simp [intOf]; omega
                  · have hji : ¬ (j : Int) < (bk.pages.length : Int) := by omega
                    obtain rfl : j = bk.pages.length := by omega
                    have e5 := cell_later HQ.out E5.out
                    have HF := Lib.hid (And.intro (bup2 HF7.out.1 HQ.out) (bup2 HF7.out.2 HQ.out))
                    have HVs := Lib.hid (fun w' => implVictim_any x (ageOf bk now) (by unfold I64; omega) (by have := ageOf_bd hbk hn0 hn1; unfold I64; omega) w')
                    replace HVs := HVs.out
                    unfold ageOf at HVs HUP HKP
                    obtain ⟨ag, hag⟩ : ∃ ag, ag = max 0 (now - lastN bk.pages bk.pages.length) := ⟨_, rfl⟩
                    obtain ⟨sc, hsc⟩ : ∃ sc, sc = vscore x ag := ⟨_, rfl⟩
                    rw [← hag, ← hsc] at HVs HUP HKP
                    replace HVs := Lib.hid HVs
                    have HAG := Lib.hid hag.symm
                    obtain ⟨M, hM⟩ : ∃ M, M = bvN d cs ⟨A, B, C⟩ now k := ⟨_, rfl⟩
                    rw [← hM] at HUP HKP ⊢
                    clear hag hsc hM f1 f2
                    go_wp2_with fail
                    rw [HAG.out]
                    refine (HVs.out _).mono ?_
                    rintro e w8 ⟨rfl, rfl⟩
                    by_cases hbt : M.2 < sc
                    · have hbd : decide (M.2 < sc) = true := by simpa using hbt
                      have HN := Lib.hid (HUP.out (by omega))
                      clear HUP HKP hbt
                      go_wp2_with fail
                      go_roundw
                      case rel => exact ⟨k + 1, by omega, by go_num, by rw [HN.out], by rw [HN.out], HF.out.1, HF.out.2⟩
                      case measure => simp [intOf]; omega
                    · have hbd : decide (M.2 < sc) = false := by simpa using hbt
                      have HN := Lib.hid (HKP.out (by omega))
                      clear HUP HKP hbt
                      go_wp2_with fail
                      go_roundw
                      case rel => exact ⟨k + 1, by omega, by go_num, by rw [HN.out], by rw [HN.out], HF.out.1, HF.out.2⟩
                      case measure => simp [intOf]; omega
              · rw [hih] at hm hi
                have HI := Lib.hid hi
                have HN := Lib.hid (HNO.out (by rw [hm]; rfl))
                clear hm HUP HKP HNO hi hih
                go_wp2
                rw [← HW5.out]
                refine region_held_n 12 (S := fun w' => Below w5.heap.size w5 w') (by kernel_rfl) (by kernel_rfl) (bdrew _) (fun hS0 => ?_)
                refine hs_take (fuel := 11) 0 (some 45) (Value.agg #[.int .i64 bk.wear, .slice a' bk.pages.length cap']) rfl rfl (by kernel_rfl) (by kernel_rfl) (by kernel_rfl) (fun _ _ _ h => h) (by rfl) (fun wq hq => ?_) (by assumption) ?_
                · have p1 := cell_later hq f1
                  have p2 := cell_later hq f2
                  go_simp
                simp only [Act.put, List.setIfInBounds_toArray, List.set_cons_zero, List.set_cons_succ]
                refine hs_take (fuel := 10) 1 (some 46) (.slice (some ⟨bu, offu, none⟩) d.length capu) rfl rfl (by kernel_rfl) (by kernel_rfl) (by kernel_rfl) (fun _ _ _ h => h) (by rfl) (fun wq hq => ?_) (by assumption) ?_
                · go_simp
                simp only [Act.put, List.setIfInBounds_toArray, List.set_cons_zero, List.set_cons_succ]
                refine hs_take (fuel := 9) 2 (some 47) (.int .i64 k) rfl rfl (by kernel_rfl) (by kernel_rfl) (by kernel_rfl) (fun _ _ _ h => h) (by rfl) (fun wq hq => ?_) (by assumption) ?_
                · go_simp
                simp only [Act.put, List.setIfInBounds_toArray, List.set_cons_zero, List.set_cons_succ]
                refine hs_take (fuel := 8) 3 (some 48) (.pointer (some ⟨bu, offu + k, none⟩)) rfl rfl (by kernel_rfl) (by kernel_rfl) (by kernel_rfl) (fun _ _ _ h => h) (by rfl) (fun wq hq => ?_) (by assumption) ?_
                · go_simp
                simp only [Act.put, List.setIfInBounds_toArray, List.set_cons_zero, List.set_cons_succ]
                refine hs_take (fuel := 7) 4 (some 49) (.int .i64 x) rfl rfl (by kernel_rfl) (by kernel_rfl) (by kernel_rfl) (fun _ _ _ h => h) (by rfl) (fun wq hq => ?_) (by assumption) ?_
                · have p1 := cell_later hq e5
                  go_simp
                simp only [Act.put, List.setIfInBounds_toArray, List.set_cons_zero, List.set_cons_succ]
                refine wpAnyH_ready (fuel := 6) (rs := [5]) (by kernel_rfl) (by simp) (AllReadyH.cons rfl (fun K hK => ?_) AllReadyH.nil)
                go_simp
                refine (HM2.out _ (by assumption)).mono ?_
                rintro e w6 ⟨rfl, b6⟩
                refine hK.out _ _ ?_ (fun hS => ?_)
                · exact bup2 (by assumption) b6
                refine hs_take (fuel := 5) 6 (some 51) (.bool false) rfl rfl (by kernel_rfl) (by kernel_rfl) (by kernel_rfl) (fun _ _ _ h => h) (by rfl) (fun wq hq => ?_) (by assumption) ?_
                · go_simp
                simp only [Act.put, List.setIfInBounds_toArray, List.set_cons_zero, List.set_cons_succ]
                refine hs_take (fuel := 4) 7 (some 52) (.bool false) rfl rfl (by kernel_rfl) (by kernel_rfl) (by kernel_rfl) (fun _ _ _ h => h) (by rfl) (fun wq hq => ?_) (by assumption) ?_
                · go_simp
                simp only [Act.put, List.setIfInBounds_toArray, List.set_cons_zero, List.set_cons_succ]
                refine hs_take (fuel := 3) 8 (some 53) (.agg #[.int .i64 A, .int .i64 B, .int .i64 C]) rfl rfl (by kernel_rfl) (by kernel_rfl) (by kernel_rfl) (fun _ _ _ h => h) (by rfl) (fun wq hq => ?_) (by assumption) ?_
                · have p1 := cell_later hq g1
                  have p2 := cell_later hq g2
                  have p3 := cell_later hq g3
                  go_simp
                simp only [Act.put, List.setIfInBounds_toArray, List.set_cons_zero, List.set_cons_succ]
                refine hs_take (fuel := 2) 9 (some 54) (.int .i64 k) rfl rfl (by kernel_rfl) (by kernel_rfl) (by kernel_rfl) (fun _ _ _ h => h) (by rfl) (fun wq hq => ?_) (by assumption) ?_
                · go_simp
                simp only [Act.put, List.setIfInBounds_toArray, List.set_cons_zero, List.set_cons_succ]
                refine wpAnyH_ready (fuel := 1) (rs := [10]) (by kernel_rfl) (by simp) (AllReadyH.cons rfl (fun K hK => ?_) AllReadyH.nil)
                go_simp
                refine (HI.out _).mono ?_
                rintro e w7 ⟨rfl, b7⟩
                refine hK.out _ _ ?_ (fun hS => ?_)
                · exact bup2 (bup2 (by assumption) b6) b7
                refine hs_take (fuel := 0) 11 (some 56) (.bool true) rfl rfl (by kernel_rfl) (by kernel_rfl) (by kernel_rfl) (fun _ _ _ h => h) (by rfl) (fun wq hq => ?_) (by assumption) ?_
                · go_simp
                simp only [Act.put, List.setIfInBounds_toArray, List.set_cons_zero, List.set_cons_succ]
                refine wpAnyH_done (by kernel_rfl) ?_ _
                have c7 : Below w5.heap.size w5 w7 := by assumption
                have HF := Lib.hid (And.intro (bup2 HR5.out.1 c7) (bup2 HR5.out.2 c7))
                clear c7 f1 f2 e5 g1 g2 g3
                go_wp2
                go_roundw
                case rel => exact ⟨k + 1, by omega, by go_num, by rw [HN.out], by rw [HN.out], HF.out.1, HF.out.2⟩
                case measure => simp [intOf]; omega
          · have hki : ¬ (k : Int) < (d.length : Int) := by omega
            obtain rfl : k = d.length := by omega
            go_wp2_with fail
            go_ret
            exact ⟨rfl, HR.out.1⟩
      · rw [bv_no (.inr (.inr (by omega)))]
        clear hv hv2 q3
        rcases (show now < 0 ∨ (0 ≤ now ∧ 1000000 < now) from by omega) with hc | ⟨hc1, hc2⟩
        all_goals
          clear hn0
          go_enter Try.func21, Try.ntmps21
          go_wp2_with fail
          rw [← HW.out]
          refine (C0.out _ (HD0.out.below HB0.out)).mono ?_
          rintro e w1 ⟨rfl, b1⟩
          have HB1 := Lib.hid (bup2 HB0.out b1)
          obtain ⟨d1, -⟩ := one_at (box_keep X0.out b1)
          clear b1
          go_wp2_with fail
          refine (C2.out _ (HT0.out.below HB1.out)).mono ?_
          rintro e w2 ⟨rfl, b2⟩
          have HF := Lib.hid (bup2 HB1.out b2)
          clear b2
          go_wp2_with fail
          all_goals (go_ret; exact ⟨rfl, HF.out⟩)

end Go.Proofs.Ytjmofmdcegefgaa

