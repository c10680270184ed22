/-
  Texts of this claim, laid together: Gvx.
-/
import Derived.Test.YtjmofmdcegefgaaQ17
import Derived.Test.YtjmofmdcegefgaaQ19
namespace Go.Proofs.Ytjmofmdcegefgaa
open Go.RowKit

set_option maxHeartbeats 4000000 in
set_option maxRecDepth 4000 in
theorem implGv_any (v tv : Value) (d : List Bk) (t : List (List Int)) (h : Hd) (lo hi lo2 hi2 : Nat) (w : World) (hd : RD w lo hi v d) (h2 : RT w lo2 hi2 tv t) (hh : HdI h) :
    Calls Try.prog 16 #[v, .agg #[tv], hdv h] w fun e w' => e = .returned (.int .i64 (gv d t h)) ∧ Below w.heap.size w w' := by
  obtain ⟨a, cap, b, off, rfl, q1, q2, q3, -⟩ := hd.open
  obtain ⟨a2, cap2, b2, off2, rfl, -⟩ := h2.open
  have HB0 := Lib.hid (two_below w (.cells #[.slice a2 t.length cap2] 26) (hbox h))
  have e1 : (w.alloc (.cells #[.slice a2 t.length cap2] 26)).heap.size = w.heap.size + 1 := by simp
  have X1 : Hid (((w.alloc (.cells #[.slice a2 t.length cap2] 26)).alloc (hbox h)).heap[w.heap.size + 1]? = some (hbox h)) := Lib.hid (by have := heap_alloc_new (w.alloc (.cells #[.slice a2 t.length cap2] 26)) (hbox h); rw [e1] at this; exact this)
  have X0 := Lib.hid (box_keep (heap_alloc_new w (.cells #[.slice a2 t.length cap2] 26)) (balloc _ (hbox h)))
  obtain ⟨w0, hw0⟩ : ∃ w0, w0 = (w.alloc (.cells #[.slice a2 t.length cap2] 26)).alloc (hbox h) := ⟨_, rfl⟩
  rw [← hw0] at HB0 X1 X0
  have HW := Lib.hid hw0
  have HD0 := Lib.hid hd
  have HT0 := Lib.hid h2
  have C0 := Lib.hid (fun wx hx => implHdv_any (.slice a d.length cap) d h lo hi wx hx hh)
  have HHd := Lib.hid (fun n wx => isHead_any h n wx)
  obtain ⟨A, B, C⟩ := h
  unfold hdv at C0 HHd ⊢
  unfold hbox at HW X1
  simp only at C0 HHd HW X1 ⊢
  clear hd h2 e1 hw0
  cases hv : hdOk d ⟨A, B, C⟩
  · rw [gv_no1 hv]
    rw [hv] at C0
    clear hv q3
    go_enter Try.func16, Try.ntmps16
    go_wp2_with fail
    rw [← HW.out]
    refine (C0.out _ (HD0.out.below HB0.out)).mono ?_
    rintro e w1 ⟨rfl, b1⟩
    have HF := Lib.hid (bup2 HB0.out b1)
    clear b1
    go_wp2_with fail
    all_goals (go_ret; exact ⟨rfl, HF.out⟩)
  · have HHV := Lib.hid hv
    rw [hv] at C0
    cases hv2 : tabVal t
    · rw [gv_no2 hv2]
      have c1 := fun wx h => implTbv_any (.slice a2 t.length cap2) t lo2 hi2 wx h
      rw [hv2] at c1
      have C2 := Lib.hid c1
      clear c1 hv hv2 q3
      go_enter Try.func16, Try.ntmps16
      go_wp2_with fail
      rw [← HW.out]
      refine (C0.out _ (HD0.out.below HB0.out)).mono ?_
      rintro e w1 ⟨rfl, b1⟩
      have HB1 := Lib.hid (bup2 HB0.out b1)
      obtain ⟨d1, -⟩ := one_at (box_keep X0.out b1)
      clear b1
      go_wp2_with fail
      refine (C2.out _ (HT0.out.below HB1.out)).mono ?_
      rintro e w2 ⟨rfl, b2⟩
      have HF := Lib.hid (bup2 HB1.out b2)
      clear b2
      go_wp2_with fail
      all_goals (go_ret; exact ⟨rfl, HF.out⟩)
    · have hdv1 := (hdOk_iff.1 hv).1
      have HV := Lib.hid hdv1
      have hgv := gv_yes hv hv2
      have hcl := bcs_len_yes hdv1 hv2
      have HAT := Lib.hid (fun k (hk : k < (bcs d t).length) => bcs_at hk)
      have hl12 := (dv_len hdv1).2
      have C4 := Lib.hid (fun wx h h2 => implBcs_any (.slice a d.length cap) (.slice a2 t.length cap2) d t lo hi lo2 hi2 wx h h2)
      have c1 := fun wx h => implTbv_any (.slice a2 t.length cap2) t lo2 hi2 wx h
      rw [hv2] at c1
      have C2 := Lib.hid c1
      rw [hgv]
      generalize bcs d t = cs at hcl HAT C4 ⊢
      have HCL := Lib.hid hcl
      clear c1 hv hv2 hdv1 hgv
      go_enter Try.func16, Try.ntmps16
      go_wp2_with fail
      rw [← HW.out]
      refine (C0.out _ (HD0.out.below HB0.out)).mono ?_
      rintro e w1 ⟨rfl, b1⟩
      have HB1 := Lib.hid (And.intro (bup2 HB0.out b1) b1)
      obtain ⟨d1, -⟩ := one_at (box_keep X0.out b1)
      clear b1
      go_wp2_with fail
      refine (C2.out _ (HT0.out.below HB1.out.1)).mono ?_
      rintro e w2 ⟨rfl, b2⟩
      have HB2 := Lib.hid (And.intro (bup2 HB1.out.1 b2) (bup2 HB1.out.2 b2))
      clear b2 d1
      obtain ⟨d1, -⟩ := one_at (box_keep X0.out HB2.out.2)
      go_wp2_with fail
      refine (C4.out _ (HD0.out.below HB2.out.1) (HT0.out.below HB2.out.1)).mono ?_
      rintro e w4 ⟨vu, rfl, o4, b4⟩
      obtain ⟨au, capu, bu, offu, rfl, u1, u2, u3', u4'⟩ := o4.ri.open
      have HB4 := Lib.hid (And.intro (bup2 HB2.out.1 b4) (box_keep X1.out (bup2 HB2.out.2 b4)))
      have Q4 := Lib.hid u4'
      clear o4 b4 d1 u4' C2 C4 C0
      rw [hcl] at u1 u3' ⊢
      clear hcl
      go_wp2_with fail
      go_loopw [8, 9, 10, 25] (fun m _ _ i wr => ∃ k : Nat, k ≤ d.length ∧ i = .int .i64 k ∧ m = .int .i64 (gvN d cs ⟨A, B, C⟩ k) ∧ Below w.heap.size w wr ∧ Below w4.heap.size w4 wr) (fun _ _ _ i _ => d.length - (intOf i).toNat)
      case atStart => exact ⟨0, Nat.zero_le _, rfl, rfl, HB4.out.1, Below.refl _ _⟩
      case round =>
        obtain ⟨k, hk, rfl, rfl, hbr, hbs⟩ := hrel
        have HR := Lib.hid (And.intro hbr hbs)
        clear hbr hbs
        by_cases hlt : k < d.length
        · have hki : (k : Int) < (d.length : Int) := by omega
          obtain rfl := q3 (by omega)
          obtain rfl := u3' (by omega)
          have hkc : k < cs.length := by have := HCL.out; omega
          obtain ⟨a', cap', b', off', c1, c2, hp, hw, -⟩ := (HD0.out.below HR.out.1).at k hlt
          have h4 := dv_len4 HV.out hlt
          have hm : may d cs ⟨A, B, C⟩ k = (decide (nfull d[k].pages = 4) && decide (cs[k] < 4) && !isHd ⟨A, B, C⟩ k) := by
            unfold may
            rw [getDb_in hlt, getD_in hkc]
          have hst := fun (hm : may d cs ⟨A, B, C⟩ k = true) => gvN_step hm
          have hno := fun (hm : may d cs ⟨A, B, C⟩ k = false) => gvN_no hm
          have hle := gvN_le d cs ⟨A, B, C⟩ k
          rw [getD_in hkc] at hst
          have e5 := cell_later HR.out.2 (Q4.out k hkc)
          have hcx := HAT.out k hkc
          have HP := Lib.hid (RB1.mk'' hp hw)
          have hx4 : d[k].pages.length ≤ 1048576 := by omega
          generalize cs[k] = x at hm hst e5 hcx
          generalize d[k] = bk at c1 c2 hp hw hm HP hx4
          have hb5 := balloc wr (.cells #[.int .i64 bk.wear, .slice a' bk.pages.length cap'] 44)
          have X5 := heap_alloc_new wr (.cells #[.int .i64 bk.wear, .slice a' bk.pages.length cap'] 44)
          obtain ⟨⟨f1, f2⟩, -⟩ := two_at X5
          have e5' := cell_later hb5 e5
          obtain ⟨⟨g1, g2, g3⟩, -⟩ := three_at (box_keep HB4.out.2 (bup2 HR.out.2 hb5))
          have HR5 := Lib.hid (And.intro (bup2 HR.out.1 hb5) (bup2 HR.out.2 hb5))
          have HM := mayClean_any _ bk x _ _ _ (RB1.keep HP.out (bup2 hb5 (bdrew _))) hx4
          obtain ⟨w5, hw5⟩ : ∃ w5, w5 = wr.alloc (.cells #[.int .i64 bk.wear, .slice a' bk.pages.length cap'] 44) := ⟨_, rfl⟩
          rw [← hw5] at f1 f2 e5' g1 g2 g3 HR5 HM
          have HW5 := Lib.hid hw5
          clear hb5 X5 hw5 hp h4 e5
          cases hmc : (decide (nfull bk.pages = 4) && decide (x < 4))
          · rw [hmc] at HM hm
            have HM2 := Lib.hid HM
            have HN := Lib.hid (hno (by rw [hm]; simp))
            clear HM hm hst hno hmc hle
            go_wp2
            rw [← HW5.out]
            first
              | go_region_with (first | (go_at_call 49; refine HM2.out.mono ?_; rintro e w6 ⟨rfl, b6⟩))
              | fail
            all_goals
              have c6 : Below w5.drew.heap.size w5.drew w6 := by assumption
              have HF := Lib.hid (And.intro (bup2 HR5.out.1 (bup2 (bdrew w5) c6)) (bup2 HR5.out.2 (bup2 (bdrew w5) c6)))
              clear c6 f1 f2 e5' g1 g2 g3
              go_wp2
              go_roundw
              case rel => exact ⟨k + 1, by omega, by go_num, by rw [HN.out], HF.out.1, HF.out.2⟩
              case measure => simp [intOf]; omega
          · rw [hmc, Bool.true_and] at hm
            rw [hmc] at HM
            have HM2 := Lib.hid HM
            have hi := fun wx => HHd.out k wx
            clear HM hmc
            cases hih : isHd ⟨A, B, C⟩ k
            · rw [hih] at hm hi
              have HI := Lib.hid hi
              have hs := hst (by rw [hm]; rfl)
              clear hm hst hno hi hih
              obtain ⟨G, hG⟩ : ∃ G, G = gvN d cs ⟨A, B, C⟩ k := ⟨_, rfl⟩
              rw [← hG] at hs hle ⊢
              clear hG
              have HS := Lib.hid hs
              clear hs
              go_wp2
              rw [← HW5.out]
              go_region_held3 (fun w' => w'.cell? ⟨wr.heap.size, 0, none⟩ = some (.int .i64 bk.wear) ∧ w'.cell? ⟨wr.heap.size, 1, none⟩ = some (.slice a' bk.pages.length cap') ∧ w'.cell? ⟨bu, offu + k, none⟩ = some (.int .i64 x) ∧ w'.cell? ⟨w.heap.size + 1, 0, none⟩ = some (.int .i64 A) ∧ w'.cell? ⟨w.heap.size + 1, 1, none⟩ = some (.int .i64 B) ∧ w'.cell? ⟨w.heap.size + 1, 2, none⟩ = some (.int .i64 C))
                (first | exact ⟨f1, f2, e5', g1, g2, g3⟩ | exact ⟨cell_later (w := w5.drew) (by assumption) f1, cell_later (w := w5.drew) (by assumption) f2, cell_later (w := w5.drew) (by assumption) e5', cell_later (w := w5.drew) (by assumption) g1, cell_later (w := w5.drew) (by assumption) g2, cell_later (w := w5.drew) (by assumption) g3⟩ | exact ⟨cell_later (w := w5.drew) (bup2 (b := w6) (by assumption) (by assumption)) f1, cell_later (w := w5.drew) (bup2 (b := w6) (by assumption) (by assumption)) f2, cell_later (w := w5.drew) (bup2 (b := w6) (by assumption) (by assumption)) e5', cell_later (w := w5.drew) (bup2 (b := w6) (by assumption) (by assumption)) g1, cell_later (w := w5.drew) (bup2 (b := w6) (by assumption) (by assumption)) g2, cell_later (w := w5.drew) (bup2 (b := w6) (by assumption) (by assumption)) g3⟩)
                (first | (go_at_call 49; refine HM2.out.mono ?_; rintro e w6 ⟨rfl, b6⟩)
                       | (go_at_call 50; refine (HI.out _).mono ?_; rintro e w7 ⟨rfl, b7⟩))
              all_goals
                have c6 : Below w5.drew.heap.size w5.drew w6 := by assumption
                have c7 : Below w6.heap.size w6 w7 := by assumption
                have HF := Lib.hid (And.intro (bup2 HR5.out.1 (bup2 (bdrew w5) (bup2 c6 c7))) (bup2 HR5.out.2 (bup2 (bdrew w5) (bup2 c6 c7))))
                have y1 := cell_later (bup2 (bdrew w5) (bup2 c6 c7)) e5'
                clear c6 c7 f1 f2 e5' g1 g2 g3
                by_cases hG0 : G < 0
                · have hGd : decide (G < 0) = true := by simpa using hG0
                  have hs := HS.out
                  rw [if_pos (.inl hG0)] at hs
                  have HN := Lib.hid hs
                  clear hs hG0
                  go_wp2
                  go_quiet (fail)
                  go_wp2
                  go_roundw
                  case rel => exact ⟨k + 1, by omega, by go_num, by rw [HN.out], bup2 HF.out.1 (bdN _ _), bup2 HF.out.2 (bdN _ _)⟩
                  case measure => simp [intOf]; omega
                · obtain ⟨m, rfl⟩ := Int.eq_ofNat_of_zero_le (show 0 ≤ G by omega)
                  have hmc : m < cs.length := by omega
                  have y2 := cell_later HF.out.2 (Q4.out m hmc)
                  have hs := HS.out
                  rw [Int.toNat_natCast, getD_in hmc] at hs
                  have hyb := HAT.out m hmc
                  generalize cs[m] = y at y2 hs hyb
                  have hGd : decide ((m : Int) < 0) = false := by simp
                  have hmi : (m : Int) < (d.length : Int) := by omega
                  by_cases hxy : x < y
                  · have hxd : decide (x < y) = true := by simpa using hxy
                    rw [if_pos (.inr hxy)] at hs
                    have HN := Lib.hid hs
                    clear hs hG0 hxy
                    go_wp2
                    go_quiet (fail)
                    go_wp2
                    go_roundw
                    case rel => exact ⟨k + 1, by omega, by go_num, by rw [HN.out], bup2 HF.out.1 (bdN _ _), bup2 HF.out.2 (bdN _ _)⟩
                    case measure => simp [intOf]; omega
                  · have hxd : decide (x < y) = false := by simpa using hxy
                    rw [if_neg (by omega)] at hs
                    have HN := Lib.hid hs
                    clear hs hG0 hxy
                    go_wp2
                    go_quiet (fail)
                    go_wp2
                    go_roundw
                    case rel => exact ⟨k + 1, by omega, by go_num, by rw [HN.out], bup2 HF.out.1 (bdN _ _), bup2 HF.out.2 (bdN _ _)⟩
                    case measure => simp [intOf]; omega
            · rw [hih] at hm hi
              have HI := Lib.hid hi
              have HN := Lib.hid (hno (by rw [hm]; rfl))
              clear hm hst hno hi hih hle
              go_wp2
              rw [← HW5.out]
              go_region_held3 (fun w' => w'.cell? ⟨wr.heap.size, 0, none⟩ = some (.int .i64 bk.wear) ∧ w'.cell? ⟨wr.heap.size, 1, none⟩ = some (.slice a' bk.pages.length cap') ∧ w'.cell? ⟨bu, offu + k, none⟩ = some (.int .i64 x) ∧ w'.cell? ⟨w.heap.size + 1, 0, none⟩ = some (.int .i64 A) ∧ w'.cell? ⟨w.heap.size + 1, 1, none⟩ = some (.int .i64 B) ∧ w'.cell? ⟨w.heap.size + 1, 2, none⟩ = some (.int .i64 C))
                (first | exact ⟨f1, f2, e5', g1, g2, g3⟩ | exact ⟨cell_later (w := w5.drew) (by assumption) f1, cell_later (w := w5.drew) (by assumption) f2, cell_later (w := w5.drew) (by assumption) e5', cell_later (w := w5.drew) (by assumption) g1, cell_later (w := w5.drew) (by assumption) g2, cell_later (w := w5.drew) (by assumption) g3⟩ | exact ⟨cell_later (w := w5.drew) (bup2 (b := w6) (by assumption) (by assumption)) f1, cell_later (w := w5.drew) (bup2 (b := w6) (by assumption) (by assumption)) f2, cell_later (w := w5.drew) (bup2 (b := w6) (by assumption) (by assumption)) e5', cell_later (w := w5.drew) (bup2 (b := w6) (by assumption) (by assumption)) g1, cell_later (w := w5.drew) (bup2 (b := w6) (by assumption) (by assumption)) g2, cell_later (w := w5.drew) (bup2 (b := w6) (by assumption) (by assumption)) g3⟩)
                (first | (go_at_call 49; refine HM2.out.mono ?_; rintro e w6 ⟨rfl, b6⟩)
                       | (go_at_call 50; refine (HI.out _).mono ?_; rintro e w7 ⟨rfl, b7⟩))
              all_goals
                have c6 : Below w5.drew.heap.size w5.drew w6 := by assumption
                have c7 : Below w6.heap.size w6 w7 := by assumption
                have HF := Lib.hid (And.intro (bup2 HR5.out.1 (bup2 (bdrew w5) (bup2 c6 c7))) (bup2 HR5.out.2 (bup2 (bdrew w5) (bup2 c6 c7))))
                clear c6 c7 f1 f2 e5' g1 g2 g3
                go_wp2
                go_roundw
                case rel => exact ⟨k + 1, by omega, by go_num, by rw [HN.out], HF.out.1, HF.out.2⟩
                case measure => simp [intOf]; omega
        · have hki : ¬ (k : Int) < (d.length : Int) := by omega
          obtain rfl : k = d.length := by omega
          go_wp2_with fail
          go_ret
          exact ⟨rfl, HR.out.1⟩

end Go.Proofs.Ytjmofmdcegefgaa

