/-
  Texts of this claim, laid together: Gvs.
-/
import Derived.Test.YtjmofmdcegefgaaQ01
import Derived.Test.YtjmofmdcegefgaaQ17
import Derived.Test.YtjmofmdcegefgaaQ19
namespace Go.Proofs.Ytjmofmdcegefgaa
open Go.RowKit
set_option linter.unusedSimpArgs false

set_option maxHeartbeats 4000000 in
set_option maxRecDepth 4000 in
theorem specGv_any (v tv : Value) (d : List Bk) (t : List (List Int)) (h : Hd) (lo hi lo2 hi2 : Nat) (w : World) (hd : RD w lo hi v d) (h2 : RT w lo2 hi2 tv t) (hh : HdI h) (hdl : d.length ≤ 1048576) :
    Calls Try.prog 17 #[v, .agg #[tv], hdv h] w fun e w' => e = .returned (.int .i64 (gv d t h)) ∧ Below w.heap.size w w' := by
  obtain ⟨a, cap, b, off, rfl, q1, q2, q3, -⟩ := hd.open
  obtain ⟨a2, cap2, b2, off2, rfl, -⟩ := h2.open
  have HB0 := Lib.hid (two_below w (.cells #[.slice a2 t.length cap2] 26) (hbox h))
  have e1 : (w.alloc (.cells #[.slice a2 t.length cap2] 26)).heap.size = w.heap.size + 1 := by simp
  have X1 : Hid (((w.alloc (.cells #[.slice a2 t.length cap2] 26)).alloc (hbox h)).heap[w.heap.size + 1]? = some (hbox h)) := Lib.hid (by have := heap_alloc_new (w.alloc (.cells #[.slice a2 t.length cap2] 26)) (hbox h); rw [e1] at this; exact this)
  obtain ⟨w0, hw0⟩ : ∃ w0, w0 = (w.alloc (.cells #[.slice a2 t.length cap2] 26)).alloc (hbox h) := ⟨_, rfl⟩
  rw [← hw0] at HB0 X1
  have HW := Lib.hid hw0
  have HD0 := Lib.hid hd
  have HT0 := Lib.hid h2
  have c0 := fun wx hx => specHdv_any (.slice a d.length cap) d h lo hi wx hx hh hdl
  have C4 := Lib.hid (fun wx h h2 => specBcs_any (.slice a d.length cap) (.slice a2 t.length cap2) d t lo hi lo2 hi2 wx h h2)
  have HMy := Lib.hid (fun vc cs n lo2 hi2 wx hd hc hv hn hn2 hcl => specMay_any (.slice a d.length cap) vc d cs h n lo hi lo2 hi2 wx hd hc hv hn hn2 hcl)
  obtain ⟨A, B, C⟩ := h
  unfold hdv at c0 HMy ⊢
  unfold hbox at HW X1
  simp only at c0 HMy HW X1 ⊢
  clear hd h2 e1 hw0 q3
  by_cases hg : hdOk d ⟨A, B, C⟩ = true ∧ tabVal t = true
  · obtain ⟨hv, hv2⟩ := hg
    have hdv1 := (hdOk_iff.1 hv).1
    have HV := Lib.hid hdv1
    have hgv := gv_yes hv hv2
    have hcl := bcs_len_yes hdv1 hv2
    have HAT := Lib.hid (fun k (hk : k < (bcs d t).length) => bcs_at hk)
    have hl12 := (dv_len hdv1).2
    rw [hv] at c0
    have C0 := Lib.hid c0
    rw [hgv]
    generalize bcs d t = cs at hcl HAT C4 ⊢
    have HCL := Lib.hid hcl
    clear c0 hv hv2 hdv1 hgv
    go_enter Try.func17, Try.ntmps17
    go_wp2_with fail
    rw [← HW.out]
    refine (C4.out _ (HD0.out.below HB0.out) (HT0.out.below HB0.out)).mono ?_
    rintro e w4 ⟨vu, rfl, o4, b4⟩
    obtain ⟨au, capu, bu, offu, rfl, u1, u2, u3', u4'⟩ := o4.ri.open
    have HB4 := Lib.hid (And.intro (bup2 HB0.out b4) (And.intro (box_keep X1.out b4) o4.ri))
    have Q4 := Lib.hid u4'
    clear o4 b4 u4' C4
    rw [hcl] at u1 u3' HB4 ⊢
    clear hcl
    go_wp2_with fail
    go_loopw [7, 9] (fun m i wr => ∃ k : Nat, k ≤ d.length ∧ i = .int .i64 k ∧ m = .int .i64 (gvN d cs ⟨A, B, C⟩ k) ∧ Below w.heap.size w wr ∧ Below w4.heap.size w4 wr) (fun _ i _ => d.length - (intOf i).toNat)
    case atStart => exact ⟨0, Nat.zero_le _, rfl, rfl, HB4.out.1, Below.refl _ _⟩
    case round =>
      obtain ⟨k, hk, rfl, rfl, hbr, hbs⟩ := hrel
      have HR := Lib.hid (And.intro hbr hbs)
      clear hbr hbs
      by_cases hlt : k < d.length
      · have hki : (k : Int) < (d.length : Int) := by omega
        obtain rfl := u3' (by omega)
        have hkc : k < cs.length := by have := HCL.out; omega
        obtain ⟨⟨p1, p2, p3⟩, -⟩ := three_at (box_keep HB4.out.2.1 HR.out.2)
        go_wp2_with fail
        refine (C0.out _ (HD0.out.below HR.out.1)).mono ?_
        rintro e w5 ⟨rfl, b5⟩
        have HR5 := Lib.hid (And.intro (bup2 HR.out.1 b5) (bup2 HR.out.2 b5))
        clear b5 p1 p2 p3
        obtain ⟨⟨g1, g2, g3⟩, -⟩ := three_at (box_keep HB4.out.2.1 HR5.out.2)
        have e5 := cell_later HR5.out.2 (Q4.out k hkc)
        have hst := fun (hm : may d cs ⟨A, B, C⟩ k = true) => gvN_step hm
        have hno := fun (hm : may d cs ⟨A, B, C⟩ k = false) => gvN_no hm
        have hle := gvN_le d cs ⟨A, B, C⟩ k
        rw [getD_in hkc] at hst
        have hri : RI w4 (w0.heap.size) w4.heap.size (.slice (some ⟨bu, offu, none⟩) d.length capu) cs := HB4.out.2.2
        have hcl6 : cs.length ≤ 1048576 := by have := HCL.out; omega
        have hmm := fun (w' : World) (hb : Below w5.heap.size w5 w') => HMy.out _ cs k _ _ _ ((HD0.out.below HR5.out.1).below hb) (hri.below (bup2 HR5.out.2 hb)) HV.out hlt hkc hcl6
        clear hri
        generalize cs[k] = x at hst e5
        cases hmy : may d cs ⟨A, B, C⟩ k
        · rw [hmy] at hmm
          have HM2 := Lib.hid hmm
          have HN := Lib.hid (hno hmy)
          clear hmm hst hno hmy hle
          go_wp2
          refine region_held_n 20 (S := fun w' => Below w5.heap.size w5 w') (by kernel_rfl) (by kernel_rfl) (bdrew _) (fun hS0 => ?_)
          refine hs_take (fuel := 19) 0 (some 24) (.slice a d.length cap) rfl rfl (by kernel_rfl) (by kernel_rfl) (by kernel_rfl) (fun _ _ _ h => h) (by rfl) (fun wq hq => ?_) (by assumption) ?_
          · go_simp
          simp only [Act.put, List.setIfInBounds_toArray, List.set_cons_zero, List.set_cons_succ]
          refine hs_take (fuel := 18) 1 (some 25) (.slice (some ⟨bu, offu, none⟩) d.length capu) rfl rfl (by kernel_rfl) (by kernel_rfl) (by kernel_rfl) (fun _ _ _ h => h) (by rfl) (fun wq hq => ?_) (by assumption) ?_
          · go_simp
          simp only [Act.put, List.setIfInBounds_toArray, List.set_cons_zero, List.set_cons_succ]
          refine hs_take (fuel := 17) 2 (some 26) (.agg #[.int .i64 A, .int .i64 B, .int .i64 C]) rfl rfl (by kernel_rfl) (by kernel_rfl) (by kernel_rfl) (fun _ _ _ h => h) (by rfl) (fun wq hq => ?_) (by assumption) ?_
          · have p1 := cell_later hq g1
            have p2 := cell_later hq g2
            have p3 := cell_later hq g3
            go_simp
          simp only [Act.put, List.setIfInBounds_toArray, List.set_cons_zero, List.set_cons_succ]
          refine hs_take (fuel := 16) 3 (some 27) (.int .i64 k) rfl rfl (by kernel_rfl) (by kernel_rfl) (by kernel_rfl) (fun _ _ _ h => h) (by rfl) (fun wq hq => ?_) (by assumption) ?_
          · go_simp
          simp only [Act.put, List.setIfInBounds_toArray, List.set_cons_zero, List.set_cons_succ]
          refine wpAnyH_ready (fuel := 15) (rs := [4]) (by kernel_rfl) (by simp) (AllReadyH.cons rfl (fun K hK => ?_) AllReadyH.nil)
          go_simp
          refine (HM2.out _ (by assumption)).mono ?_
          rintro e w6 ⟨rfl, b6⟩
          refine hK.out _ _ ?_ (fun hS => ?_)
          · exact bup2 (by assumption) b6
          refine hs_take (fuel := 14) 5 (some 29) (.bool false) rfl rfl (by kernel_rfl) (by kernel_rfl) (by kernel_rfl) (fun _ _ _ h => h) (by rfl) (fun wq hq => ?_) (by assumption) ?_
          · go_simp
          simp only [Act.put, List.setIfInBounds_toArray, List.set_cons_zero, List.set_cons_succ]
          refine hs_skip (fuel := 13) 6 (some 30) rfl rfl (by kernel_rfl) (by kernel_rfl) (by kernel_rfl) (fun _ _ _ h => h) (by rfl) (by assumption) ?_
          simp only [Act.put, List.setIfInBounds_toArray, List.set_cons_zero, List.set_cons_succ]
          refine hs_skip (fuel := 12) 7 (some 31) rfl rfl (by kernel_rfl) (by kernel_rfl) (by kernel_rfl) (fun _ _ _ h => h) (by rfl) (by assumption) ?_
          simp only [Act.put, List.setIfInBounds_toArray, List.set_cons_zero, List.set_cons_succ]
          refine hs_skip (fuel := 11) 8 (some 32) rfl rfl (by kernel_rfl) (by kernel_rfl) (by kernel_rfl) (fun _ _ _ h => h) (by rfl) (by assumption) ?_
          simp only [Act.put, List.setIfInBounds_toArray, List.set_cons_zero, List.set_cons_succ]
          refine hs_skip (fuel := 10) 9 (some 33) rfl rfl (by kernel_rfl) (by kernel_rfl) (by kernel_rfl) (fun _ _ _ h => h) (by rfl) (by assumption) ?_
          simp only [Act.put, List.setIfInBounds_toArray, List.set_cons_zero, List.set_cons_succ]
          refine hs_skip (fuel := 9) 10 (some 34) rfl rfl (by kernel_rfl) (by kernel_rfl) (by kernel_rfl) (fun _ _ _ h => h) (by rfl) (by assumption) ?_
          simp only [Act.put, List.setIfInBounds_toArray, List.set_cons_zero, List.set_cons_succ]
          refine hs_skip (fuel := 8) 11 (some 35) rfl rfl (by kernel_rfl) (by kernel_rfl) (by kernel_rfl) (fun _ _ _ h => h) (by rfl) (by assumption) ?_
          simp only [Act.put, List.setIfInBounds_toArray, List.set_cons_zero, List.set_cons_succ]
          refine hs_skip (fuel := 7) 12 (some 36) rfl rfl (by kernel_rfl) (by kernel_rfl) (by kernel_rfl) (fun _ _ _ h => h) (by rfl) (by assumption) ?_
          simp only [Act.put, List.setIfInBounds_toArray, List.set_cons_zero, List.set_cons_succ]
          refine hs_skip (fuel := 6) 13 (some 37) rfl rfl (by kernel_rfl) (by kernel_rfl) (by kernel_rfl) (fun _ _ _ h => h) (by rfl) (by assumption) ?_
          simp only [Act.put, List.setIfInBounds_toArray, List.set_cons_zero, List.set_cons_succ]
          refine hs_skip (fuel := 5) 14 (some 38) rfl rfl (by kernel_rfl) (by kernel_rfl) (by kernel_rfl) (fun _ _ _ h => h) (by rfl) (by assumption) ?_
          simp only [Act.put, List.setIfInBounds_toArray, List.set_cons_zero, List.set_cons_succ]
          refine hs_skip (fuel := 4) 15 (some 39) rfl rfl (by kernel_rfl) (by kernel_rfl) (by kernel_rfl) (fun _ _ _ h => h) (by rfl) (by assumption) ?_
          simp only [Act.put, List.setIfInBounds_toArray, List.set_cons_zero, List.set_cons_succ]
          refine hs_skip (fuel := 3) 16 (some 40) rfl rfl (by kernel_rfl) (by kernel_rfl) (by kernel_rfl) (fun _ _ _ h => h) (by rfl) (by assumption) ?_
          simp only [Act.put, List.setIfInBounds_toArray, List.set_cons_zero, List.set_cons_succ]
          refine hs_skip (fuel := 2) 17 (some 41) rfl rfl (by kernel_rfl) (by kernel_rfl) (by kernel_rfl) (fun _ _ _ h => h) (by rfl) (by assumption) ?_
          simp only [Act.put, List.setIfInBounds_toArray, List.set_cons_zero, List.set_cons_succ]
          refine hs_skip (fuel := 1) 18 (some 42) rfl rfl (by kernel_rfl) (by kernel_rfl) (by kernel_rfl) (fun _ _ _ h => h) (by rfl) (by assumption) ?_
          simp only [Act.put, List.setIfInBounds_toArray, List.set_cons_zero, List.set_cons_succ]
          refine hs_take (fuel := 0) 19 (some 43) (.bool false) rfl rfl (by kernel_rfl) (by kernel_rfl) (by kernel_rfl) (fun _ _ _ h => h) (by rfl) (fun wq hq => ?_) (by assumption) ?_
          · go_simp
          simp only [Act.put, List.setIfInBounds_toArray, List.set_cons_zero, List.set_cons_succ]
          refine wpAnyH_done (by kernel_rfl) ?_ _
          have c6 : Below w5.heap.size w5 w6 := by assumption
          have HF := Lib.hid (And.intro (bup2 HR5.out.1 c6) (bup2 HR5.out.2 c6))
          clear c6 g1 g2 g3 e5
          go_wp2
          go_roundw
          case rel => exact ⟨k + 1, by omega, by go_num, by rw [HN.out], HF.out.1, HF.out.2⟩
          case measure => simp [intOf]; omega
        · rw [hmy] at hmm
          have HM2 := Lib.hid hmm
          have hs := hst hmy
          clear hmm hst hno hmy
          obtain ⟨G, hG⟩ : ∃ G, G = gvN d cs ⟨A, B, C⟩ k := ⟨_, rfl⟩
          rw [← hG] at hs hle ⊢
          clear hG
          by_cases hG0 : G < 0
          · have hGd : decide (G < 0) = true := by simpa using hG0
            rw [if_pos (.inl hG0)] at hs
            have HN := Lib.hid hs
            clear hs hG0
            go_wp2
            refine region_held_n 20 (S := fun w' => Below w5.heap.size w5 w') (by kernel_rfl) (by kernel_rfl) (bdrew _) (fun hS0 => ?_)
            refine hs_take (fuel := 19) 0 (some 24) (.slice a d.length cap) rfl rfl (by kernel_rfl) (by kernel_rfl) (by kernel_rfl) (fun _ _ _ h => h) (by rfl) (fun wq hq => ?_) (by assumption) ?_
            · go_simp
            simp only [Act.put, List.setIfInBounds_toArray, List.set_cons_zero, List.set_cons_succ]
            refine hs_take (fuel := 18) 1 (some 25) (.slice (some ⟨bu, offu, none⟩) d.length capu) rfl rfl (by kernel_rfl) (by kernel_rfl) (by kernel_rfl) (fun _ _ _ h => h) (by rfl) (fun wq hq => ?_) (by assumption) ?_
            · go_simp
            simp only [Act.put, List.setIfInBounds_toArray, List.set_cons_zero, List.set_cons_succ]
            refine hs_take (fuel := 17) 2 (some 26) (.agg #[.int .i64 A, .int .i64 B, .int .i64 C]) rfl rfl (by kernel_rfl) (by kernel_rfl) (by kernel_rfl) (fun _ _ _ h => h) (by rfl) (fun wq hq => ?_) (by assumption) ?_
            · have p1 := cell_later hq g1
              have p2 := cell_later hq g2
              have p3 := cell_later hq g3
              go_simp
            simp only [Act.put, List.setIfInBounds_toArray, List.set_cons_zero, List.set_cons_succ]
            refine hs_take (fuel := 16) 3 (some 27) (.int .i64 k) rfl rfl (by kernel_rfl) (by kernel_rfl) (by kernel_rfl) (fun _ _ _ h => h) (by rfl) (fun wq hq => ?_) (by assumption) ?_
            · go_simp
            simp only [Act.put, List.setIfInBounds_toArray, List.set_cons_zero, List.set_cons_succ]
            refine wpAnyH_ready (fuel := 15) (rs := [4]) (by kernel_rfl) (by simp) (AllReadyH.cons rfl (fun K hK => ?_) AllReadyH.nil)
            go_simp
            refine (HM2.out _ (by assumption)).mono ?_
            rintro e w6 ⟨rfl, b6⟩
            refine hK.out _ _ ?_ (fun hS => ?_)
            · exact bup2 (by assumption) b6
            refine hs_take (fuel := 14) 5 (some 29) (.bool true) rfl rfl (by kernel_rfl) (by kernel_rfl) (by kernel_rfl) (fun _ _ _ h => h) (by rfl) (fun wq hq => ?_) (by assumption) ?_
            · go_simp
            simp only [Act.put, List.setIfInBounds_toArray, List.set_cons_zero, List.set_cons_succ]
            refine hs_take (fuel := 13) 6 (some 30) (.int .i64 G) rfl rfl (by kernel_rfl) (by kernel_rfl) (by kernel_rfl) (fun _ _ _ h => h) (by rfl) (fun wq hq => ?_) (by assumption) ?_
            · go_simp
            simp only [Act.put, List.setIfInBounds_toArray, List.set_cons_zero, List.set_cons_succ]
            refine hs_take (fuel := 12) 7 (some 31) (.bool true) rfl rfl (by kernel_rfl) (by kernel_rfl) (by kernel_rfl) (fun _ _ _ h => h) (by rfl) (fun wq hq => ?_) (by assumption) ?_
            · go_simp
            simp only [Act.put, List.setIfInBounds_toArray, List.set_cons_zero, List.set_cons_succ]
            refine hs_take (fuel := 11) 8 (some 32) (.bool true) rfl rfl (by kernel_rfl) (by kernel_rfl) (by kernel_rfl) (fun _ _ _ h => h) (by rfl) (fun wq hq => ?_) (by assumption) ?_
            · go_simp
            simp only [Act.put, List.setIfInBounds_toArray, List.set_cons_zero, List.set_cons_succ]
            refine hs_skip (fuel := 10) 9 (some 33) rfl rfl (by kernel_rfl) (by kernel_rfl) (by kernel_rfl) (fun _ _ _ h => h) (by rfl) (by assumption) ?_
            simp only [Act.put, List.setIfInBounds_toArray, List.set_cons_zero, List.set_cons_succ]
            refine hs_skip (fuel := 9) 10 (some 34) rfl rfl (by kernel_rfl) (by kernel_rfl) (by kernel_rfl) (fun _ _ _ h => h) (by rfl) (by assumption) ?_
            simp only [Act.put, List.setIfInBounds_toArray, List.set_cons_zero, List.set_cons_succ]
            refine hs_skip (fuel := 8) 11 (some 35) rfl rfl (by kernel_rfl) (by kernel_rfl) (by kernel_rfl) (fun _ _ _ h => h) (by rfl) (by assumption) ?_
            simp only [Act.put, List.setIfInBounds_toArray, List.set_cons_zero, List.set_cons_succ]
            refine hs_skip (fuel := 7) 12 (some 36) rfl rfl (by kernel_rfl) (by kernel_rfl) (by kernel_rfl) (fun _ _ _ h => h) (by rfl) (by assumption) ?_
            simp only [Act.put, List.setIfInBounds_toArray, List.set_cons_zero, List.set_cons_succ]
            refine hs_skip (fuel := 6) 13 (some 37) rfl rfl (by kernel_rfl) (by kernel_rfl) (by kernel_rfl) (fun _ _ _ h => h) (by rfl) (by assumption) ?_
            simp only [Act.put, List.setIfInBounds_toArray, List.set_cons_zero, List.set_cons_succ]
            refine hs_skip (fuel := 5) 14 (some 38) rfl rfl (by kernel_rfl) (by kernel_rfl) (by kernel_rfl) (fun _ _ _ h => h) (by rfl) (by assumption) ?_
            simp only [Act.put, List.setIfInBounds_toArray, List.set_cons_zero, List.set_cons_succ]
            refine hs_skip (fuel := 4) 15 (some 39) rfl rfl (by kernel_rfl) (by kernel_rfl) (by kernel_rfl) (fun _ _ _ h => h) (by rfl) (by assumption) ?_
            simp only [Act.put, List.setIfInBounds_toArray, List.set_cons_zero, List.set_cons_succ]
            refine hs_skip (fuel := 3) 16 (some 40) rfl rfl (by kernel_rfl) (by kernel_rfl) (by kernel_rfl) (fun _ _ _ h => h) (by rfl) (by assumption) ?_
            simp only [Act.put, List.setIfInBounds_toArray, List.set_cons_zero, List.set_cons_succ]
            refine hs_skip (fuel := 2) 17 (some 41) rfl rfl (by kernel_rfl) (by kernel_rfl) (by kernel_rfl) (fun _ _ _ h => h) (by rfl) (by assumption) ?_
            simp only [Act.put, List.setIfInBounds_toArray, List.set_cons_zero, List.set_cons_succ]
            refine hs_take (fuel := 1) 18 (some 42) (.bool true) rfl rfl (by kernel_rfl) (by kernel_rfl) (by kernel_rfl) (fun _ _ _ h => h) (by rfl) (fun wq hq => ?_) (by assumption) ?_
            · go_simp
            simp only [Act.put, List.setIfInBounds_toArray, List.set_cons_zero, List.set_cons_succ]
            refine hs_take (fuel := 0) 19 (some 43) (.bool true) rfl rfl (by kernel_rfl) (by kernel_rfl) (by kernel_rfl) (fun _ _ _ h => h) (by rfl) (fun wq hq => ?_) (by assumption) ?_
            · go_simp
            simp only [Act.put, List.setIfInBounds_toArray, List.set_cons_zero, List.set_cons_succ]
            refine wpAnyH_done (by kernel_rfl) ?_ _
            have c6 : Below w5.heap.size w5 w6 := by assumption
            have HF := Lib.hid (And.intro (bup2 HR5.out.1 c6) (bup2 HR5.out.2 c6))
            clear c6 g1 g2 g3 e5
            go_wp2
            go_roundw
            case rel => exact ⟨k + 1, by omega, by go_num, by rw [HN.out], HF.out.1, HF.out.2⟩
            case measure => simp [intOf]; omega
          · obtain ⟨m, rfl⟩ := Int.eq_ofNat_of_zero_le (show 0 ≤ G by omega)
            have hmc : m < cs.length := by omega
            have y2 := cell_later HR5.out.2 (Q4.out m hmc)
            rw [Int.toNat_natCast, getD_in hmc] at hs
            generalize cs[m] = y at y2 hs
            have hGd : decide ((m : Int) < 0) = false := by simp
            have hmi : (m : Int) < (d.length : Int) := by omega
            by_cases hxy : x < y
            · have hxd : decide (x < y) = true := by simpa using hxy
              rw [if_pos (.inr hxy)] at hs
              have HN := Lib.hid hs
              clear hs hG0 hxy
              go_wp2
              refine region_held_n 20 (S := fun w' => Below w5.heap.size w5 w') (by kernel_rfl) (by kernel_rfl) (bdrew _) (fun hS0 => ?_)
              refine hs_take (fuel := 19) 0 (some 24) (.slice a d.length cap) rfl rfl (by kernel_rfl) (by kernel_rfl) (by kernel_rfl) (fun _ _ _ h => h) (by rfl) (fun wq hq => ?_) (by assumption) ?_
              · go_simp
              simp only [Act.put, List.setIfInBounds_toArray, List.set_cons_zero, List.set_cons_succ]
              refine hs_take (fuel := 18) 1 (some 25) (.slice (some ⟨bu, offu, none⟩) d.length capu) rfl rfl (by kernel_rfl) (by kernel_rfl) (by kernel_rfl) (fun _ _ _ h => h) (by rfl) (fun wq hq => ?_) (by assumption) ?_
              · go_simp
              simp only [Act.put, List.setIfInBounds_toArray, List.set_cons_zero, List.set_cons_succ]
              refine hs_take (fuel := 17) 2 (some 26) (.agg #[.int .i64 A, .int .i64 B, .int .i64 C]) rfl rfl (by kernel_rfl) (by kernel_rfl) (by kernel_rfl) (fun _ _ _ h => h) (by rfl) (fun wq hq => ?_) (by assumption) ?_
              · have p1 := cell_later hq g1
                have p2 := cell_later hq g2
                have p3 := cell_later hq g3
                go_simp
              simp only [Act.put, List.setIfInBounds_toArray, List.set_cons_zero, List.set_cons_succ]
              refine hs_take (fuel := 16) 3 (some 27) (.int .i64 k) rfl rfl (by kernel_rfl) (by kernel_rfl) (by kernel_rfl) (fun _ _ _ h => h) (by rfl) (fun wq hq => ?_) (by assumption) ?_
              · go_simp
              simp only [Act.put, List.setIfInBounds_toArray, List.set_cons_zero, List.set_cons_succ]
              refine wpAnyH_ready (fuel := 15) (rs := [4]) (by kernel_rfl) (by simp) (AllReadyH.cons rfl (fun K hK => ?_) AllReadyH.nil)
              go_simp
              refine (HM2.out _ (by assumption)).mono ?_
              rintro e w6 ⟨rfl, b6⟩
              refine hK.out _ _ ?_ (fun hS => ?_)
              · exact bup2 (by assumption) b6
              refine hs_take (fuel := 14) 5 (some 29) (.bool true) rfl rfl (by kernel_rfl) (by kernel_rfl) (by kernel_rfl) (fun _ _ _ h => h) (by rfl) (fun wq hq => ?_) (by assumption) ?_
              · go_simp
              simp only [Act.put, List.setIfInBounds_toArray, List.set_cons_zero, List.set_cons_succ]
              refine hs_take (fuel := 13) 6 (some 30) (.int .i64 m) rfl rfl (by kernel_rfl) (by kernel_rfl) (by kernel_rfl) (fun _ _ _ h => h) (by rfl) (fun wq hq => ?_) (by assumption) ?_
              · go_simp
              simp only [Act.put, List.setIfInBounds_toArray, List.set_cons_zero, List.set_cons_succ]
              refine hs_take (fuel := 12) 7 (some 31) (.bool false) rfl rfl (by kernel_rfl) (by kernel_rfl) (by kernel_rfl) (fun _ _ _ h => h) (by rfl) (fun wq hq => ?_) (by assumption) ?_
              · go_simp
              simp only [Act.put, List.setIfInBounds_toArray, List.set_cons_zero, List.set_cons_succ]
              refine hs_take (fuel := 11) 8 (some 32) (.bool false) rfl rfl (by kernel_rfl) (by kernel_rfl) (by kernel_rfl) (fun _ _ _ h => h) (by rfl) (fun wq hq => ?_) (by assumption) ?_
              · go_simp
              simp only [Act.put, List.setIfInBounds_toArray, List.set_cons_zero, List.set_cons_succ]
              refine hs_take (fuel := 10) 9 (some 33) (.slice (some ⟨bu, offu, none⟩) d.length capu) rfl rfl (by kernel_rfl) (by kernel_rfl) (by kernel_rfl) (fun _ _ _ h => h) (by rfl) (fun wq hq => ?_) (by assumption) ?_
              · go_simp
              simp only [Act.put, List.setIfInBounds_toArray, List.set_cons_zero, List.set_cons_succ]
              refine hs_take (fuel := 9) 10 (some 34) (.int .i64 k) rfl rfl (by kernel_rfl) (by kernel_rfl) (by kernel_rfl) (fun _ _ _ h => h) (by rfl) (fun wq hq => ?_) (by assumption) ?_
              · go_simp
              simp only [Act.put, List.setIfInBounds_toArray, List.set_cons_zero, List.set_cons_succ]
              refine hs_take (fuel := 8) 11 (some 35) (.pointer (some ⟨bu, offu + k, none⟩)) rfl rfl (by kernel_rfl) (by kernel_rfl) (by kernel_rfl) (fun _ _ _ h => h) (by rfl) (fun wq hq => ?_) (by assumption) ?_
              · go_simp
              simp only [Act.put, List.setIfInBounds_toArray, List.set_cons_zero, List.set_cons_succ]
              refine hs_take (fuel := 7) 12 (some 36) (.int .i64 x) rfl rfl (by kernel_rfl) (by kernel_rfl) (by kernel_rfl) (fun _ _ _ h => h) (by rfl) (fun wq hq => ?_) (by assumption) ?_
              · have p1 := cell_later hq e5
                go_simp
              simp only [Act.put, List.setIfInBounds_toArray, List.set_cons_zero, List.set_cons_succ]
              refine hs_take (fuel := 6) 13 (some 37) (.slice (some ⟨bu, offu, none⟩) d.length capu) rfl rfl (by kernel_rfl) (by kernel_rfl) (by kernel_rfl) (fun _ _ _ h => h) (by rfl) (fun wq hq => ?_) (by assumption) ?_
              · go_simp
              simp only [Act.put, List.setIfInBounds_toArray, List.set_cons_zero, List.set_cons_succ]
              refine hs_take (fuel := 5) 14 (some 38) (.int .i64 m) rfl rfl (by kernel_rfl) (by kernel_rfl) (by kernel_rfl) (fun _ _ _ h => h) (by rfl) (fun wq hq => ?_) (by assumption) ?_
              · go_simp
              simp only [Act.put, List.setIfInBounds_toArray, List.set_cons_zero, List.set_cons_succ]
              refine hs_take (fuel := 4) 15 (some 39) (.pointer (some ⟨bu, offu + m, none⟩)) rfl rfl (by kernel_rfl) (by kernel_rfl) (by kernel_rfl) (fun _ _ _ h => h) (by rfl) (fun wq hq => ?_) (by assumption) ?_
              · go_simp
              simp only [Act.put, List.setIfInBounds_toArray, List.set_cons_zero, List.set_cons_succ]
              refine hs_take (fuel := 3) 16 (some 40) (.int .i64 y) rfl rfl (by kernel_rfl) (by kernel_rfl) (by kernel_rfl) (fun _ _ _ h => h) (by rfl) (fun wq hq => ?_) (by assumption) ?_
              · have p1 := cell_later hq y2
                go_simp
              simp only [Act.put, List.setIfInBounds_toArray, List.set_cons_zero, List.set_cons_succ]
              refine hs_take (fuel := 2) 17 (some 41) (.bool true) rfl rfl (by kernel_rfl) (by kernel_rfl) (by kernel_rfl) (fun _ _ _ h => h) (by rfl) (fun wq hq => ?_) (by assumption) ?_
              · go_simp
              simp only [Act.put, List.setIfInBounds_toArray, List.set_cons_zero, List.set_cons_succ]
              refine hs_take (fuel := 1) 18 (some 42) (.bool true) rfl rfl (by kernel_rfl) (by kernel_rfl) (by kernel_rfl) (fun _ _ _ h => h) (by rfl) (fun wq hq => ?_) (by assumption) ?_
              · go_simp
              simp only [Act.put, List.setIfInBounds_toArray, List.set_cons_zero, List.set_cons_succ]
              refine hs_take (fuel := 0) 19 (some 43) (.bool true) rfl rfl (by kernel_rfl) (by kernel_rfl) (by kernel_rfl) (fun _ _ _ h => h) (by rfl) (fun wq hq => ?_) (by assumption) ?_
              · go_simp
              simp only [Act.put, List.setIfInBounds_toArray, List.set_cons_zero, List.set_cons_succ]
              refine wpAnyH_done (by kernel_rfl) ?_ _
              have c6 : Below w5.heap.size w5 w6 := by assumption
              have HF := Lib.hid (And.intro (bup2 HR5.out.1 c6) (bup2 HR5.out.2 c6))
              clear c6 g1 g2 g3 e5
              go_wp2
              go_roundw
              case rel => exact ⟨k + 1, by omega, by go_num, by rw [HN.out], HF.out.1, HF.out.2⟩
              case measure => simp [intOf]; omega
            · have hxd : decide (x < y) = false := by simpa using hxy
              rw [if_neg (by omega)] at hs
              have HN := Lib.hid hs
              clear hs hG0 hxy
              go_wp2
              refine region_held_n 20 (S := fun w' => Below w5.heap.size w5 w') (by kernel_rfl) (by kernel_rfl) (bdrew _) (fun hS0 => ?_)
              refine hs_take (fuel := 19) 0 (some 24) (.slice a d.length cap) rfl rfl (by kernel_rfl) (by kernel_rfl) (by kernel_rfl) (fun _ _ _ h => h) (by rfl) (fun wq hq => ?_) (by assumption) ?_
              · go_simp
              simp only [Act.put, List.setIfInBounds_toArray, List.set_cons_zero, List.set_cons_succ]
              refine hs_take (fuel := 18) 1 (some 25) (.slice (some ⟨bu, offu, none⟩) d.length capu) rfl rfl (by kernel_rfl) (by kernel_rfl) (by kernel_rfl) (fun _ _ _ h => h) (by rfl) (fun wq hq => ?_) (by assumption) ?_
              · go_simp
              simp only [Act.put, List.setIfInBounds_toArray, List.set_cons_zero, List.set_cons_succ]
              refine hs_take (fuel := 17) 2 (some 26) (.agg #[.int .i64 A, .int .i64 B, .int .i64 C]) rfl rfl (by kernel_rfl) (by kernel_rfl) (by kernel_rfl) (fun _ _ _ h => h) (by rfl) (fun wq hq => ?_) (by assumption) ?_
              · have p1 := cell_later hq g1
                have p2 := cell_later hq g2
                have p3 := cell_later hq g3
                go_simp
              simp only [Act.put, List.setIfInBounds_toArray, List.set_cons_zero, List.set_cons_succ]
              refine hs_take (fuel := 16) 3 (some 27) (.int .i64 k) rfl rfl (by kernel_rfl) (by kernel_rfl) (by kernel_rfl) (fun _ _ _ h => h) (by rfl) (fun wq hq => ?_) (by assumption) ?_
              · go_simp
              simp only [Act.put, List.setIfInBounds_toArray, List.set_cons_zero, List.set_cons_succ]
              refine wpAnyH_ready (fuel := 15) (rs := [4]) (by kernel_rfl) (by simp) (AllReadyH.cons rfl (fun K hK => ?_) AllReadyH.nil)
              go_simp
              refine (HM2.out _ (by assumption)).mono ?_
              rintro e w6 ⟨rfl, b6⟩
              refine hK.out _ _ ?_ (fun hS => ?_)
              · exact bup2 (by assumption) b6
              refine hs_take (fuel := 14) 5 (some 29) (.bool true) rfl rfl (by kernel_rfl) (by kernel_rfl) (by kernel_rfl) (fun _ _ _ h => h) (by rfl) (fun wq hq => ?_) (by assumption) ?_
              · go_simp
              simp only [Act.put, List.setIfInBounds_toArray, List.set_cons_zero, List.set_cons_succ]
              refine hs_take (fuel := 13) 6 (some 30) (.int .i64 m) rfl rfl (by kernel_rfl) (by kernel_rfl) (by kernel_rfl) (fun _ _ _ h => h) (by rfl) (fun wq hq => ?_) (by assumption) ?_
              · go_simp
              simp only [Act.put, List.setIfInBounds_toArray, List.set_cons_zero, List.set_cons_succ]
              refine hs_take (fuel := 12) 7 (some 31) (.bool false) rfl rfl (by kernel_rfl) (by kernel_rfl) (by kernel_rfl) (fun _ _ _ h => h) (by rfl) (fun wq hq => ?_) (by assumption) ?_
              · go_simp
              simp only [Act.put, List.setIfInBounds_toArray, List.set_cons_zero, List.set_cons_succ]
              refine hs_take (fuel := 11) 8 (some 32) (.bool false) rfl rfl (by kernel_rfl) (by kernel_rfl) (by kernel_rfl) (fun _ _ _ h => h) (by rfl) (fun wq hq => ?_) (by assumption) ?_
              · go_simp
              simp only [Act.put, List.setIfInBounds_toArray, List.set_cons_zero, List.set_cons_succ]
              refine hs_take (fuel := 10) 9 (some 33) (.slice (some ⟨bu, offu, none⟩) d.length capu) rfl rfl (by kernel_rfl) (by kernel_rfl) (by kernel_rfl) (fun _ _ _ h => h) (by rfl) (fun wq hq => ?_) (by assumption) ?_
              · go_simp
              simp only [Act.put, List.setIfInBounds_toArray, List.set_cons_zero, List.set_cons_succ]
              refine hs_take (fuel := 9) 10 (some 34) (.int .i64 k) rfl rfl (by kernel_rfl) (by kernel_rfl) (by kernel_rfl) (fun _ _ _ h => h) (by rfl) (fun wq hq => ?_) (by assumption) ?_
              · go_simp
              simp only [Act.put, List.setIfInBounds_toArray, List.set_cons_zero, List.set_cons_succ]
              refine hs_take (fuel := 8) 11 (some 35) (.pointer (some ⟨bu, offu + k, none⟩)) rfl rfl (by kernel_rfl) (by kernel_rfl) (by kernel_rfl) (fun _ _ _ h => h) (by rfl) (fun wq hq => ?_) (by assumption) ?_
              · go_simp
              simp only [Act.put, List.setIfInBounds_toArray, List.set_cons_zero, List.set_cons_succ]
              refine hs_take (fuel := 7) 12 (some 36) (.int .i64 x) rfl rfl (by kernel_rfl) (by kernel_rfl) (by kernel_rfl) (fun _ _ _ h => h) (by rfl) (fun wq hq => ?_) (by assumption) ?_
              · have p1 := cell_later hq e5
                go_simp
              simp only [Act.put, List.setIfInBounds_toArray, List.set_cons_zero, List.set_cons_succ]
              refine hs_take (fuel := 6) 13 (some 37) (.slice (some ⟨bu, offu, none⟩) d.length capu) rfl rfl (by kernel_rfl) (by kernel_rfl) (by kernel_rfl) (fun _ _ _ h => h) (by rfl) (fun wq hq => ?_) (by assumption) ?_
              · go_simp
              simp only [Act.put, List.setIfInBounds_toArray, List.set_cons_zero, List.set_cons_succ]
              refine hs_take (fuel := 5) 14 (some 38) (.int .i64 m) rfl rfl (by kernel_rfl) (by kernel_rfl) (by kernel_rfl) (fun _ _ _ h => h) (by rfl) (fun wq hq => ?_) (by assumption) ?_
              · go_simp
              simp only [Act.put, List.setIfInBounds_toArray, List.set_cons_zero, List.set_cons_succ]
              refine hs_take (fuel := 4) 15 (some 39) (.pointer (some ⟨bu, offu + m, none⟩)) rfl rfl (by kernel_rfl) (by kernel_rfl) (by kernel_rfl) (fun _ _ _ h => h) (by rfl) (fun wq hq => ?_) (by assumption) ?_
              · go_simp
              simp only [Act.put, List.setIfInBounds_toArray, List.set_cons_zero, List.set_cons_succ]
              refine hs_take (fuel := 3) 16 (some 40) (.int .i64 y) rfl rfl (by kernel_rfl) (by kernel_rfl) (by kernel_rfl) (fun _ _ _ h => h) (by rfl) (fun wq hq => ?_) (by assumption) ?_
              · have p1 := cell_later hq y2
                go_simp
              simp only [Act.put, List.setIfInBounds_toArray, List.set_cons_zero, List.set_cons_succ]
              refine hs_take (fuel := 2) 17 (some 41) (.bool false) rfl rfl (by kernel_rfl) (by kernel_rfl) (by kernel_rfl) (fun _ _ _ h => h) (by rfl) (fun wq hq => ?_) (by assumption) ?_
              · go_simp
              simp only [Act.put, List.setIfInBounds_toArray, List.set_cons_zero, List.set_cons_succ]
              refine hs_take (fuel := 1) 18 (some 42) (.bool false) rfl rfl (by kernel_rfl) (by kernel_rfl) (by kernel_rfl) (fun _ _ _ h => h) (by rfl) (fun wq hq => ?_) (by assumption) ?_
              · go_simp
              simp only [Act.put, List.setIfInBounds_toArray, List.set_cons_zero, List.set_cons_succ]
              refine hs_take (fuel := 0) 19 (some 43) (.bool false) rfl rfl (by kernel_rfl) (by kernel_rfl) (by kernel_rfl) (fun _ _ _ h => h) (by rfl) (fun wq hq => ?_) (by assumption) ?_
              · go_simp
              simp only [Act.put, List.setIfInBounds_toArray, List.set_cons_zero, List.set_cons_succ]
              refine wpAnyH_done (by kernel_rfl) ?_ _
              have c6 : Below w5.heap.size w5 w6 := by assumption
              have HF := Lib.hid (And.intro (bup2 HR5.out.1 c6) (bup2 HR5.out.2 c6))
              clear c6 g1 g2 g3 e5
              go_wp2
              go_roundw
              case rel => exact ⟨k + 1, by omega, by go_num, by rw [HN.out], HF.out.1, HF.out.2⟩
              case measure => simp [intOf]; omega
      · have hki : ¬ (k : Int) < (d.length : Int) := by omega
        obtain rfl : k = d.length := by omega
        go_wp2_with fail
        go_ret
        exact ⟨rfl, HR.out.1⟩
  · have hgv : gv d t ⟨A, B, C⟩ = -1 := by unfold gv; rw [if_neg hg]
    have hcase : bcs d t = [] ∨ (0 < (bcs d t).length ∧ hdOk d ⟨A, B, C⟩ = false) := by
      cases hv2 : tabVal t
      · exact .inl (bcs_tb hv2)
      · cases hv : dvOk d
        · exact .inl (bcs_dv hv)
        · right
          refine ⟨by rw [bcs_len_yes hv hv2]; exact (dv_len hv).1, ?_⟩
          cases hk : hdOk d ⟨A, B, C⟩
          · rfl
          · exact absurd ⟨hk, hv2⟩ hg
    rw [hgv]
    clear hgv hg
    generalize bcs d t = cs at hcase C4
    rcases hcase with rfl | ⟨hc0, hk⟩
    · go_enter Try.func17, Try.ntmps17
      go_wp2_with fail
      rw [← HW.out]
      refine (C4.out _ (HD0.out.below HB0.out) (HT0.out.below HB0.out)).mono ?_
      rintro e w4 ⟨vu, rfl, o4, b4⟩
      obtain ⟨au, capu, bu, offu, rfl, -⟩ := o4.ri.open
      have HB4 := Lib.hid (bup2 HB0.out b4)
      clear o4 b4
      go_wp2_with fail
      refine wp_loop_rounds 1 ?_
      rw [rounds_succ]
      go_wp2_with fail
      go_ret
      exact ⟨rfl, HB4.out⟩
    · rw [hk] at c0
      have C0 := Lib.hid c0
      clear c0 hk
      go_enter Try.func17, Try.ntmps17
      go_wp2_with fail
      rw [← HW.out]
      refine (C4.out _ (HD0.out.below HB0.out) (HT0.out.below HB0.out)).mono ?_
      rintro e w4 ⟨vu, rfl, o4, b4⟩
      obtain ⟨au, capu, bu, offu, rfl, -⟩ := o4.ri.open
      have HB4 := Lib.hid (bup2 HB0.out b4)
      obtain ⟨⟨p1, p2, p3⟩, -⟩ := three_at (box_keep X1.out b4)
      clear o4 b4
      go_wp2_with fail
      refine wp_loop_rounds 1 ?_
      rw [rounds_succ]
      go_wp2_with fail
      refine (C0.out _ (HD0.out.below HB4.out)).mono ?_
      rintro e w5 ⟨rfl, b5⟩
      have HF := Lib.hid (bup2 HB4.out b5)
      clear b5
      go_wp2_with fail
      go_ret
      exact ⟨rfl, HF.out⟩

end Go.Proofs.Ytjmofmdcegefgaa

