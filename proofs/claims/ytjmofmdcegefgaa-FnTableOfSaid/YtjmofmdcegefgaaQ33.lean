/-
  Texts of this claim, laid together: Tos.
-/
import Derived.Test.YtjmofmdcegefgaaQ22
namespace Go.Proofs.Ytjmofmdcegefgaa
open Go.RowKit
set_option linter.unusedSimpArgs false

set_option maxHeartbeats 8000000 in
set_option maxRecDepth 4000 in
theorem specTof_any (v : Value) (d : List Bk) (lo0 hi0 : Nat) (w : World) (h : RD w lo0 hi0 v d) : Calls Try.prog 26 #[v] w (NewT (tof d) w) := by
  obtain ⟨a, capd, b, off, rfl, -⟩ := h.open
  have H := Lib.hid h
  have X0 := Lib.hid (heap_alloc_new w (.cells #[.slice none 0 0] 26))
  have HB0 := Lib.hid (balloc w (.cells #[.slice none 0 0] 26))
  have c1 := fun wx hx => specDvv_any (.slice a d.length capd) d lo0 hi0 wx hx
  clear h
  cases hv : dvOk d
  · rw [tof_bad hv]
    rw [hv] at c1
    have C1 := Lib.hid c1
    clear c1 hv
    go_enter Try.func26, Try.ntmps26
    go_wp2_with fail
    refine (C1.out _ (H.out.below HB0.out)).mono ?_
    rintro e w1 ⟨rfl, b1⟩
    have HF := Lib.hid (And.intro (bup2 HB0.out b1) (box_keep X0.out b1))
    obtain ⟨d2, d3⟩ := one_at HF.out.2
    clear b1
    go_wp2_with fail
    have hc : Chg (fun b => b = w.heap.size) w1 (w1.setCell ⟨w.heap.size, 0, none⟩ (.slice none 0 0)) := Chg.setCell (S := fun b => b = w.heap.size) (Chg.refl _ w1) (p := ⟨w.heap.size, 0, none⟩) (.inr rfl) _
    refine bodyPost_ret (v := .agg #[.slice none 0 0]) (by simp [results, Try.results26, go_sem, d2]) rfl ⟨_, rfl, ot_nil _ _ _, HF.out.1.trans (hc.below HF.out.1.size (fun i hi he => by omega))⟩
  · have HV := Lib.hid hv
    have hl12 := (dv_len hv).2
    have hto : tof d = tofN d (4 * d.length) := by unfold tof; rw [if_pos hv]
    have HTO := Lib.hid hto
    have HTI := Lib.hid (fun n hn => tofI hv n hn)
    have HRd0 := Lib.hid (fun (n : Int) (wx : World) (hx : RD wx lo0 hi0 (.slice a d.length capd) d) (hn : I64 n) => specRdp_any _ d n lo0 hi0 wx hx hn)
    rw [hv] at c1
    have C1 := Lib.hid c1
    clear c1 hv hto
    go_enter Try.func26, Try.ntmps26
    go_wp2_with fail
    refine (C1.out _ (H.out.below HB0.out)).mono ?_
    rintro e w1 ⟨rfl, b1⟩
    have HF := Lib.hid (And.intro (bup2 HB0.out b1) (box_keep X0.out b1))
    clear b1
    go_wp2_with fail
    refine (new_any _).mono ?_
    rintro e w2 ⟨vt, rfl, o2, b2⟩
    obtain ⟨A, cap, e2, z1, z2, z3⟩ : ∃ A cap, vt = .slice (some ⟨A, 0, none⟩) 8 cap ∧ 8 ≤ cap ∧ w.heap.size < w1.heap.size ∧ w1.heap.size ≤ w2.heap.size := by
      obtain ⟨vs, k1, -⟩ := o2
      obtain ⟨A, cap, e1, -, -, e3⟩ := own_shape1 k1 (show 0 < (T0 8).length by simp [T0])
      have e8 : (T0 8).length = 8 := by simp [T0]
      rw [e8] at e1 e3
      exact ⟨A, cap, e1, e3, (Array.getElem?_eq_some_iff.1 HF.out.2).1, b2.size⟩
    subst e2
    have HS : Hid (ToR w w1.heap.size w2.heap.size A cap w2.heap.size (T0 8) (w2.alloc (.cells #[.slice (some ⟨A, 0, none⟩) 8 cap] 26))) :=
      Lib.hid ⟨o2.below (balloc _ _), bup2 HF.out.1 (bup2 b2 (balloc _ _)), heap_alloc_new w2 _, box_keep HF.out.2 (bup2 b2 (balloc _ _)), z2, Nat.le_refl _, by simp [T0], z1⟩
    clear o2 b2 C1
    obtain ⟨C, hC⟩ : ∃ C, C = w2.heap.size := ⟨_, rfl⟩
    obtain ⟨lo, hlo⟩ : ∃ lo, lo = w1.heap.size := ⟨_, rfl⟩
    rw [← hC, ← hlo] at HS
    have HCC := Lib.hid hC.symm
    clear z2 z3 hC hlo
    go_wp2_with fail
    rw [HCC.out]
    go_loopw [4, 5, 6, 7, 8] (fun i _ _ _ _ wr => ∃ n : Nat, n ≤ 4 * d.length ∧ i = .int .i64 n ∧ ToR w lo C A cap C (tofN d n) wr) (fun i _ _ _ _ _ => 4 * d.length - (intOf i).toNat)
    case atStart => exact ⟨0, Nat.zero_le _, rfl, HS.out⟩
    case round =>
      obtain ⟨n, hn, rfl, hR⟩ := hrel
      obtain ⟨wo, rfl⟩ : ∃ wo : World, wo = wr := ⟨_, rfl⟩
      clear HS
      have HR := Lib.hid hR
      clear hR
      by_cases hlt : n < 4 * d.length
      · have hni : (n : Int) < 4 * (d.length : Int) := by omega
        have hrd := rdp_in HV.out hlt
        have hrc := HRd0.out n wo (H.out.below HR.out.2.1) (by unfold I64; omega)
        rw [hrd] at hrc
        have hok := dat_ok HV.out hlt
        have hsu : tofN d (n + 1) = tstep d (tofN d n) n := rfl
        have hI := HTI.out n hn
        obtain ⟨pg, hpg⟩ : ∃ pg, dat d n = pg := ⟨_, rfl⟩
        rw [hpg] at hrc hok
        unfold pgv at hrc
        obtain ⟨fl, file, place, val, s⟩ := pg
        simp only at hrc
        have HRC := Lib.hid hrc
        clear hrc hrd
        go_wp2_with fail
        refine HRC.out.mono ?_
        rintro e w4 ⟨rfl, b4⟩
        have HR4 := Lib.hid (HR.out.below (bup2 b4 (balloc w4 (.cells #[.bool fl, .int .i64 file, .int .i64 place, .int .i64 val, .int .i64 s] 53))))
        have X5 := heap_alloc_new w4 (.cells #[.bool fl, .int .i64 file, .int .i64 place, .int .i64 val, .int .i64 s] 53)
        have hCP : C < w4.heap.size := by
          have h1 := (Array.getElem?_eq_some_iff.1 HR.out.2.2.1).1
          have h2 := b4.size
          omega
        clear b4 HRC
        obtain ⟨w5, hw5⟩ : ∃ w5, w5 = w4.alloc (.cells #[.bool fl, .int .i64 file, .int .i64 place, .int .i64 val, .int .i64 s] 53) := ⟨_, rfl⟩
        rw [← hw5] at HR4 X5
        have hPz : w4.heap.size < w5.heap.size := (Array.getElem?_eq_some_iff.1 X5).1
        have HW5 := Lib.hid hw5
        obtain ⟨P, hP⟩ : ∃ P, P = w4.heap.size := ⟨_, rfl⟩
        rw [← hP] at X5 hPz hCP
        have HP := Lib.hid hP.symm
        obtain ⟨y0, y1, y2, y3, y4⟩ := five_at (p := ⟨fl, file, place, val, s⟩) X5
        simp only [Nat.zero_add] at y0 y1 y2 y3 y4
        clear hw5 hP X5
        cases fl
        · have HN := Lib.hid (hsu.trans (tstep_free (by rw [hpg])))
          clear hpg hok hsu hI
          go_wp2_with fail
          go_roundw
          case rel => exact ⟨n + 1, by omega, by go_num, by rw [HN.out, ← HW5.out]; exact HR4.out⟩
          case measure => simp [intOf]; omega
        · obtain ⟨⟨f0, f1⟩, ⟨p0, p1⟩, -, -⟩ := pgOk_full hok rfl
          simp only at f0 f1 p0 p1
          obtain ⟨f, rfl⟩ := Int.eq_ofNat_of_zero_le f0
          obtain ⟨p, rfl⟩ := Int.eq_ofNat_of_zero_le p0
          have hent := hI.ent f p (by omega) (by omega)
          have HYes := Lib.hid (fun h => hsu.trans (tstep_full (t := tofN d n) hpg h))
          have HNo := Lib.hid (fun h => hsu.trans (tstep_keep (t := tofN d n) hpg h))
          obtain ⟨g, cap3, cA, q3, cG, hfz0, nA, nC, -⟩ := HR4.out.at hI.row (f := f) (p := p) (by omega) (by omega)
          have HRow := Lib.hid hI.row
          obtain ⟨cC, -⟩ := one_at HR4.out.2.2.1
          have hf8 : (f : Int) < 8 := by omega
          have hp6 : (p : Int) < 6 := by omega
          obtain ⟨x, hx⟩ : ∃ x, tat (tofN d n) f p = x := ⟨_, rfl⟩
          rw [hx] at cG hent HYes HNo
          have nP : P ≠ g := by omega
          have nC2 : C ≠ g := by omega
          clear hpg hok hsu hI hx hfz0
          rcases hent with rfl | ⟨m, hm, rfl, hfull, -⟩
          · have HN := Lib.hid (HYes.out (.inl (by omega)))
            have HRd := Lib.hid (fun (wx : World) (hx : Below w5.heap.size w5 wx) => HRd0.out (-1) wx (H.out.below (bup2 HR4.out.2.1 hx)) (by unfold I64; omega))
            replace HRd := HRd.out
            rw [rdp_out (.inr (.inl (by omega)))] at HRd
            unfold pgv pg0 at HRd
            replace HRd := Lib.hid HRd
            clear HYes HNo
            go_wp2_with fail
            rw [HP.out, ← HW5.out]
            go_wp2_with fail
            refine region_held_n 18 (S := fun w' => Below w5.heap.size w5 w') (by kernel_rfl) (by kernel_rfl) (bdrew _) (fun hS0 => ?_)
            refine hs_take (fuel := 17) 0 (some 30) (.slice a d.length capd) rfl rfl (by kernel_rfl) (by kernel_rfl) (by kernel_rfl) (fun _ _ _ h => h) (by rfl) (fun wq hq => ?_) (by assumption) ?_
            · go_simp
            simp only [Act.put, List.setIfInBounds_toArray, List.set_cons_zero, List.set_cons_succ]
            refine hs_take (fuel := 16) 1 (some 31) (.pointer (some ⟨C, 0, none⟩)) rfl rfl (by kernel_rfl) (by kernel_rfl) (by kernel_rfl) (fun _ _ _ h => h) (by rfl) (fun wq hq => ?_) (by assumption) ?_
            · go_simp
            simp only [Act.put, List.setIfInBounds_toArray, List.set_cons_zero, List.set_cons_succ]
            refine hs_take (fuel := 15) 2 (some 32) (.slice (some ⟨A, 0, none⟩) 8 cap) rfl rfl (by kernel_rfl) (by kernel_rfl) (by kernel_rfl) (fun _ _ _ h => h) (by rfl) (fun wq hq => ?_) (by assumption) ?_
            · have p0 := cell_later hq cC
              go_simp
            simp only [Act.put, List.setIfInBounds_toArray, List.set_cons_zero, List.set_cons_succ]
            refine hs_take (fuel := 14) 3 (some 33) (.pointer (some ⟨P, 1, none⟩)) rfl rfl (by kernel_rfl) (by kernel_rfl) (by kernel_rfl) (fun _ _ _ h => h) (by rfl) (fun wq hq => ?_) (by assumption) ?_
            · go_simp
            simp only [Act.put, List.setIfInBounds_toArray, List.set_cons_zero, List.set_cons_succ]
            refine hs_take (fuel := 13) 4 (some 34) (.int .i64 f) rfl rfl (by kernel_rfl) (by kernel_rfl) (by kernel_rfl) (fun _ _ _ h => h) (by rfl) (fun wq hq => ?_) (by assumption) ?_
            · have p0 := cell_later hq y1
              go_simp
            simp only [Act.put, List.setIfInBounds_toArray, List.set_cons_zero, List.set_cons_succ]
            refine hs_take (fuel := 12) 5 (some 35) (.pointer (some ⟨A, f, none⟩)) rfl rfl (by kernel_rfl) (by kernel_rfl) (by kernel_rfl) (fun _ _ _ h => h) (by rfl) (fun wq hq => ?_) (by assumption) ?_
            · go_simp
            simp only [Act.put, List.setIfInBounds_toArray, List.set_cons_zero, List.set_cons_succ]
            refine hs_take (fuel := 11) 6 (some 36) (.slice (some ⟨g, 0, none⟩) 6 cap3) rfl rfl (by kernel_rfl) (by kernel_rfl) (by kernel_rfl) (fun _ _ _ h => h) (by rfl) (fun wq hq => ?_) (by assumption) ?_
            · have p0 := cell_later hq cA
              go_simp
            simp only [Act.put, List.setIfInBounds_toArray, List.set_cons_zero, List.set_cons_succ]
            refine hs_take (fuel := 10) 7 (some 37) (.pointer (some ⟨P, 2, none⟩)) rfl rfl (by kernel_rfl) (by kernel_rfl) (by kernel_rfl) (fun _ _ _ h => h) (by rfl) (fun wq hq => ?_) (by assumption) ?_
            · go_simp
            simp only [Act.put, List.setIfInBounds_toArray, List.set_cons_zero, List.set_cons_succ]
            refine hs_take (fuel := 9) 8 (some 38) (.int .i64 p) rfl rfl (by kernel_rfl) (by kernel_rfl) (by kernel_rfl) (fun _ _ _ h => h) (by rfl) (fun wq hq => ?_) (by assumption) ?_
            · have p0 := cell_later hq y2
              go_simp
            simp only [Act.put, List.setIfInBounds_toArray, List.set_cons_zero, List.set_cons_succ]
            refine hs_take (fuel := 8) 9 (some 39) (.pointer (some ⟨g, p, none⟩)) rfl rfl (by kernel_rfl) (by kernel_rfl) (by kernel_rfl) (fun _ _ _ h => h) (by rfl) (fun wq hq => ?_) (by assumption) ?_
            · go_simp
            simp only [Act.put, List.setIfInBounds_toArray, List.set_cons_zero, List.set_cons_succ]
            refine hs_take (fuel := 7) 10 (some 40) (.int .i64 (-1)) rfl rfl (by kernel_rfl) (by kernel_rfl) (by kernel_rfl) (fun _ _ _ h => h) (by rfl) (fun wq hq => ?_) (by assumption) ?_
            · have p0 := cell_later hq cG
              go_simp
            simp only [Act.put, List.setIfInBounds_toArray, List.set_cons_zero, List.set_cons_succ]
            refine wpAnyH_ready (fuel := 6) (rs := [11, 15]) (by kernel_rfl) (by simp) (AllReadyH.cons rfl (fun K hK => ?_) (AllReadyH.cons rfl (fun K hK => ?_) AllReadyH.nil))
            · go_simp
              refine (HRd.out _ (by assumption)).mono ?_
              rintro e w6 ⟨rfl, b6⟩
              refine hK.out _ _ ?_ (fun hS => ?_)
              · exact bup2 (by assumption) b6
              refine hs_take (fuel := 5) 12 (some 29) (.tuple #[.agg #[.bool false, .int .i64 0, .int .i64 0, .int .i64 0, .int .i64 0], .bool false]) rfl rfl (by kernel_rfl) (by kernel_rfl) (by kernel_rfl) (fun _ _ _ h => h) (by rfl) (fun wq hq => ?_) (by assumption) ?_
              · go_simp
              simp only [Act.put, List.setIfInBounds_toArray, List.set_cons_zero, List.set_cons_succ]
              refine hs_take (fuel := 4) 13 (some 42) (.agg #[.bool false, .int .i64 0, .int .i64 0, .int .i64 0, .int .i64 0]) rfl rfl (by kernel_rfl) (by kernel_rfl) (by kernel_rfl) (fun _ _ _ h => h) (by rfl) (fun wq hq => ?_) (by assumption) ?_
              · go_simp
              simp only [Act.put, List.setIfInBounds_toArray, List.set_cons_zero, List.set_cons_succ]
              refine hs_take (fuel := 3) 14 (some 43) (.bool false) rfl rfl (by kernel_rfl) (by kernel_rfl) (by kernel_rfl) (fun _ _ _ h => h) (by rfl) (fun wq hq => ?_) (by assumption) ?_
              · go_simp
              simp only [Act.put, List.setIfInBounds_toArray, List.set_cons_zero, List.set_cons_succ]
              refine wpAnyH_ready (fuel := 2) (rs := [15]) (by kernel_rfl) (by simp) (AllReadyH.cons rfl (fun K hK => ?_) AllReadyH.nil)
              go_simp
              refine hK.out _ _ ?_ (fun hS2 => ?_)
              · exact bup2 hS (balloc w6 _)
              refine wpAnyH_ready (fuel := 1) (rs := [16]) (by kernel_rfl) (by simp) (AllReadyH.cons rfl (fun K hK => ?_) AllReadyH.nil)
              go_simp
              refine hK.out _ _ ?_ (fun hS2 => ?_)
              · exact bup2 hS (balloc w6 _)
              refine hs_take (fuel := 0) 17 (some 8) (.bool false) rfl rfl (by kernel_rfl) (by kernel_rfl) (by kernel_rfl) (fun _ _ _ h => h) (by rfl) (fun wq hq => ?_) (by assumption) ?_
              · go_simp
              simp only [Act.put, List.setIfInBounds_toArray, List.set_cons_zero, List.set_cons_succ]
              refine wpAnyH_done (by kernel_rfl) ?_ _
              have H7 : (w6.alloc (.cells #[.bool false, .int .i64 0, .int .i64 0, .int .i64 0, .int .i64 0] 53)).heap[w6.heap.size]? = some (.cells #[.bool false, .int .i64 0, .int .i64 0, .int .i64 0, .int .i64 0] 53) ∧ Below w5.heap.size w5 (w6.alloc (.cells #[.bool false, .int .i64 0, .int .i64 0, .int .i64 0, .int .i64 0] 53)) := ⟨heap_alloc_new w6 _, bup2 hS (balloc w6 _)⟩
              obtain ⟨w7, hw7⟩ : ∃ w7, w7 = w6.alloc (.cells #[.bool false, .int .i64 0, .int .i64 0, .int .i64 0, .int .i64 0] 53) := ⟨_, rfl⟩
              rw [← hw7] at H7 ⊢
              obtain ⟨q7, hz⟩ := H7
              obtain ⟨z0, z1', z2', z3', z4'⟩ := five_at (p := ⟨false, 0, 0, 0, 0⟩) q7
              simp only [Nat.zero_add] at z0 z1' z2' z3' z4'
              have y4' := cell_later hz y4
              clear hw7 q7
              obtain ⟨y1', y2', cC', cA'⟩ := And.intro (cell_later hz y1) (And.intro (cell_later hz y2) (And.intro (cell_later hz cC) (cell_later hz cA)))
              obtain ⟨g', cap3', cA2, -, hu3, hfz, -, -, hput'⟩ := (HR4.out.below hz).at HRow.out (f := f) (p := p) (by omega) (by omega)
              rw [cA'] at cA2
              simp only [Option.some.injEq, Value.slice.injEq, Addr.mk.injEq, and_true, true_and] at cA2
              obtain ⟨rfl, rfl⟩ := cA2
              have HPut := Lib.hid (hput' n (by unfold I64; omega))
              have kC := And.intro cC' (show ¬ C = g from nC2)
              have k1 := And.intro y1' (show ¬ P = g from nP)
              have k2 := And.intro y2' (show ¬ P = g from nP)
              have kA := And.intro cA' (show ¬ A = g from nA)
              clear hput' y0 y1 y2 y4 cC cA cG hz
              go_wp2_with fail
              refine region_held_n 11 (S := fun w' => Chg (fun b => b = g) w7 w') (by kernel_rfl) (by kernel_rfl) (below_chg (bdrew _) _) (fun hS0 => ?_)
              refine hs_take (fuel := 10) 0 (some 53) (.pointer (some ⟨C, 0, none⟩)) rfl rfl (by kernel_rfl) (by kernel_rfl) (by kernel_rfl) (fun _ _ _ h => h) (by rfl) (fun wq hq => ?_) (by assumption) ?_
              · go_simp
              simp only [Act.put, List.setIfInBounds_toArray, List.set_cons_zero, List.set_cons_succ]
              refine hs_take (fuel := 9) 1 (some 54) (.slice (some ⟨A, 0, none⟩) 8 cap) rfl rfl (by kernel_rfl) (by kernel_rfl) (by kernel_rfl) (fun _ _ _ h => h) (by rfl) (fun wq hq => ?_) (by assumption) ?_
              · have p0 := cell_chg hq kC
                go_simp
              simp only [Act.put, List.setIfInBounds_toArray, List.set_cons_zero, List.set_cons_succ]
              refine hs_take (fuel := 8) 2 (some 55) (.pointer (some ⟨P, 1, none⟩)) rfl rfl (by kernel_rfl) (by kernel_rfl) (by kernel_rfl) (fun _ _ _ h => h) (by rfl) (fun wq hq => ?_) (by assumption) ?_
              · go_simp
              simp only [Act.put, List.setIfInBounds_toArray, List.set_cons_zero, List.set_cons_succ]
              refine hs_take (fuel := 7) 3 (some 56) (.int .i64 f) rfl rfl (by kernel_rfl) (by kernel_rfl) (by kernel_rfl) (fun _ _ _ h => h) (by rfl) (fun wq hq => ?_) (by assumption) ?_
              · have p0 := cell_chg hq k1
                go_simp
              simp only [Act.put, List.setIfInBounds_toArray, List.set_cons_zero, List.set_cons_succ]
              refine hs_take (fuel := 6) 4 (some 57) (.pointer (some ⟨A, f, none⟩)) rfl rfl (by kernel_rfl) (by kernel_rfl) (by kernel_rfl) (fun _ _ _ h => h) (by rfl) (fun wq hq => ?_) (by assumption) ?_
              · go_simp
              simp only [Act.put, List.setIfInBounds_toArray, List.set_cons_zero, List.set_cons_succ]
              refine hs_take (fuel := 5) 5 (some 58) (.slice (some ⟨g, 0, none⟩) 6 cap3) rfl rfl (by kernel_rfl) (by kernel_rfl) (by kernel_rfl) (fun _ _ _ h => h) (by rfl) (fun wq hq => ?_) (by assumption) ?_
              · have p0 := cell_chg hq kA
                go_simp
              simp only [Act.put, List.setIfInBounds_toArray, List.set_cons_zero, List.set_cons_succ]
              refine hs_take (fuel := 4) 6 (some 59) (.pointer (some ⟨P, 2, none⟩)) rfl rfl (by kernel_rfl) (by kernel_rfl) (by kernel_rfl) (fun _ _ _ h => h) (by rfl) (fun wq hq => ?_) (by assumption) ?_
              · go_simp
              simp only [Act.put, List.setIfInBounds_toArray, List.set_cons_zero, List.set_cons_succ]
              refine hs_take (fuel := 3) 7 (some 60) (.int .i64 p) rfl rfl (by kernel_rfl) (by kernel_rfl) (by kernel_rfl) (fun _ _ _ h => h) (by rfl) (fun wq hq => ?_) (by assumption) ?_
              · have p0 := cell_chg hq k2
                go_simp
              simp only [Act.put, List.setIfInBounds_toArray, List.set_cons_zero, List.set_cons_succ]
              refine hs_take (fuel := 2) 8 (some 61) (.int .i64 n) rfl rfl (by kernel_rfl) (by kernel_rfl) (by kernel_rfl) (fun _ _ _ h => h) (by rfl) (fun wq hq => ?_) (by assumption) ?_
              · go_simp
              simp only [Act.put, List.setIfInBounds_toArray, List.set_cons_zero, List.set_cons_succ]
              refine hs_take (fuel := 1) 9 (some 62) (.pointer (some ⟨g, p, none⟩)) rfl rfl (by kernel_rfl) (by kernel_rfl) (by kernel_rfl) (fun _ _ _ h => h) (by rfl) (fun wq hq => ?_) (by assumption) ?_
              · go_simp
              simp only [Act.put, List.setIfInBounds_toArray, List.set_cons_zero, List.set_cons_succ]
              refine wpAnyH_ready (fuel := 0) (rs := [10]) (by kernel_rfl) (by simp) (AllReadyH.cons rfl (fun K hK => ?_) AllReadyH.nil)
              have hu4 : w7.drew.cell? ⟨g, p, none⟩ = some (.int .i64 (tat (tofN d n) f p)) := hu3
              have hf4 : w7.drew.frozen? ⟨g, p, none⟩ = false := hfz
              go_simp
              refine hK.out _ _ ?_ (fun hS => ?_)
              · exact Chg.setCell (S := fun b => b = g) (below_chg (bdrew w7) _) (p := ⟨g, p, none⟩) (.inr rfl) _
              refine wpAnyH_done (by kernel_rfl) ?_ _
              have hF := HPut.out.below (bdrew _)
              rw [← HN.out] at hF
              have HF := Lib.hid hF
              clear hF hS0 kA k1 k2 kC hu3 hfz hu4 hf4 cC' cA' y1' y2'
              go_wp2_with fail
              go_roundw
              case rel => exact ⟨n + 1, by omega, by go_num, HF.out⟩
              case measure => simp [intOf]; omega
            · go_simp
              refine hK.out _ _ ?_ (fun hS2 => ?_)
              · exact bup2 hS0 (balloc w5.drew _)
              have hpx : (w5.drew.alloc pbox).heap[w5.heap.size]? = some pbox := heap_alloc_new w5.drew pbox
              refine wpAnyH_ready (fuel := 5) (rs := [11]) (by kernel_rfl) (by simp) (AllReadyH.cons rfl (fun K2 hK2 => ?_) AllReadyH.nil)
              go_simp
              refine (HRd.out _ (by assumption)).mono ?_
              rintro e wb ⟨rfl, b6⟩
              replace hpx := box_keep hpx b6
              refine hK2.out _ _ ?_ (fun hS => ?_)
              · exact bup2 (by assumption) b6
              refine hs_take (fuel := 4) 12 (some 29) (.tuple #[.agg #[.bool false, .int .i64 0, .int .i64 0, .int .i64 0, .int .i64 0], .bool false]) rfl rfl (by kernel_rfl) (by kernel_rfl) (by kernel_rfl) (fun _ _ _ h => h) (by rfl) (fun wq hq => ?_) (by assumption) ?_
              · go_simp
              simp only [Act.put, List.setIfInBounds_toArray, List.set_cons_zero, List.set_cons_succ]
              refine hs_take (fuel := 3) 13 (some 42) (.agg #[.bool false, .int .i64 0, .int .i64 0, .int .i64 0, .int .i64 0]) rfl rfl (by kernel_rfl) (by kernel_rfl) (by kernel_rfl) (fun _ _ _ h => h) (by rfl) (fun wq hq => ?_) (by assumption) ?_
              · go_simp
              simp only [Act.put, List.setIfInBounds_toArray, List.set_cons_zero, List.set_cons_succ]
              refine hs_take (fuel := 2) 14 (some 43) (.bool false) rfl rfl (by kernel_rfl) (by kernel_rfl) (by kernel_rfl) (fun _ _ _ h => h) (by rfl) (fun wq hq => ?_) (by assumption) ?_
              · go_simp
              simp only [Act.put, List.setIfInBounds_toArray, List.set_cons_zero, List.set_cons_succ]
              refine wpAnyH_ready (fuel := 1) (rs := [16]) (by kernel_rfl) (by simp) (AllReadyH.cons rfl (fun K hK => ?_) AllReadyH.nil)
              obtain ⟨h0, h1, h2, h3, h4, g0, g1, g2, g3, g4⟩ := pbox_at hpx
              have HX := Lib.hid (pset_box' (p := ⟨false, 0, 0, 0, 0⟩) hpx hS (Nat.le_refl _))
              go_simp
              refine hK.out _ _ ?_ (fun hS2 => ?_)
              · exact HX.out.2
              refine hs_take (fuel := 0) 17 (some 8) (.bool false) rfl rfl (by kernel_rfl) (by kernel_rfl) (by kernel_rfl) (fun _ _ _ h => h) (by rfl) (fun wq hq => ?_) (by assumption) ?_
              · go_simp
              simp only [Act.put, List.setIfInBounds_toArray, List.set_cons_zero, List.set_cons_succ]
              refine wpAnyH_done (by kernel_rfl) ?_ _
              have H7 := HX.out
              simp only at H7
              obtain ⟨w7, hw7⟩ : ∃ w7, w7 = (((((wb.setCell ⟨w5.heap.size, 0, none⟩ (.bool false)).setCell ⟨w5.heap.size, 1, none⟩ (.int .i64 0)).setCell ⟨w5.heap.size, 2, none⟩ (.int .i64 0)).setCell ⟨w5.heap.size, 3, none⟩ (.int .i64 0)).setCell ⟨w5.heap.size, 4, none⟩ (.int .i64 0)) := ⟨_, rfl⟩
              rw [← hw7] at H7 ⊢
              clear HX h0 h1 h2 h3 h4 g0 g1 g2 g3 g4 hpx
              obtain ⟨q7, hz⟩ := H7
              obtain ⟨z0, z1', z2', z3', z4'⟩ := five_at (p := ⟨false, 0, 0, 0, 0⟩) q7
              simp only [Nat.zero_add] at z0 z1' z2' z3' z4'
              have y4' := cell_later hz y4
              clear hw7 q7
              obtain ⟨y1', y2', cC', cA'⟩ := And.intro (cell_later hz y1) (And.intro (cell_later hz y2) (And.intro (cell_later hz cC) (cell_later hz cA)))
              obtain ⟨g', cap3', cA2, -, hu3, hfz, -, -, hput'⟩ := (HR4.out.below hz).at HRow.out (f := f) (p := p) (by omega) (by omega)
              rw [cA'] at cA2
              simp only [Option.some.injEq, Value.slice.injEq, Addr.mk.injEq, and_true, true_and] at cA2
              obtain ⟨rfl, rfl⟩ := cA2
              have HPut := Lib.hid (hput' n (by unfold I64; omega))
              have kC := And.intro cC' (show ¬ C = g from nC2)
              have k1 := And.intro y1' (show ¬ P = g from nP)
              have k2 := And.intro y2' (show ¬ P = g from nP)
              have kA := And.intro cA' (show ¬ A = g from nA)
              clear hput' y0 y1 y2 y4 cC cA cG hz
              go_wp2_with fail
              refine region_held_n 11 (S := fun w' => Chg (fun b => b = g) w7 w') (by kernel_rfl) (by kernel_rfl) (below_chg (bdrew _) _) (fun hS0 => ?_)
              refine hs_take (fuel := 10) 0 (some 53) (.pointer (some ⟨C, 0, none⟩)) rfl rfl (by kernel_rfl) (by kernel_rfl) (by kernel_rfl) (fun _ _ _ h => h) (by rfl) (fun wq hq => ?_) (by assumption) ?_
              · go_simp
              simp only [Act.put, List.setIfInBounds_toArray, List.set_cons_zero, List.set_cons_succ]
              refine hs_take (fuel := 9) 1 (some 54) (.slice (some ⟨A, 0, none⟩) 8 cap) rfl rfl (by kernel_rfl) (by kernel_rfl) (by kernel_rfl) (fun _ _ _ h => h) (by rfl) (fun wq hq => ?_) (by assumption) ?_
              · have p0 := cell_chg hq kC
                go_simp
              simp only [Act.put, List.setIfInBounds_toArray, List.set_cons_zero, List.set_cons_succ]
              refine hs_take (fuel := 8) 2 (some 55) (.pointer (some ⟨P, 1, none⟩)) rfl rfl (by kernel_rfl) (by kernel_rfl) (by kernel_rfl) (fun _ _ _ h => h) (by rfl) (fun wq hq => ?_) (by assumption) ?_
              · go_simp
              simp only [Act.put, List.setIfInBounds_toArray, List.set_cons_zero, List.set_cons_succ]
              refine hs_take (fuel := 7) 3 (some 56) (.int .i64 f) rfl rfl (by kernel_rfl) (by kernel_rfl) (by kernel_rfl) (fun _ _ _ h => h) (by rfl) (fun wq hq => ?_) (by assumption) ?_
              · have p0 := cell_chg hq k1
                go_simp
              simp only [Act.put, List.setIfInBounds_toArray, List.set_cons_zero, List.set_cons_succ]
              refine hs_take (fuel := 6) 4 (some 57) (.pointer (some ⟨A, f, none⟩)) rfl rfl (by kernel_rfl) (by kernel_rfl) (by kernel_rfl) (fun _ _ _ h => h) (by rfl) (fun wq hq => ?_) (by assumption) ?_
              · go_simp
              simp only [Act.put, List.setIfInBounds_toArray, List.set_cons_zero, List.set_cons_succ]
              refine hs_take (fuel := 5) 5 (some 58) (.slice (some ⟨g, 0, none⟩) 6 cap3) rfl rfl (by kernel_rfl) (by kernel_rfl) (by kernel_rfl) (fun _ _ _ h => h) (by rfl) (fun wq hq => ?_) (by assumption) ?_
              · have p0 := cell_chg hq kA
                go_simp
              simp only [Act.put, List.setIfInBounds_toArray, List.set_cons_zero, List.set_cons_succ]
              refine hs_take (fuel := 4) 6 (some 59) (.pointer (some ⟨P, 2, none⟩)) rfl rfl (by kernel_rfl) (by kernel_rfl) (by kernel_rfl) (fun _ _ _ h => h) (by rfl) (fun wq hq => ?_) (by assumption) ?_
              · go_simp
              simp only [Act.put, List.setIfInBounds_toArray, List.set_cons_zero, List.set_cons_succ]
              refine hs_take (fuel := 3) 7 (some 60) (.int .i64 p) rfl rfl (by kernel_rfl) (by kernel_rfl) (by kernel_rfl) (fun _ _ _ h => h) (by rfl) (fun wq hq => ?_) (by assumption) ?_
              · have p0 := cell_chg hq k2
                go_simp
              simp only [Act.put, List.setIfInBounds_toArray, List.set_cons_zero, List.set_cons_succ]
              refine hs_take (fuel := 2) 8 (some 61) (.int .i64 n) rfl rfl (by kernel_rfl) (by kernel_rfl) (by kernel_rfl) (fun _ _ _ h => h) (by rfl) (fun wq hq => ?_) (by assumption) ?_
              · go_simp
              simp only [Act.put, List.setIfInBounds_toArray, List.set_cons_zero, List.set_cons_succ]
              refine hs_take (fuel := 1) 9 (some 62) (.pointer (some ⟨g, p, none⟩)) rfl rfl (by kernel_rfl) (by kernel_rfl) (by kernel_rfl) (fun _ _ _ h => h) (by rfl) (fun wq hq => ?_) (by assumption) ?_
              · go_simp
              simp only [Act.put, List.setIfInBounds_toArray, List.set_cons_zero, List.set_cons_succ]
              refine wpAnyH_ready (fuel := 0) (rs := [10]) (by kernel_rfl) (by simp) (AllReadyH.cons rfl (fun K hK => ?_) AllReadyH.nil)
              have hu4 : w7.drew.cell? ⟨g, p, none⟩ = some (.int .i64 (tat (tofN d n) f p)) := hu3
              have hf4 : w7.drew.frozen? ⟨g, p, none⟩ = false := hfz
              go_simp
              refine hK.out _ _ ?_ (fun hS => ?_)
              · exact Chg.setCell (S := fun b => b = g) (below_chg (bdrew w7) _) (p := ⟨g, p, none⟩) (.inr rfl) _
              refine wpAnyH_done (by kernel_rfl) ?_ _
              have hF := HPut.out.below (bdrew _)
              rw [← HN.out] at hF
              have HF := Lib.hid hF
              clear hF hS0 kA k1 k2 kC hu3 hfz hu4 hf4 cC' cA' y1' y2'
              go_wp2_with fail
              go_roundw
              case rel => exact ⟨n + 1, by omega, by go_num, HF.out⟩
              case measure => simp [intOf]; omega
          · have HRd := fun (wx : World) (hx : Below w5.heap.size w5 wx) => HRd0.out m wx (H.out.below (bup2 HR4.out.2.1 hx)) (by unfold I64; omega)
            rw [rdp_in HV.out (show m < 4 * d.length by omega), hfull] at HRd
            have HYes2 := HYes.out
            have HNo2 := HNo.out
            rw [Int.toNat_natCast] at HYes2 HNo2
            unfold pgv at HRd
            rw [hfull] at HRd
            obtain ⟨qf, qp, qv, qs, hqs, e1, e2, e3⟩ : ∃ qf qp qv qs, (dat d m).stamp = qs ∧ (dat d m).file = qf ∧ (dat d m).place = qp ∧ (dat d m).value = qv := ⟨_, _, _, _, rfl, rfl, rfl, rfl⟩
            rw [hqs, e1, e2, e3] at HRd
            rw [hqs] at HYes2 HNo2
            replace HRd := Lib.hid HRd
            clear HYes HNo hqs hfull e1 e2 e3
            go_wp2_with fail
            rw [HP.out, ← HW5.out]
            go_wp2_with fail
            refine region_held_n 18 (S := fun w' => Below w5.heap.size w5 w') (by kernel_rfl) (by kernel_rfl) (bdrew _) (fun hS0 => ?_)
            refine hs_take (fuel := 17) 0 (some 30) (.slice a d.length capd) rfl rfl (by kernel_rfl) (by kernel_rfl) (by kernel_rfl) (fun _ _ _ h => h) (by rfl) (fun wq hq => ?_) (by assumption) ?_
            · go_simp
            simp only [Act.put, List.setIfInBounds_toArray, List.set_cons_zero, List.set_cons_succ]
            refine hs_take (fuel := 16) 1 (some 31) (.pointer (some ⟨C, 0, none⟩)) rfl rfl (by kernel_rfl) (by kernel_rfl) (by kernel_rfl) (fun _ _ _ h => h) (by rfl) (fun wq hq => ?_) (by assumption) ?_
            · go_simp
            simp only [Act.put, List.setIfInBounds_toArray, List.set_cons_zero, List.set_cons_succ]
            refine hs_take (fuel := 15) 2 (some 32) (.slice (some ⟨A, 0, none⟩) 8 cap) rfl rfl (by kernel_rfl) (by kernel_rfl) (by kernel_rfl) (fun _ _ _ h => h) (by rfl) (fun wq hq => ?_) (by assumption) ?_
            · have p0 := cell_later hq cC
              go_simp
            simp only [Act.put, List.setIfInBounds_toArray, List.set_cons_zero, List.set_cons_succ]
            refine hs_take (fuel := 14) 3 (some 33) (.pointer (some ⟨P, 1, none⟩)) rfl rfl (by kernel_rfl) (by kernel_rfl) (by kernel_rfl) (fun _ _ _ h => h) (by rfl) (fun wq hq => ?_) (by assumption) ?_
            · go_simp
            simp only [Act.put, List.setIfInBounds_toArray, List.set_cons_zero, List.set_cons_succ]
            refine hs_take (fuel := 13) 4 (some 34) (.int .i64 f) rfl rfl (by kernel_rfl) (by kernel_rfl) (by kernel_rfl) (fun _ _ _ h => h) (by rfl) (fun wq hq => ?_) (by assumption) ?_
            · have p0 := cell_later hq y1
              go_simp
            simp only [Act.put, List.setIfInBounds_toArray, List.set_cons_zero, List.set_cons_succ]
            refine hs_take (fuel := 12) 5 (some 35) (.pointer (some ⟨A, f, none⟩)) rfl rfl (by kernel_rfl) (by kernel_rfl) (by kernel_rfl) (fun _ _ _ h => h) (by rfl) (fun wq hq => ?_) (by assumption) ?_
            · go_simp
            simp only [Act.put, List.setIfInBounds_toArray, List.set_cons_zero, List.set_cons_succ]
            refine hs_take (fuel := 11) 6 (some 36) (.slice (some ⟨g, 0, none⟩) 6 cap3) rfl rfl (by kernel_rfl) (by kernel_rfl) (by kernel_rfl) (fun _ _ _ h => h) (by rfl) (fun wq hq => ?_) (by assumption) ?_
            · have p0 := cell_later hq cA
              go_simp
            simp only [Act.put, List.setIfInBounds_toArray, List.set_cons_zero, List.set_cons_succ]
            refine hs_take (fuel := 10) 7 (some 37) (.pointer (some ⟨P, 2, none⟩)) rfl rfl (by kernel_rfl) (by kernel_rfl) (by kernel_rfl) (fun _ _ _ h => h) (by rfl) (fun wq hq => ?_) (by assumption) ?_
            · go_simp
            simp only [Act.put, List.setIfInBounds_toArray, List.set_cons_zero, List.set_cons_succ]
            refine hs_take (fuel := 9) 8 (some 38) (.int .i64 p) rfl rfl (by kernel_rfl) (by kernel_rfl) (by kernel_rfl) (fun _ _ _ h => h) (by rfl) (fun wq hq => ?_) (by assumption) ?_
            · have p0 := cell_later hq y2
              go_simp
            simp only [Act.put, List.setIfInBounds_toArray, List.set_cons_zero, List.set_cons_succ]
            refine hs_take (fuel := 8) 9 (some 39) (.pointer (some ⟨g, p, none⟩)) rfl rfl (by kernel_rfl) (by kernel_rfl) (by kernel_rfl) (fun _ _ _ h => h) (by rfl) (fun wq hq => ?_) (by assumption) ?_
            · go_simp
            simp only [Act.put, List.setIfInBounds_toArray, List.set_cons_zero, List.set_cons_succ]
            refine hs_take (fuel := 7) 10 (some 40) (.int .i64 m) rfl rfl (by kernel_rfl) (by kernel_rfl) (by kernel_rfl) (fun _ _ _ h => h) (by rfl) (fun wq hq => ?_) (by assumption) ?_
            · have p0 := cell_later hq cG
              go_simp
            simp only [Act.put, List.setIfInBounds_toArray, List.set_cons_zero, List.set_cons_succ]
            refine wpAnyH_ready (fuel := 6) (rs := [11, 15]) (by kernel_rfl) (by simp) (AllReadyH.cons rfl (fun K hK => ?_) (AllReadyH.cons rfl (fun K hK => ?_) AllReadyH.nil))
            · go_simp
              refine (HRd.out _ (by assumption)).mono ?_
              rintro e w6 ⟨rfl, b6⟩
              refine hK.out _ _ ?_ (fun hS => ?_)
              · exact bup2 (by assumption) b6
              refine hs_take (fuel := 5) 12 (some 29) (.tuple #[.agg #[.bool true, .int .i64 qf, .int .i64 qp, .int .i64 qv, .int .i64 qs], .bool true]) rfl rfl (by kernel_rfl) (by kernel_rfl) (by kernel_rfl) (fun _ _ _ h => h) (by rfl) (fun wq hq => ?_) (by assumption) ?_
              · go_simp
              simp only [Act.put, List.setIfInBounds_toArray, List.set_cons_zero, List.set_cons_succ]
              refine hs_take (fuel := 4) 13 (some 42) (.agg #[.bool true, .int .i64 qf, .int .i64 qp, .int .i64 qv, .int .i64 qs]) rfl rfl (by kernel_rfl) (by kernel_rfl) (by kernel_rfl) (fun _ _ _ h => h) (by rfl) (fun wq hq => ?_) (by assumption) ?_
              · go_simp
              simp only [Act.put, List.setIfInBounds_toArray, List.set_cons_zero, List.set_cons_succ]
              refine hs_take (fuel := 3) 14 (some 43) (.bool true) rfl rfl (by kernel_rfl) (by kernel_rfl) (by kernel_rfl) (fun _ _ _ h => h) (by rfl) (fun wq hq => ?_) (by assumption) ?_
              · go_simp
              simp only [Act.put, List.setIfInBounds_toArray, List.set_cons_zero, List.set_cons_succ]
              refine wpAnyH_ready (fuel := 2) (rs := [15]) (by kernel_rfl) (by simp) (AllReadyH.cons rfl (fun K hK => ?_) AllReadyH.nil)
              go_simp
              refine hK.out _ _ ?_ (fun hS2 => ?_)
              · exact bup2 hS (balloc w6 _)
              refine wpAnyH_ready (fuel := 1) (rs := [16]) (by kernel_rfl) (by simp) (AllReadyH.cons rfl (fun K hK => ?_) AllReadyH.nil)
              go_simp
              refine hK.out _ _ ?_ (fun hS2 => ?_)
              · exact bup2 hS (balloc w6 _)
              refine hs_take (fuel := 0) 17 (some 8) (.bool true) rfl rfl (by kernel_rfl) (by kernel_rfl) (by kernel_rfl) (fun _ _ _ h => h) (by rfl) (fun wq hq => ?_) (by assumption) ?_
              · go_simp
              simp only [Act.put, List.setIfInBounds_toArray, List.set_cons_zero, List.set_cons_succ]
              refine wpAnyH_done (by kernel_rfl) ?_ _
              have H7 : (w6.alloc (.cells #[.bool true, .int .i64 qf, .int .i64 qp, .int .i64 qv, .int .i64 qs] 53)).heap[w6.heap.size]? = some (.cells #[.bool true, .int .i64 qf, .int .i64 qp, .int .i64 qv, .int .i64 qs] 53) ∧ Below w5.heap.size w5 (w6.alloc (.cells #[.bool true, .int .i64 qf, .int .i64 qp, .int .i64 qv, .int .i64 qs] 53)) := ⟨heap_alloc_new w6 _, bup2 hS (balloc w6 _)⟩
              obtain ⟨w7, hw7⟩ : ∃ w7, w7 = w6.alloc (.cells #[.bool true, .int .i64 qf, .int .i64 qp, .int .i64 qv, .int .i64 qs] 53) := ⟨_, rfl⟩
              rw [← hw7] at H7 ⊢
              obtain ⟨q7, hz⟩ := H7
              obtain ⟨z0, z1', z2', z3', z4'⟩ := five_at (p := ⟨true, qf, qp, qv, qs⟩) q7
              simp only [Nat.zero_add] at z0 z1' z2' z3' z4'
              have y4' := cell_later hz y4
              clear hw7 q7
              by_cases hlt2 : qs < s
              · have hqd : decide (qs < s) = true := by simpa using hlt2
                have HN := Lib.hid (HYes2 (.inr hlt2))
                clear HYes2 HNo2 hlt2
                obtain ⟨y1', y2', cC', cA'⟩ := And.intro (cell_later hz y1) (And.intro (cell_later hz y2) (And.intro (cell_later hz cC) (cell_later hz cA)))
                obtain ⟨g', cap3', cA2, -, hu3, hfz, -, -, hput'⟩ := (HR4.out.below hz).at HRow.out (f := f) (p := p) (by omega) (by omega)
                rw [cA'] at cA2
                simp only [Option.some.injEq, Value.slice.injEq, Addr.mk.injEq, and_true, true_and] at cA2
                obtain ⟨rfl, rfl⟩ := cA2
                have HPut := Lib.hid (hput' n (by unfold I64; omega))
                have kC := And.intro cC' (show ¬ C = g from nC2)
                have k1 := And.intro y1' (show ¬ P = g from nP)
                have k2 := And.intro y2' (show ¬ P = g from nP)
                have kA := And.intro cA' (show ¬ A = g from nA)
                clear hput' y0 y1 y2 y4 cC cA cG hz
                go_wp2_with fail
                refine region_held_n 11 (S := fun w' => Chg (fun b => b = g) w7 w') (by kernel_rfl) (by kernel_rfl) (below_chg (bdrew _) _) (fun hS0 => ?_)
                refine hs_take (fuel := 10) 0 (some 53) (.pointer (some ⟨C, 0, none⟩)) rfl rfl (by kernel_rfl) (by kernel_rfl) (by kernel_rfl) (fun _ _ _ h => h) (by rfl) (fun wq hq => ?_) (by assumption) ?_
                · go_simp
                simp only [Act.put, List.setIfInBounds_toArray, List.set_cons_zero, List.set_cons_succ]
                refine hs_take (fuel := 9) 1 (some 54) (.slice (some ⟨A, 0, none⟩) 8 cap) rfl rfl (by kernel_rfl) (by kernel_rfl) (by kernel_rfl) (fun _ _ _ h => h) (by rfl) (fun wq hq => ?_) (by assumption) ?_
                · have p0 := cell_chg hq kC
                  go_simp
                simp only [Act.put, List.setIfInBounds_toArray, List.set_cons_zero, List.set_cons_succ]
                refine hs_take (fuel := 8) 2 (some 55) (.pointer (some ⟨P, 1, none⟩)) rfl rfl (by kernel_rfl) (by kernel_rfl) (by kernel_rfl) (fun _ _ _ h => h) (by rfl) (fun wq hq => ?_) (by assumption) ?_
                · go_simp
                simp only [Act.put, List.setIfInBounds_toArray, List.set_cons_zero, List.set_cons_succ]
                refine hs_take (fuel := 7) 3 (some 56) (.int .i64 f) rfl rfl (by kernel_rfl) (by kernel_rfl) (by kernel_rfl) (fun _ _ _ h => h) (by rfl) (fun wq hq => ?_) (by assumption) ?_
                · have p0 := cell_chg hq k1
                  go_simp
                simp only [Act.put, List.setIfInBounds_toArray, List.set_cons_zero, List.set_cons_succ]
                refine hs_take (fuel := 6) 4 (some 57) (.pointer (some ⟨A, f, none⟩)) rfl rfl (by kernel_rfl) (by kernel_rfl) (by kernel_rfl) (fun _ _ _ h => h) (by rfl) (fun wq hq => ?_) (by assumption) ?_
                · go_simp
                simp only [Act.put, List.setIfInBounds_toArray, List.set_cons_zero, List.set_cons_succ]
                refine hs_take (fuel := 5) 5 (some 58) (.slice (some ⟨g, 0, none⟩) 6 cap3) rfl rfl (by kernel_rfl) (by kernel_rfl) (by kernel_rfl) (fun _ _ _ h => h) (by rfl) (fun wq hq => ?_) (by assumption) ?_
                · have p0 := cell_chg hq kA
                  go_simp
                simp only [Act.put, List.setIfInBounds_toArray, List.set_cons_zero, List.set_cons_succ]
                refine hs_take (fuel := 4) 6 (some 59) (.pointer (some ⟨P, 2, none⟩)) rfl rfl (by kernel_rfl) (by kernel_rfl) (by kernel_rfl) (fun _ _ _ h => h) (by rfl) (fun wq hq => ?_) (by assumption) ?_
                · go_simp
                simp only [Act.put, List.setIfInBounds_toArray, List.set_cons_zero, List.set_cons_succ]
                refine hs_take (fuel := 3) 7 (some 60) (.int .i64 p) rfl rfl (by kernel_rfl) (by kernel_rfl) (by kernel_rfl) (fun _ _ _ h => h) (by rfl) (fun wq hq => ?_) (by assumption) ?_
                · have p0 := cell_chg hq k2
                  go_simp
                simp only [Act.put, List.setIfInBounds_toArray, List.set_cons_zero, List.set_cons_succ]
                refine hs_take (fuel := 2) 8 (some 61) (.int .i64 n) rfl rfl (by kernel_rfl) (by kernel_rfl) (by kernel_rfl) (fun _ _ _ h => h) (by rfl) (fun wq hq => ?_) (by assumption) ?_
                · go_simp
                simp only [Act.put, List.setIfInBounds_toArray, List.set_cons_zero, List.set_cons_succ]
                refine hs_take (fuel := 1) 9 (some 62) (.pointer (some ⟨g, p, none⟩)) rfl rfl (by kernel_rfl) (by kernel_rfl) (by kernel_rfl) (fun _ _ _ h => h) (by rfl) (fun wq hq => ?_) (by assumption) ?_
                · go_simp
                simp only [Act.put, List.setIfInBounds_toArray, List.set_cons_zero, List.set_cons_succ]
                refine wpAnyH_ready (fuel := 0) (rs := [10]) (by kernel_rfl) (by simp) (AllReadyH.cons rfl (fun K hK => ?_) AllReadyH.nil)
                have hu4 : w7.drew.cell? ⟨g, p, none⟩ = some (.int .i64 (tat (tofN d n) f p)) := hu3
                have hf4 : w7.drew.frozen? ⟨g, p, none⟩ = false := hfz
                go_simp
                refine hK.out _ _ ?_ (fun hS => ?_)
                · exact Chg.setCell (S := fun b => b = g) (below_chg (bdrew w7) _) (p := ⟨g, p, none⟩) (.inr rfl) _
                refine wpAnyH_done (by kernel_rfl) ?_ _
                have hF := HPut.out.below (bdrew _)
                rw [← HN.out] at hF
                have HF := Lib.hid hF
                clear hF hS0 kA k1 k2 kC hu3 hfz hu4 hf4 cC' cA' y1' y2'
                go_wp2_with fail
                go_roundw
                case rel => exact ⟨n + 1, by omega, by go_num, HF.out⟩
                case measure => simp [intOf]; omega
              · have hqd : decide (qs < s) = false := by simpa using hlt2
                have HN := Lib.hid (HNo2 (by omega))
                clear HYes2 HNo2 hlt2
                have HF := Lib.hid (HR4.out.below hz)
                clear hz y0 y1 y2 y4 cC cA cG
                go_wp2_with fail
                go_roundw
                case rel => exact ⟨n + 1, by omega, by go_num, by rw [HN.out]; exact HF.out⟩
                case measure => simp [intOf]; omega
            · go_simp
              refine hK.out _ _ ?_ (fun hS2 => ?_)
              · exact bup2 hS0 (balloc w5.drew _)
              have hpx : (w5.drew.alloc pbox).heap[w5.heap.size]? = some pbox := heap_alloc_new w5.drew pbox
              refine wpAnyH_ready (fuel := 5) (rs := [11]) (by kernel_rfl) (by simp) (AllReadyH.cons rfl (fun K2 hK2 => ?_) AllReadyH.nil)
              go_simp
              refine (HRd.out _ (by assumption)).mono ?_
              rintro e wb ⟨rfl, b6⟩
              replace hpx := box_keep hpx b6
              refine hK2.out _ _ ?_ (fun hS => ?_)
              · exact bup2 (by assumption) b6
              refine hs_take (fuel := 4) 12 (some 29) (.tuple #[.agg #[.bool true, .int .i64 qf, .int .i64 qp, .int .i64 qv, .int .i64 qs], .bool true]) rfl rfl (by kernel_rfl) (by kernel_rfl) (by kernel_rfl) (fun _ _ _ h => h) (by rfl) (fun wq hq => ?_) (by assumption) ?_
              · go_simp
              simp only [Act.put, List.setIfInBounds_toArray, List.set_cons_zero, List.set_cons_succ]
              refine hs_take (fuel := 3) 13 (some 42) (.agg #[.bool true, .int .i64 qf, .int .i64 qp, .int .i64 qv, .int .i64 qs]) rfl rfl (by kernel_rfl) (by kernel_rfl) (by kernel_rfl) (fun _ _ _ h => h) (by rfl) (fun wq hq => ?_) (by assumption) ?_
              · go_simp
              simp only [Act.put, List.setIfInBounds_toArray, List.set_cons_zero, List.set_cons_succ]
              refine hs_take (fuel := 2) 14 (some 43) (.bool true) rfl rfl (by kernel_rfl) (by kernel_rfl) (by kernel_rfl) (fun _ _ _ h => h) (by rfl) (fun wq hq => ?_) (by assumption) ?_
              · go_simp
              simp only [Act.put, List.setIfInBounds_toArray, List.set_cons_zero, List.set_cons_succ]
              refine wpAnyH_ready (fuel := 1) (rs := [16]) (by kernel_rfl) (by simp) (AllReadyH.cons rfl (fun K hK => ?_) AllReadyH.nil)
              obtain ⟨h0, h1, h2, h3, h4, g0, g1, g2, g3, g4⟩ := pbox_at hpx
              have HX := Lib.hid (pset_box' (p := ⟨true, qf, qp, qv, qs⟩) hpx hS (Nat.le_refl _))
              go_simp
              refine hK.out _ _ ?_ (fun hS2 => ?_)
              · exact HX.out.2
              refine hs_take (fuel := 0) 17 (some 8) (.bool true) rfl rfl (by kernel_rfl) (by kernel_rfl) (by kernel_rfl) (fun _ _ _ h => h) (by rfl) (fun wq hq => ?_) (by assumption) ?_
              · go_simp
              simp only [Act.put, List.setIfInBounds_toArray, List.set_cons_zero, List.set_cons_succ]
              refine wpAnyH_done (by kernel_rfl) ?_ _
              have H7 := HX.out
              simp only at H7
              obtain ⟨w7, hw7⟩ : ∃ w7, w7 = (((((wb.setCell ⟨w5.heap.size, 0, none⟩ (.bool true)).setCell ⟨w5.heap.size, 1, none⟩ (.int .i64 qf)).setCell ⟨w5.heap.size, 2, none⟩ (.int .i64 qp)).setCell ⟨w5.heap.size, 3, none⟩ (.int .i64 qv)).setCell ⟨w5.heap.size, 4, none⟩ (.int .i64 qs)) := ⟨_, rfl⟩
              rw [← hw7] at H7 ⊢
              clear HX h0 h1 h2 h3 h4 g0 g1 g2 g3 g4 hpx
              obtain ⟨q7, hz⟩ := H7
              obtain ⟨z0, z1', z2', z3', z4'⟩ := five_at (p := ⟨true, qf, qp, qv, qs⟩) q7
              simp only [Nat.zero_add] at z0 z1' z2' z3' z4'
              have y4' := cell_later hz y4
              clear hw7 q7
              by_cases hlt2 : qs < s
              · have hqd : decide (qs < s) = true := by simpa using hlt2
                have HN := Lib.hid (HYes2 (.inr hlt2))
                clear HYes2 HNo2 hlt2
                obtain ⟨y1', y2', cC', cA'⟩ := And.intro (cell_later hz y1) (And.intro (cell_later hz y2) (And.intro (cell_later hz cC) (cell_later hz cA)))
                obtain ⟨g', cap3', cA2, -, hu3, hfz, -, -, hput'⟩ := (HR4.out.below hz).at HRow.out (f := f) (p := p) (by omega) (by omega)
                rw [cA'] at cA2
                simp only [Option.some.injEq, Value.slice.injEq, Addr.mk.injEq, and_true, true_and] at cA2
                obtain ⟨rfl, rfl⟩ := cA2
                have HPut := Lib.hid (hput' n (by unfold I64; omega))
                have kC := And.intro cC' (show ¬ C = g from nC2)
                have k1 := And.intro y1' (show ¬ P = g from nP)
                have k2 := And.intro y2' (show ¬ P = g from nP)
                have kA := And.intro cA' (show ¬ A = g from nA)
                clear hput' y0 y1 y2 y4 cC cA cG hz
                go_wp2_with fail
                refine region_held_n 11 (S := fun w' => Chg (fun b => b = g) w7 w') (by kernel_rfl) (by kernel_rfl) (below_chg (bdrew _) _) (fun hS0 => ?_)
                refine hs_take (fuel := 10) 0 (some 53) (.pointer (some ⟨C, 0, none⟩)) rfl rfl (by kernel_rfl) (by kernel_rfl) (by kernel_rfl) (fun _ _ _ h => h) (by rfl) (fun wq hq => ?_) (by assumption) ?_
                · go_simp
                simp only [Act.put, List.setIfInBounds_toArray, List.set_cons_zero, List.set_cons_succ]
                refine hs_take (fuel := 9) 1 (some 54) (.slice (some ⟨A, 0, none⟩) 8 cap) rfl rfl (by kernel_rfl) (by kernel_rfl) (by kernel_rfl) (fun _ _ _ h => h) (by rfl) (fun wq hq => ?_) (by assumption) ?_
                · have p0 := cell_chg hq kC
                  go_simp
                simp only [Act.put, List.setIfInBounds_toArray, List.set_cons_zero, List.set_cons_succ]
                refine hs_take (fuel := 8) 2 (some 55) (.pointer (some ⟨P, 1, none⟩)) rfl rfl (by kernel_rfl) (by kernel_rfl) (by kernel_rfl) (fun _ _ _ h => h) (by rfl) (fun wq hq => ?_) (by assumption) ?_
                · go_simp
                simp only [Act.put, List.setIfInBounds_toArray, List.set_cons_zero, List.set_cons_succ]
                refine hs_take (fuel := 7) 3 (some 56) (.int .i64 f) rfl rfl (by kernel_rfl) (by kernel_rfl) (by kernel_rfl) (fun _ _ _ h => h) (by rfl) (fun wq hq => ?_) (by assumption) ?_
                · have p0 := cell_chg hq k1
                  go_simp
                simp only [Act.put, List.setIfInBounds_toArray, List.set_cons_zero, List.set_cons_succ]
                refine hs_take (fuel := 6) 4 (some 57) (.pointer (some ⟨A, f, none⟩)) rfl rfl (by kernel_rfl) (by kernel_rfl) (by kernel_rfl) (fun _ _ _ h => h) (by rfl) (fun wq hq => ?_) (by assumption) ?_
                · go_simp
                simp only [Act.put, List.setIfInBounds_toArray, List.set_cons_zero, List.set_cons_succ]
                refine hs_take (fuel := 5) 5 (some 58) (.slice (some ⟨g, 0, none⟩) 6 cap3) rfl rfl (by kernel_rfl) (by kernel_rfl) (by kernel_rfl) (fun _ _ _ h => h) (by rfl) (fun wq hq => ?_) (by assumption) ?_
                · have p0 := cell_chg hq kA
                  go_simp
                simp only [Act.put, List.setIfInBounds_toArray, List.set_cons_zero, List.set_cons_succ]
                refine hs_take (fuel := 4) 6 (some 59) (.pointer (some ⟨P, 2, none⟩)) rfl rfl (by kernel_rfl) (by kernel_rfl) (by kernel_rfl) (fun _ _ _ h => h) (by rfl) (fun wq hq => ?_) (by assumption) ?_
                · go_simp
                simp only [Act.put, List.setIfInBounds_toArray, List.set_cons_zero, List.set_cons_succ]
                refine hs_take (fuel := 3) 7 (some 60) (.int .i64 p) rfl rfl (by kernel_rfl) (by kernel_rfl) (by kernel_rfl) (fun _ _ _ h => h) (by rfl) (fun wq hq => ?_) (by assumption) ?_
                · have p0 := cell_chg hq k2
                  go_simp
                simp only [Act.put, List.setIfInBounds_toArray, List.set_cons_zero, List.set_cons_succ]
                refine hs_take (fuel := 2) 8 (some 61) (.int .i64 n) rfl rfl (by kernel_rfl) (by kernel_rfl) (by kernel_rfl) (fun _ _ _ h => h) (by rfl) (fun wq hq => ?_) (by assumption) ?_
                · go_simp
                simp only [Act.put, List.setIfInBounds_toArray, List.set_cons_zero, List.set_cons_succ]
                refine hs_take (fuel := 1) 9 (some 62) (.pointer (some ⟨g, p, none⟩)) rfl rfl (by kernel_rfl) (by kernel_rfl) (by kernel_rfl) (fun _ _ _ h => h) (by rfl) (fun wq hq => ?_) (by assumption) ?_
                · go_simp
                simp only [Act.put, List.setIfInBounds_toArray, List.set_cons_zero, List.set_cons_succ]
                refine wpAnyH_ready (fuel := 0) (rs := [10]) (by kernel_rfl) (by simp) (AllReadyH.cons rfl (fun K hK => ?_) AllReadyH.nil)
                have hu4 : w7.drew.cell? ⟨g, p, none⟩ = some (.int .i64 (tat (tofN d n) f p)) := hu3
                have hf4 : w7.drew.frozen? ⟨g, p, none⟩ = false := hfz
                go_simp
                refine hK.out _ _ ?_ (fun hS => ?_)
                · exact Chg.setCell (S := fun b => b = g) (below_chg (bdrew w7) _) (p := ⟨g, p, none⟩) (.inr rfl) _
                refine wpAnyH_done (by kernel_rfl) ?_ _
                have hF := HPut.out.below (bdrew _)
                rw [← HN.out] at hF
                have HF := Lib.hid hF
                clear hF hS0 kA k1 k2 kC hu3 hfz hu4 hf4 cC' cA' y1' y2'
                go_wp2_with fail
                go_roundw
                case rel => exact ⟨n + 1, by omega, by go_num, HF.out⟩
                case measure => simp [intOf]; omega
              · have hqd : decide (qs < s) = false := by simpa using hlt2
                have HN := Lib.hid (HNo2 (by omega))
                clear HYes2 HNo2 hlt2
                have HF := Lib.hid (HR4.out.below hz)
                clear hz y0 y1 y2 y4 cC cA cG
                go_wp2_with fail
                go_roundw
                case rel => exact ⟨n + 1, by omega, by go_num, by rw [HN.out]; exact HF.out⟩
                case measure => simp [intOf]; omega
      · have hni : ¬ (n : Int) < 4 * (d.length : Int) := by omega
        obtain rfl : n = 4 * d.length := by omega
        obtain ⟨cC, -⟩ := one_at HR.out.2.2.1
        obtain ⟨d2, d3⟩ := one_at HR.out.2.2.2.1
        go_wp2_with fail
        have hto := HTO.out
        have hc : Chg (fun b => b = w.heap.size) wo (wo.setCell ⟨w.heap.size, 0, none⟩ (.slice (some ⟨A, 0, none⟩) 8 cap)) := Chg.setCell (S := fun b => b = w.heap.size) (Chg.refl _ wo) (p := ⟨w.heap.size, 0, none⟩) (.inr rfl) _
        have hO := HR.out.1.chg hc (fun b hb _ hs => by have := HR.out.2.2.2.2.1; omega)
        rw [← hto] at hO
        have h1 := (Array.getElem?_eq_some_iff.1 HR.out.2.2.1).1
        have h2 := hc.size
        have hO2 := (hO.wide (lo' := w.heap.size) (by have := HR.out.2.2.2.2.1; omega)).mono (hi' := (wo.setCell ⟨w.heap.size, 0, none⟩ (.slice (some ⟨A, 0, none⟩) 8 cap)).heap.size) (by omega)
        have hB2 := HR.out.2.1.trans (hc.below HR.out.2.1.size (fun i hi he => by omega))
        exact bodyPost_ret (v := .agg #[.slice (some ⟨A, 0, none⟩) 8 cap]) (by simp [results, Try.results26, go_sem, d2]) rfl ⟨_, rfl, hO2, hB2⟩

end Go.Proofs.Ytjmofmdcegefgaa

