/-
  Texts of this claim, laid together: Drf.
-/
import Derived.Test.YtjmofmdcegefgaaQ32
import Derived.Test.YtjmofmdcegefgaaQ33
namespace Go.Proofs.Ytjmofmdcegefgaa
open Go.RowKit
set_option linter.unusedSimpArgs false
set_option linter.unusedVariables false
set_option linter.unnecessarySimpa false
variable {H : Nat}

/-- The state of the draw: boxes T8 (heads), T9 (the table). -/
def BoS (H : Nat) (w : World) (rb q T8 T9 : Nat) (d : List Bk) (v : Value) (h : Hd) (tv : Value) (t : List (List Int)) (wr : World) : Prop :=
  Dr H w rb q wr ∧ (rb < w.heap.size ∧ w.heap.size + 1 < T8 ∧ T8 < T9) ∧ wr.heap[T8]? = some (hbox h) ∧ wr.heap[T9]? = some (.cells #[tv] 26) ∧ wr.heap[w.heap.size]? = some (.cells #[.slice none 0 0] 26) ∧ wr.heap[w.heap.size + 1]? = some (.cells #[.int .i64 0, .int .i64 0, .int .i64 0] 36) ∧
    RD wr (w.heap.size + 2) T8 v d ∧ ∃ lo hi, RT wr lo hi tv t ∧ w.heap.size + 2 ≤ lo ∧ hi ≤ wr.heap.size ∧ (T9 < lo ∨ hi ≤ T9)
theorem BoS.pick {w wr w' : World} {rb q q' T8 T9 : Nat} {d : List Bk} {v tv : Value} {h : Hd} {t : List (List Int)} (hs : BoS H w rb q T8 T9 d v h tv t wr) (c : Chg (· = rb) wr w') (r : RdLe H w' rb q') : BoS H w rb q' T8 T9 d v h tv t w' := by
  obtain ⟨h1, h2, h3, h4, h5, h6, h7, lo, hi, h8, h9, h10, h11⟩ := hs
  exact ⟨h1.pick c r, h2, box_chg h3 c (by omega), box_chg h4 c (by omega), box_chg h5 c (by omega), box_chg h6 c (by omega), h7.chg c (fun k hk _ hs => by omega), lo, hi, h8.chg c (fun k hk _ hs => by omega), h9, Nat.le_trans h10 c.size, h11⟩
theorem BoS.below {w wr w' : World} {rb q T8 T9 : Nat} {d : List Bk} {v tv : Value} {h : Hd} {t : List (List Int)} (hs : BoS H w rb q T8 T9 d v h tv t wr) (b : Below wr.heap.size wr w') : BoS H w rb q T8 T9 d v h tv t w' := by
  obtain ⟨h1, h2, h3, h4, h5, h6, h7, lo, hi, h8, h9, h10, h11⟩ := hs
  exact ⟨h1.below b, h2, box_keep h3 b, box_keep h4 b, box_keep h5 b, box_keep h6 b, h7.below b, lo, hi, h8.below b, h9, Nat.le_trans h10 b.size, h11⟩
theorem BoS.up {w wr : World} {rb q q' T8 T9 : Nat} {d : List Bk} {v tv : Value} {h : Hd} {t : List (List Int)} (hs : BoS H w rb q T8 T9 d v h tv t wr) (hq : q ≤ q') : BoS H w rb q' T8 T9 d v h tv t wr := ⟨hs.1.up hq, hs.2⟩
/-- Another table. -/
theorem BoS.put {w wr : World} {rb q T8 T9 lo2 hi2 : Nat} {d : List Bk} {v tv tv2 : Value} {h : Hd} {t t2 : List (List Int)} (hs : BoS H w rb q T8 T9 d v h tv t wr) (o : RT wr lo2 hi2 tv2 t2) (hlo : T9 < lo2) (hh : hi2 ≤ wr.heap.size) : BoS H w rb q T8 T9 d v h tv2 t2 (wr.setCell ⟨T9, 0, none⟩ tv2) := by
  obtain ⟨h1, h2, h3, h4, h5, h6, h7, -⟩ := hs
  have hc : Chg (fun c => c = T9) wr (wr.setCell ⟨T9, 0, none⟩ tv2) := Chg.setCell (S := fun c => c = T9) (Chg.refl _ _) (p := ⟨T9, 0, none⟩) (.inr rfl) _
  have h4' := heap_setCell_same wr T9 0 _ _ tv2 h4
  exact ⟨h1.own (hc.mono fun k _ hk => by omega), h2, box_chg h3 hc (by omega), by rw [h4']; simp, box_chg h5 hc (by omega), box_chg h6 hc (by omega), h7.chg hc (fun k hk _ hs => by omega), lo2, hi2, o.chg hc (fun k hk _ hs => by omega), by omega, Nat.le_trans hh hc.size, .inl hlo⟩
/-- The results' boxes are laid. -/
theorem bo_end {w W W2 : World} {rb q T8 T9 lo2 hi2 : Nat} {d : List Bk} {v tv tv2 : Value} {h : Hd} {t t2 : List (List Int)} (hs : BoS H w rb q T8 T9 d v h tv t W) (o : RT W lo2 hi2 tv2 t2) (hlo : w.heap.size + 2 ≤ lo2) (hh : hi2 ≤ W.heap.size) (hc : Chg (fun c => c = w.heap.size ∨ c = w.heap.size + 1) W W2) :
    RD W2 w.heap.size W2.heap.size v d ∧ RT W2 w.heap.size W2.heap.size tv2 t2 ∧ Dr H w rb q W2 := by
  obtain ⟨h1, h2, h3, h4, h5, h6, h7, -⟩ := hs
  have hz := (Array.getElem?_eq_some_iff.1 h3).1
  have hz2 := hc.size
  exact ⟨(h7.chg hc (fun k hk _ hs => by omega)).wide (by omega) (by omega), (o.chg hc (fun k hk _ hs => by omega)).wide (by omega) (by omega), h1.own (hc.mono fun k _ hk => by omega)⟩

/-- Some device, table, heads. -/
def BothR (H rb q : Nat) (w : World) (e : Ending) (w' : World) : Prop := ∃ (v : Value) (d : List Bk) (tv : Value) (t : List (List Int)) (h : Hd), e = .returned (.tuple #[v, .agg #[tv], hdv h]) ∧ RD w' w.heap.size w'.heap.size v d ∧ d.length ≤ 13 ∧ (∀ b ∈ d, b.pages.length ≤ 4) ∧ RT w' w.heap.size w'.heap.size tv t ∧ HdI h ∧ Dr H w rb (q + 300) w'

set_option maxHeartbeats 8000000 in
set_option maxRecDepth 8000 in
theorem both_any (w : World) (rb q : Nat) (m : Int) (hr : RdLe H w rb q) (hq : q ≤ 500) (hm1 : 0 ≤ m) (hm : m ≤ 1000) : Calls Try.prog 47 #[.pointer (some ⟨rb, 0, none⟩), .int .i64 m] w (BothR H rb q w) := by
  have D := Lib.hid ((Dr.start hr).below (two_below w (.cells #[.slice none 0 0] 26) (.cells #[.int .i64 0, .int .i64 0, .int .i64 0] 36)))
  have X5 := Lib.hid (box_keep (heap_alloc_new w (.cells #[.slice none 0 0] 26)) (balloc _ (.cells #[.int .i64 0, .int .i64 0, .int .i64 0] 36)))
  have e1 : (w.alloc (.cells #[.slice none 0 0] 26)).heap.size = w.heap.size + 1 := by simp
  have x6 := heap_alloc_new (w.alloc (.cells #[.slice none 0 0] 26)) (.cells #[.int .i64 0, .int .i64 0, .int .i64 0] 36)
  rw [e1] at x6
  have X6 := Lib.hid x6
  have hrbw := hr.lt
  clear hr e1 x6
  go_enter Try.func47, Try.ntmps47
  go_wp2_with fail
  refine (heads_any _ rb q m D.out.1 (by omega) (by omega) (by omega)).mono ?_
  rintro e w1 ⟨v, d, ⟨A, B, C⟩, rfl, hrd, hl, hp, hi, hdr⟩
  obtain ⟨a, cap, b, off, rfl, -⟩ := hrd.open
  have HP := Lib.hid hp
  have HI := Lib.hid hi
  replace X5 := Lib.hid (D.out.box (Nat.le_refl _) hdr.2.1 X5.out)
  replace X6 := Lib.hid (D.out.box (Nat.le_succ _) hdr.2.1 X6.out)
  replace D := Lib.hid (D.out.pick hdr.2.1 hdr.1)
  have hz1 : w.heap.size + 1 < w1.heap.size := (Array.getElem?_eq_some_iff.1 X6.out).1
  have HRD := Lib.hid (hrd.wide (lo' := w.heap.size + 2) (by simp) (Nat.le_refl _))
  unfold hdv
  simp only
  have HB1 := Lib.hid (balloc w1 (.cells #[.int .i64 A, .int .i64 B, .int .i64 C] 36))
  have X8 := Lib.hid (heap_alloc_new w1 (.cells #[.int .i64 A, .int .i64 B, .int .i64 C] 36))
  clear hrd hp hi hdr
  go_wp2_with fail
  refine (specTof_any _ d _ _ _ (HRD.out.below HB1.out)).mono ?_
  rintro e w3 ⟨v3, rfl, o3, b3⟩
  generalize tof d = t0 at o3
  obtain ⟨a3, cap3, b3', off3, rfl, -⟩ := o3.rt.open
  have hz3 : w1.heap.size < w3.heap.size := Nat.lt_of_lt_of_le (Array.getElem?_eq_some_iff.1 X8.out).1 b3.size
  have c3 := bup2 (bup2 HB1.out b3) (balloc w3 (.cells #[.slice a3 t0.length cap3] 26))
  have HS : Hid (BoS H w rb (q + 203) w1.heap.size w3.heap.size d (.slice a d.length cap) ⟨A, B, C⟩ (.slice a3 t0.length cap3) t0 (w3.alloc (.cells #[.slice a3 t0.length cap3] 26))) :=
    Lib.hid ⟨D.out.below c3, ⟨hrbw, hz1, hz3⟩, box_keep X8.out (bup2 b3 (balloc w3 _)), heap_alloc_new w3 _, box_keep X5.out c3, box_keep X6.out c3, HRD.out.below c3, _, _, o3.rt.below (balloc w3 _), by simp; omega, (balloc w3 _).size, .inr (Nat.le_refl _)⟩
  clear o3 b3 c3 D X5 X6 X8 HRD HB1
  obtain ⟨T8, hT8⟩ : ∃ T, T = w1.heap.size := ⟨_, rfl⟩
  obtain ⟨T9, hT9⟩ : ∃ T, T = w3.heap.size := ⟨_, rfl⟩
  rw [← hT8, ← hT9] at HS
  have HT8 := Lib.hid hT8.symm
  have HT9 := Lib.hid hT9.symm
  clear hT8 hT9 hz1 hz3
  go_wp2_with fail
  refine (pick_le _ rb _ 3 HS.out.1.1 (by omega) (by omega) (by omega)).mono ?_
  rintro e w4 ⟨x, rfl, x0, x1, r1, c1, -⟩
  replace HS := Lib.hid (HS.out.pick c1 r1)
  obtain ⟨kn, rfl⟩ := Int.eq_ofNat_of_zero_le x0
  rw [HT8.out, HT9.out]
  clear r1 c1
  go_wp2_with fail
  go_loopw [10] (fun i wr => ∃ (j : Nat) (tv : Value) (t : List (List Int)), j ≤ 2 ∧ i = .int .i64 j ∧ BoS H w rb (q + 204 + 2 * (2 - j)) T8 T9 d (.slice a d.length cap) ⟨A, B, C⟩ tv t wr) (fun i _ => (intOf i).toNat)
  case atStart => exact ⟨kn, _, _, by omega, rfl, HS.out.up (by omega)⟩
  case round =>
    obtain ⟨j, tv, t, hj, rfl, hR⟩ := hrel
    obtain ⟨w5, rfl⟩ : ∃ w5 : World, w5 = wr := ⟨_, rfl⟩
    obtain ⟨lo5, hi5, hrt5, -⟩ := hR.2.2.2.2.2.2.2
    obtain ⟨a9, cap9, b9, off9, rfl, -⟩ := hrt5.open
    have HRT := Lib.hid hrt5
    have HR := Lib.hid hR
    clear hrt5 hR HS
    by_cases hj0 : 0 < j
    · have hji : decide (0 < (j : Int)) = true := by simpa using hj0
      have t0 := (one_at HR.out.2.2.2.1).1
      go_wp2_with fail
      refine (specTbv_any _ t _ _ _ HRT.out).mono ?_
      rintro e w6 ⟨rfl, b6⟩
      replace HR := Lib.hid (HR.out.below b6)
      clear b6 t0 HRT
      cases htv : tabVal t
      · skip
        go_wp2_with fail
        refine (odd_le _ rb _ m HR.out.1.1 (by omega) (by omega) (by omega)).mono ?_
        rintro e w7 ⟨bb, rfl, r1, c1, -⟩
        replace HR := Lib.hid (HR.out.pick c1 r1)
        clear r1 c1
        cases bb
        · obtain ⟨lo6, hi6, hrt6, -, -, -⟩ := HR.out.2.2.2.2.2.2.2
          have HRT := Lib.hid hrt6
          have t0 := (one_at HR.out.2.2.2.1).1
          clear hrt6
          go_wp2_with fail
          refine (specTbv_any _ t _ _ _ HRT.out).mono ?_
          rintro e w8 ⟨rfl, b8⟩
          replace HR := Lib.hid (HR.out.below b8)
          clear b8 t0 HRT
          cases htv2 : tabVal t
          · skip
            go_wp2_with fail
            obtain ⟨⟨t0, t1, t2⟩, -⟩ := three_at (show w8.heap[T8]? = some (.cells #[.int .i64 A, .int .i64 B, .int .i64 C] 36) from HR.out.2.2.1)
            have hT8 := HR.out.2.1
            have k0 := And.intro t0 (show ¬ (T8 = rb ∨ T8 = w.heap.size ∨ T8 = w.heap.size + 1) by omega)
            have k1 := And.intro t1 (show ¬ (T8 = rb ∨ T8 = w.heap.size ∨ T8 = w.heap.size + 1) by omega)
            have k2 := And.intro t2 (show ¬ (T8 = rb ∨ T8 = w.heap.size ∨ T8 = w.heap.size + 1) by omega)
            clear t0 t1 t2
            have hzW : w.heap.size + 2 ≤ w8.heap.size := by have := (Array.getElem?_eq_some_iff.1 HR.out.2.2.1).1; omega
            have rd0 : RdLe H w8.drew rb _ := HR.out.1.1.kept (bdrew w8)
            refine region_held_n 7 (S := fun w' => Chg (fun c => c = rb ∨ c = w.heap.size ∨ c = w.heap.size + 1) w8 w') (by kernel_rfl) (by kernel_rfl) (below_chg (bdrew _) _) (fun hS0 => ?_)
            refine hs_take (fuel := 6) 0 (some 43) (Value.slice a d.length cap) rfl rfl (by kernel_rfl) (by kernel_rfl) (by kernel_rfl) (fun _ _ _ h => h) (by rfl) (fun wq hq => ?_) (by assumption) ?_
            · go_simp
            simp only [Act.put, List.setIfInBounds_toArray, List.set_cons_zero, List.set_cons_succ]
            refine hs_take (fuel := 5) 1 (some 44) (.pointer (some ⟨rb, 0, none⟩)) rfl rfl (by kernel_rfl) (by kernel_rfl) (by kernel_rfl) (fun _ _ _ h => h) (by rfl) (fun wq hq => ?_) (by assumption) ?_
            · go_simp
            simp only [Act.put, List.setIfInBounds_toArray, List.set_cons_zero, List.set_cons_succ]
            refine hs_take (fuel := 4) 3 (some 46) (Value.agg #[.int .i64 A, .int .i64 B, .int .i64 C]) rfl rfl (by kernel_rfl) (by kernel_rfl) (by kernel_rfl) (fun _ _ _ h => h) (by rfl) (fun wq hq => ?_) (by assumption) ?_
            · have p0 := cell_chg hq k0
              have p1 := cell_chg hq k1
              have p2 := cell_chg hq k2
              go_simp
            simp only [Act.put, List.setIfInBounds_toArray, List.set_cons_zero, List.set_cons_succ]
            refine wpAnyH_ready (fuel := 3) (rs := [2]) (by kernel_rfl) (by simp) (AllReadyH.cons rfl (fun K0 hK0 => ?_) AllReadyH.nil)
            go_simp
            refine (l20Table_any _ rb _ 3 rd0 (by omega) (by omega) (by omega)).mono ?_
            rintro e w9 ⟨v9, t9, rfl, hrt, -, hr9, cc9⟩
            obtain ⟨a9, cap9, b9, off9, rfl, -⟩ := hrt.open
            have HS9 := Lib.hid ((HR.out.below (bdrew w8)).pick cc9 hr9)
            have hS9 : Chg (fun c => c = rb ∨ c = w.heap.size ∨ c = w.heap.size + 1) w8 w9 := hS0.trans (cc9.mono fun c _ hc => .inl hc)
            have HT9 := Lib.hid hrt
            refine hK0.out _ _ hS9 (fun _ => ?_)
            clear hrt hr9 cc9 rd0 k0 k1 k2
            refine hs_take (fuel := 2) 4 (some 4) (Value.slice a d.length cap) rfl rfl (by kernel_rfl) (by kernel_rfl) (by kernel_rfl) (fun _ _ _ h => h) (by rfl) (fun wq hq => ?_) (by assumption) ?_
            · go_simp
            simp only [Act.put, List.setIfInBounds_toArray, List.set_cons_zero, List.set_cons_succ]
            obtain ⟨s0, s1⟩ := one_at HS9.out.2.2.2.2.1
            obtain ⟨⟨r0, r1, r2⟩, r3, r4, r5⟩ := three_at HS9.out.2.2.2.2.2.1
            refine wpAnyH_ready (fuel := 1) (rs := [5]) (by kernel_rfl) (by simp) (AllReadyH.cons rfl (fun K1 hK1 => ?_) AllReadyH.nil)
            go_simp
            refine hK1.out _ _ ?_ (fun hS => ?_)
            · exact Chg.setCell (S := fun c => c = rb ∨ c = w.heap.size ∨ c = w.heap.size + 1) (hS9) (p := ⟨w.heap.size, 0, none⟩) (.inr (.inr (.inl rfl))) _
            refine wpAnyH_ready (fuel := 0) (rs := [6]) (by kernel_rfl) (by simp) (AllReadyH.cons rfl (fun K2 hK2 => ?_) AllReadyH.nil)
            go_simp
            refine hK2.out _ _ ?_ (fun hS => ?_)
            · exact Chg.setCell (S := fun c => c = rb ∨ c = w.heap.size ∨ c = w.heap.size + 1) (Chg.setCell (S := fun c => c = rb ∨ c = w.heap.size ∨ c = w.heap.size + 1) (Chg.setCell (S := fun c => c = rb ∨ c = w.heap.size ∨ c = w.heap.size + 1) (Chg.setCell (S := fun c => c = rb ∨ c = w.heap.size ∨ c = w.heap.size + 1) (hS9) (p := ⟨w.heap.size, 0, none⟩) (.inr (.inr (.inl rfl))) _) (p := ⟨w.heap.size + 1, 0, none⟩) (.inr (.inr (.inr rfl))) _) (p := ⟨w.heap.size + 1, 1, none⟩) (.inr (.inr (.inr rfl))) _) (p := ⟨w.heap.size + 1, 2, none⟩) (.inr (.inr (.inr rfl))) _
            refine wpAnyH_done (by kernel_rfl) ?_ _
            have hc : Chg (fun c => c = w.heap.size ∨ c = w.heap.size + 1) (w9) ((((w9.setCell ⟨w.heap.size, 0, none⟩ (Value.slice a9 t9.length cap9)).setCell ⟨w.heap.size + 1, 0, none⟩ (.int .i64 A)).setCell ⟨w.heap.size + 1, 1, none⟩ (.int .i64 B)).setCell ⟨w.heap.size + 1, 2, none⟩ (.int .i64 C)) := Chg.setCell (S := fun c => c = w.heap.size ∨ c = w.heap.size + 1) (Chg.setCell (S := fun c => c = w.heap.size ∨ c = w.heap.size + 1) (Chg.setCell (S := fun c => c = w.heap.size ∨ c = w.heap.size + 1) (Chg.setCell (S := fun c => c = w.heap.size ∨ c = w.heap.size + 1) (Chg.refl _ _) (p := ⟨w.heap.size, 0, none⟩) (.inr (.inl rfl)) _) (p := ⟨w.heap.size + 1, 0, none⟩) (.inr (.inr rfl)) _) (p := ⟨w.heap.size + 1, 1, none⟩) (.inr (.inr rfl)) _) (p := ⟨w.heap.size + 1, 2, none⟩) (.inr (.inr rfl)) _
            have HE := Lib.hid (bo_end HS9.out HT9.out hzW (Nat.le_refl _) hc)
            clear hc
            go_wp2_with fail
            exact bodyPost_ret (v := .tuple #[Value.slice a d.length cap, .agg #[Value.slice a9 t9.length cap9], Value.agg #[.int .i64 A, .int .i64 B, .int .i64 C]]) (by simp [results, Try.results47, go_sem, r0, r1, r2, s0]) rfl ⟨_, d, _, _, ⟨A, B, C⟩, rfl, HE.out.1, hl, HP.out, HE.out.2.1, HI.out, HE.out.2.2.up (by omega)⟩
          · skip
            go_wp2_with fail
            obtain ⟨⟨t0, t1, t2⟩, -⟩ := three_at (show w8.heap[T8]? = some (.cells #[.int .i64 A, .int .i64 B, .int .i64 C] 36) from HR.out.2.2.1)
            have t3 := (one_at HR.out.2.2.2.1).1
            have hT8 := HR.out.2.1
            have k0 := And.intro t0 (show ¬ (T8 = rb ∨ T8 = w.heap.size ∨ T8 = w.heap.size + 1) by omega)
            have k1 := And.intro t1 (show ¬ (T8 = rb ∨ T8 = w.heap.size ∨ T8 = w.heap.size + 1) by omega)
            have k2 := And.intro t2 (show ¬ (T8 = rb ∨ T8 = w.heap.size ∨ T8 = w.heap.size + 1) by omega)
            have k3 := And.intro t3 (show ¬ (T9 = rb ∨ T9 = w.heap.size ∨ T9 = w.heap.size + 1) by omega)
            clear t0 t1 t2 t3
            obtain ⟨lo9, hi9, hrt, hlo9, hhi9, -⟩ := HR.out.2.2.2.2.2.2.2
            have HT9 := Lib.hid (hrt.below (bdrew w8))
            have HS9 := Lib.hid (HR.out.below (bdrew w8))
            clear hrt
            refine region_held_n 6 (S := fun w' => Chg (fun c => c = rb ∨ c = w.heap.size ∨ c = w.heap.size + 1) w8 w') (by kernel_rfl) (by kernel_rfl) (below_chg (bdrew _) _) (fun hS0 => ?_)
            refine hs_take (fuel := 5) 0 (some 47) (Value.slice a d.length cap) rfl rfl (by kernel_rfl) (by kernel_rfl) (by kernel_rfl) (fun _ _ _ h => h) (by rfl) (fun wq hq => ?_) (by assumption) ?_
            · go_simp
            simp only [Act.put, List.setIfInBounds_toArray, List.set_cons_zero, List.set_cons_succ]
            refine hs_take (fuel := 4) 1 (some 48) (Value.agg #[Value.slice a9 t.length cap9]) rfl rfl (by kernel_rfl) (by kernel_rfl) (by kernel_rfl) (fun _ _ _ h => h) (by rfl) (fun wq hq => ?_) (by assumption) ?_
            · have p0 := cell_chg hq k3
              go_simp
            simp only [Act.put, List.setIfInBounds_toArray, List.set_cons_zero, List.set_cons_succ]
            refine hs_take (fuel := 3) 2 (some 49) (Value.agg #[.int .i64 A, .int .i64 B, .int .i64 C]) rfl rfl (by kernel_rfl) (by kernel_rfl) (by kernel_rfl) (fun _ _ _ h => h) (by rfl) (fun wq hq => ?_) (by assumption) ?_
            · have p0 := cell_chg hq k0
              have p1 := cell_chg hq k1
              have p2 := cell_chg hq k2
              go_simp
            simp only [Act.put, List.setIfInBounds_toArray, List.set_cons_zero, List.set_cons_succ]
            refine hs_take (fuel := 2) 3 (some 4) (Value.slice a d.length cap) rfl rfl (by kernel_rfl) (by kernel_rfl) (by kernel_rfl) (fun _ _ _ h => h) (by rfl) (fun wq hq => ?_) (by assumption) ?_
            · go_simp
            simp only [Act.put, List.setIfInBounds_toArray, List.set_cons_zero, List.set_cons_succ]
            obtain ⟨s0, s1⟩ := one_at HR.out.2.2.2.2.1
            obtain ⟨⟨r0, r1, r2⟩, r3, r4, r5⟩ := three_at HR.out.2.2.2.2.2.1
            have s0' := cell_later (bdrew w8) s0
            have r0' := cell_later (bdrew w8) r0
            have r1' := cell_later (bdrew w8) r1
            have r2' := cell_later (bdrew w8) r2
            refine wpAnyH_ready (fuel := 1) (rs := [4]) (by kernel_rfl) (by simp) (AllReadyH.cons rfl (fun K1 hK1 => ?_) AllReadyH.nil)
            go_simp
            refine hK1.out _ _ ?_ (fun hS => ?_)
            · exact Chg.setCell (S := fun c => c = rb ∨ c = w.heap.size ∨ c = w.heap.size + 1) (hS0) (p := ⟨w.heap.size, 0, none⟩) (.inr (.inr (.inl rfl))) _
            refine wpAnyH_ready (fuel := 0) (rs := [5]) (by kernel_rfl) (by simp) (AllReadyH.cons rfl (fun K2 hK2 => ?_) AllReadyH.nil)
            go_simp
            refine hK2.out _ _ ?_ (fun hS => ?_)
            · exact Chg.setCell (S := fun c => c = rb ∨ c = w.heap.size ∨ c = w.heap.size + 1) (Chg.setCell (S := fun c => c = rb ∨ c = w.heap.size ∨ c = w.heap.size + 1) (Chg.setCell (S := fun c => c = rb ∨ c = w.heap.size ∨ c = w.heap.size + 1) (Chg.setCell (S := fun c => c = rb ∨ c = w.heap.size ∨ c = w.heap.size + 1) (hS0) (p := ⟨w.heap.size, 0, none⟩) (.inr (.inr (.inl rfl))) _) (p := ⟨w.heap.size + 1, 0, none⟩) (.inr (.inr (.inr rfl))) _) (p := ⟨w.heap.size + 1, 1, none⟩) (.inr (.inr (.inr rfl))) _) (p := ⟨w.heap.size + 1, 2, none⟩) (.inr (.inr (.inr rfl))) _
            refine wpAnyH_done (by kernel_rfl) ?_ _
            have hc : Chg (fun c => c = w.heap.size ∨ c = w.heap.size + 1) (w8.drew) ((((w8.drew.setCell ⟨w.heap.size, 0, none⟩ (Value.slice a9 t.length cap9)).setCell ⟨w.heap.size + 1, 0, none⟩ (.int .i64 A)).setCell ⟨w.heap.size + 1, 1, none⟩ (.int .i64 B)).setCell ⟨w.heap.size + 1, 2, none⟩ (.int .i64 C)) := Chg.setCell (S := fun c => c = w.heap.size ∨ c = w.heap.size + 1) (Chg.setCell (S := fun c => c = w.heap.size ∨ c = w.heap.size + 1) (Chg.setCell (S := fun c => c = w.heap.size ∨ c = w.heap.size + 1) (Chg.setCell (S := fun c => c = w.heap.size ∨ c = w.heap.size + 1) (Chg.refl _ _) (p := ⟨w.heap.size, 0, none⟩) (.inr (.inl rfl)) _) (p := ⟨w.heap.size + 1, 0, none⟩) (.inr (.inr rfl)) _) (p := ⟨w.heap.size + 1, 1, none⟩) (.inr (.inr rfl)) _) (p := ⟨w.heap.size + 1, 2, none⟩) (.inr (.inr rfl)) _
            have HE := Lib.hid (bo_end HS9.out HT9.out hlo9 hhi9 hc)
            clear hc
            go_wp2_with fail
            exact bodyPost_ret (v := .tuple #[Value.slice a d.length cap, .agg #[Value.slice a9 t.length cap9], Value.agg #[.int .i64 A, .int .i64 B, .int .i64 C]]) (by simp [results, Try.results47, go_sem, r0, r1, r2, s0]) rfl ⟨_, d, _, _, ⟨A, B, C⟩, rfl, HE.out.1, hl, HP.out, HE.out.2.1, HI.out, HE.out.2.2.up (by omega)⟩
        · skip
          go_wp2_with fail
          obtain ⟨⟨t0, t1, t2⟩, -⟩ := three_at (show w7.heap[T8]? = some (.cells #[.int .i64 A, .int .i64 B, .int .i64 C] 36) from HR.out.2.2.1)
          have hT8 := HR.out.2.1
          have k0 := And.intro t0 (show ¬ (T8 = rb ∨ T8 = w.heap.size ∨ T8 = w.heap.size + 1) by omega)
          have k1 := And.intro t1 (show ¬ (T8 = rb ∨ T8 = w.heap.size ∨ T8 = w.heap.size + 1) by omega)
          have k2 := And.intro t2 (show ¬ (T8 = rb ∨ T8 = w.heap.size ∨ T8 = w.heap.size + 1) by omega)
          clear t0 t1 t2
          have hzW : w.heap.size + 2 ≤ w7.heap.size := by have := (Array.getElem?_eq_some_iff.1 HR.out.2.2.1).1; omega
          have rd0 : RdLe H w7.drew rb _ := HR.out.1.1.kept (bdrew w7)
          refine region_held_n 7 (S := fun w' => Chg (fun c => c = rb ∨ c = w.heap.size ∨ c = w.heap.size + 1) w7 w') (by kernel_rfl) (by kernel_rfl) (below_chg (bdrew _) _) (fun hS0 => ?_)
          refine hs_take (fuel := 6) 0 (some 43) (Value.slice a d.length cap) rfl rfl (by kernel_rfl) (by kernel_rfl) (by kernel_rfl) (fun _ _ _ h => h) (by rfl) (fun wq hq => ?_) (by assumption) ?_
          · go_simp
          simp only [Act.put, List.setIfInBounds_toArray, List.set_cons_zero, List.set_cons_succ]
          refine hs_take (fuel := 5) 1 (some 44) (.pointer (some ⟨rb, 0, none⟩)) rfl rfl (by kernel_rfl) (by kernel_rfl) (by kernel_rfl) (fun _ _ _ h => h) (by rfl) (fun wq hq => ?_) (by assumption) ?_
          · go_simp
          simp only [Act.put, List.setIfInBounds_toArray, List.set_cons_zero, List.set_cons_succ]
          refine hs_take (fuel := 4) 3 (some 46) (Value.agg #[.int .i64 A, .int .i64 B, .int .i64 C]) rfl rfl (by kernel_rfl) (by kernel_rfl) (by kernel_rfl) (fun _ _ _ h => h) (by rfl) (fun wq hq => ?_) (by assumption) ?_
          · have p0 := cell_chg hq k0
            have p1 := cell_chg hq k1
            have p2 := cell_chg hq k2
            go_simp
          simp only [Act.put, List.setIfInBounds_toArray, List.set_cons_zero, List.set_cons_succ]
          refine wpAnyH_ready (fuel := 3) (rs := [2]) (by kernel_rfl) (by simp) (AllReadyH.cons rfl (fun K0 hK0 => ?_) AllReadyH.nil)
          go_simp
          refine (l20Table_any _ rb _ 3 rd0 (by omega) (by omega) (by omega)).mono ?_
          rintro e w9 ⟨v9, t9, rfl, hrt, -, hr9, cc9⟩
          obtain ⟨a9, cap9, b9, off9, rfl, -⟩ := hrt.open
          have HS9 := Lib.hid ((HR.out.below (bdrew w7)).pick cc9 hr9)
          have hS9 : Chg (fun c => c = rb ∨ c = w.heap.size ∨ c = w.heap.size + 1) w7 w9 := hS0.trans (cc9.mono fun c _ hc => .inl hc)
          have HT9 := Lib.hid hrt
          refine hK0.out _ _ hS9 (fun _ => ?_)
          clear hrt hr9 cc9 rd0 k0 k1 k2
          refine hs_take (fuel := 2) 4 (some 4) (Value.slice a d.length cap) rfl rfl (by kernel_rfl) (by kernel_rfl) (by kernel_rfl) (fun _ _ _ h => h) (by rfl) (fun wq hq => ?_) (by assumption) ?_
          · go_simp
          simp only [Act.put, List.setIfInBounds_toArray, List.set_cons_zero, List.set_cons_succ]
          obtain ⟨s0, s1⟩ := one_at HS9.out.2.2.2.2.1
          obtain ⟨⟨r0, r1, r2⟩, r3, r4, r5⟩ := three_at HS9.out.2.2.2.2.2.1
          refine wpAnyH_ready (fuel := 1) (rs := [5]) (by kernel_rfl) (by simp) (AllReadyH.cons rfl (fun K1 hK1 => ?_) AllReadyH.nil)
          go_simp
          refine hK1.out _ _ ?_ (fun hS => ?_)
          · exact Chg.setCell (S := fun c => c = rb ∨ c = w.heap.size ∨ c = w.heap.size + 1) (hS9) (p := ⟨w.heap.size, 0, none⟩) (.inr (.inr (.inl rfl))) _
          refine wpAnyH_ready (fuel := 0) (rs := [6]) (by kernel_rfl) (by simp) (AllReadyH.cons rfl (fun K2 hK2 => ?_) AllReadyH.nil)
          go_simp
          refine hK2.out _ _ ?_ (fun hS => ?_)
          · exact Chg.setCell (S := fun c => c = rb ∨ c = w.heap.size ∨ c = w.heap.size + 1) (Chg.setCell (S := fun c => c = rb ∨ c = w.heap.size ∨ c = w.heap.size + 1) (Chg.setCell (S := fun c => c = rb ∨ c = w.heap.size ∨ c = w.heap.size + 1) (Chg.setCell (S := fun c => c = rb ∨ c = w.heap.size ∨ c = w.heap.size + 1) (hS9) (p := ⟨w.heap.size, 0, none⟩) (.inr (.inr (.inl rfl))) _) (p := ⟨w.heap.size + 1, 0, none⟩) (.inr (.inr (.inr rfl))) _) (p := ⟨w.heap.size + 1, 1, none⟩) (.inr (.inr (.inr rfl))) _) (p := ⟨w.heap.size + 1, 2, none⟩) (.inr (.inr (.inr rfl))) _
          refine wpAnyH_done (by kernel_rfl) ?_ _
          have hc : Chg (fun c => c = w.heap.size ∨ c = w.heap.size + 1) (w9) ((((w9.setCell ⟨w.heap.size, 0, none⟩ (Value.slice a9 t9.length cap9)).setCell ⟨w.heap.size + 1, 0, none⟩ (.int .i64 A)).setCell ⟨w.heap.size + 1, 1, none⟩ (.int .i64 B)).setCell ⟨w.heap.size + 1, 2, none⟩ (.int .i64 C)) := Chg.setCell (S := fun c => c = w.heap.size ∨ c = w.heap.size + 1) (Chg.setCell (S := fun c => c = w.heap.size ∨ c = w.heap.size + 1) (Chg.setCell (S := fun c => c = w.heap.size ∨ c = w.heap.size + 1) (Chg.setCell (S := fun c => c = w.heap.size ∨ c = w.heap.size + 1) (Chg.refl _ _) (p := ⟨w.heap.size, 0, none⟩) (.inr (.inl rfl)) _) (p := ⟨w.heap.size + 1, 0, none⟩) (.inr (.inr rfl)) _) (p := ⟨w.heap.size + 1, 1, none⟩) (.inr (.inr rfl)) _) (p := ⟨w.heap.size + 1, 2, none⟩) (.inr (.inr rfl)) _
          have HE := Lib.hid (bo_end HS9.out HT9.out hzW (Nat.le_refl _) hc)
          clear hc
          go_wp2_with fail
          exact bodyPost_ret (v := .tuple #[Value.slice a d.length cap, .agg #[Value.slice a9 t9.length cap9], Value.agg #[.int .i64 A, .int .i64 B, .int .i64 C]]) (by simp [results, Try.results47, go_sem, r0, r1, r2, s0]) rfl ⟨_, d, _, _, ⟨A, B, C⟩, rfl, HE.out.1, hl, HP.out, HE.out.2.1, HI.out, HE.out.2.2.up (by omega)⟩
      · skip
        go_wp2_with fail
        have hT8 := HR.out.2.1
        have hzT : T9 < w6.heap.size := (Array.getElem?_eq_some_iff.1 HR.out.2.2.2.1).1
        have hrb6 : rb < w6.heap.size := by omega
        refine region_held_n 7 (S := fun w' => Chg (fun c => c = rb ∨ c = T9) w6 w') (by kernel_rfl) (by kernel_rfl) (below_chg (bdrew _) _) (fun hS0 => ?_)
        have HR0 := Lib.hid (HR.out.below (bdrew w6))
        refine hs_take (fuel := 6) 1 (some 30) (.pointer (some ⟨rb, 0, none⟩)) rfl rfl (by kernel_rfl) (by kernel_rfl) (by kernel_rfl) (fun _ _ _ h => h) (by rfl) (fun wq hq => ?_) (by assumption) ?_
        · go_simp
        simp only [Act.put, List.setIfInBounds_toArray, List.set_cons_zero, List.set_cons_succ]
        refine hs_take (fuel := 5) 3 (some 32) (.pointer (some ⟨rb, 0, none⟩)) rfl rfl (by kernel_rfl) (by kernel_rfl) (by kernel_rfl) (fun _ _ _ h => h) (by rfl) (fun wq hq => ?_) (by assumption) ?_
        · go_simp
        simp only [Act.put, List.setIfInBounds_toArray, List.set_cons_zero, List.set_cons_succ]
        refine wpAnyH_ready (fuel := 4) (rs := [0, 2]) (by kernel_rfl) (by simp) (AllReadyH.cons rfl (fun K11 hK11 => ?_) (AllReadyH.cons rfl (fun K11 hK11 => ?_) AllReadyH.nil))
        · have t0 := (one_at HR0.out.2.2.2.1).1
          go_simp
          refine hK11.out _ _ hS0 (fun _ => ?_)
          clear t0
          refine wpAnyH_ready (fuel := 3) (rs := [2]) (by kernel_rfl) (by simp) (AllReadyH.cons rfl (fun K13 hK13 => ?_) AllReadyH.nil)
          go_simp
          refine (pick_le _ rb _ 4 HR0.out.1.1 (by omega) (by omega) (by omega)).mono ?_
          rintro e w24 ⟨x, rfl, x0, x1, rd, cc, -⟩
          have HS24 := Lib.hid (HR0.out.pick cc rd)
          have hS24 : Chg (fun c => c = rb ∨ c = T9) w6 w24 := hS0.trans (cc.mono fun c _ hc => .inl hc)
          refine hK13.out _ _ hS24 (fun _ => ?_)
          clear rd cc
          refine wpAnyH_ready (fuel := 2) (rs := [4]) (by kernel_rfl) (by simp) (AllReadyH.cons rfl (fun K15 hK15 => ?_) AllReadyH.nil)
          go_simp
          refine (pick_le _ rb _ 3 HS24.out.1.1 (by omega) (by omega) (by omega)).mono ?_
          rintro e w26 ⟨y, rfl, y0, y1, rd, cc, -⟩
          have HS26 := Lib.hid (HS24.out.pick cc rd)
          have hS26 : Chg (fun c => c = rb ∨ c = T9) w6 w26 := hS24.trans (cc.mono fun c _ hc => .inl hc)
          refine hK15.out _ _ hS26 (fun _ => ?_)
          clear rd cc
          refine wpAnyH_ready (fuel := 1) (rs := [5]) (by kernel_rfl) (by simp) (AllReadyH.cons rfl (fun K1 hK1 => ?_) AllReadyH.nil)
          go_simp
          obtain ⟨lo8, hi8, hrt8, hlo8, -, -⟩ := HS26.out.2.2.2.2.2.2.2
          have hz8 : T9 < w26.heap.size := (Array.getElem?_eq_some_iff.1 HS26.out.2.2.2.1).1
          refine (specCut_any _ t _ _ _ _ _ hrt8).mono ?_
          rintro e w8 ⟨v8, rfl, o8, b8⟩
          generalize tcut t x y = t8 at o8
          obtain ⟨a8, cap8, b8', off8, rfl, -⟩ := o8.rt.open
          have HS8 := Lib.hid (HS26.out.below b8)
          have hS8 : Chg (fun c => c = rb ∨ c = T9) w6 w8 := hS26.trans (below_chg b8 _)
          have HP8 := Lib.hid (HS8.out.put o8.rt hz8 (Nat.le_refl _))
          obtain ⟨s0, s1⟩ := one_at HS8.out.2.2.2.1
          refine hK1.out _ _ hS8 (fun _ => ?_)
          refine wpAnyH_ready (fuel := 0) (rs := [6]) (by kernel_rfl) (by simp) (AllReadyH.cons rfl (fun K2 hK2 => ?_) AllReadyH.nil)
          go_simp
          refine hK2.out _ _ ?_ (fun hS => ?_)
          · exact Chg.setCell (S := fun c => c = rb ∨ c = T9) hS8 (p := ⟨T9, 0, none⟩) (.inr (.inr rfl)) _
          refine wpAnyH_done (by kernel_rfl) ?_ _
          clear hrt8 o8 b8 s0 s1
          obtain ⟨jn, rfl⟩ : ∃ jn, j = jn + 1 := ⟨j - 1, by omega⟩
          go_wp2_with fail
          go_roundw
          case rel => exact ⟨jn, _, t8, by omega, by go_num, HP8.out.up (by omega)⟩
          case measure => simp [intOf]
        · go_simp
          refine (pick_le _ rb _ 4 HR0.out.1.1 (by omega) (by omega) (by omega)).mono ?_
          rintro e w27 ⟨x, rfl, x0, x1, rd, cc, -⟩
          have HS27 := Lib.hid (HR0.out.pick cc rd)
          have hS27 : Chg (fun c => c = rb ∨ c = T9) w6 w27 := hS0.trans (cc.mono fun c _ hc => .inl hc)
          refine hK11.out _ _ hS27 (fun _ => ?_)
          clear rd cc
          refine wpAnyH_ready (fuel := 3) (rs := [0, 4]) (by kernel_rfl) (by simp) (AllReadyH.cons rfl (fun K18 hK18 => ?_) (AllReadyH.cons rfl (fun K18 hK18 => ?_) AllReadyH.nil))
          · have t0 := (one_at HS27.out.2.2.2.1).1
            go_simp
            refine hK18.out _ _ hS27 (fun _ => ?_)
            clear t0
            refine wpAnyH_ready (fuel := 2) (rs := [4]) (by kernel_rfl) (by simp) (AllReadyH.cons rfl (fun K20 hK20 => ?_) AllReadyH.nil)
            go_simp
            refine (pick_le _ rb _ 3 HS27.out.1.1 (by omega) (by omega) (by omega)).mono ?_
            rintro e w31 ⟨y, rfl, y0, y1, rd, cc, -⟩
            have HS31 := Lib.hid (HS27.out.pick cc rd)
            have hS31 : Chg (fun c => c = rb ∨ c = T9) w6 w31 := hS27.trans (cc.mono fun c _ hc => .inl hc)
            refine hK20.out _ _ hS31 (fun _ => ?_)
            clear rd cc
            refine wpAnyH_ready (fuel := 1) (rs := [5]) (by kernel_rfl) (by simp) (AllReadyH.cons rfl (fun K1 hK1 => ?_) AllReadyH.nil)
            go_simp
            obtain ⟨lo8, hi8, hrt8, hlo8, -, -⟩ := HS31.out.2.2.2.2.2.2.2
            have hz8 : T9 < w31.heap.size := (Array.getElem?_eq_some_iff.1 HS31.out.2.2.2.1).1
            refine (specCut_any _ t _ _ _ _ _ hrt8).mono ?_
            rintro e w8 ⟨v8, rfl, o8, b8⟩
            generalize tcut t x y = t8 at o8
            obtain ⟨a8, cap8, b8', off8, rfl, -⟩ := o8.rt.open
            have HS8 := Lib.hid (HS31.out.below b8)
            have hS8 : Chg (fun c => c = rb ∨ c = T9) w6 w8 := hS31.trans (below_chg b8 _)
            have HP8 := Lib.hid (HS8.out.put o8.rt hz8 (Nat.le_refl _))
            obtain ⟨s0, s1⟩ := one_at HS8.out.2.2.2.1
            refine hK1.out _ _ hS8 (fun _ => ?_)
            refine wpAnyH_ready (fuel := 0) (rs := [6]) (by kernel_rfl) (by simp) (AllReadyH.cons rfl (fun K2 hK2 => ?_) AllReadyH.nil)
            go_simp
            refine hK2.out _ _ ?_ (fun hS => ?_)
            · exact Chg.setCell (S := fun c => c = rb ∨ c = T9) hS8 (p := ⟨T9, 0, none⟩) (.inr (.inr rfl)) _
            refine wpAnyH_done (by kernel_rfl) ?_ _
            clear hrt8 o8 b8 s0 s1
            obtain ⟨jn, rfl⟩ : ∃ jn, j = jn + 1 := ⟨j - 1, by omega⟩
            go_wp2_with fail
            go_roundw
            case rel => exact ⟨jn, _, t8, by omega, by go_num, HP8.out.up (by omega)⟩
            case measure => simp [intOf]
          · go_simp
            refine (pick_le _ rb _ 3 HS27.out.1.1 (by omega) (by omega) (by omega)).mono ?_
            rintro e w32 ⟨y, rfl, y0, y1, rd, cc, -⟩
            have HS32 := Lib.hid (HS27.out.pick cc rd)
            have hS32 : Chg (fun c => c = rb ∨ c = T9) w6 w32 := hS27.trans (cc.mono fun c _ hc => .inl hc)
            refine hK18.out _ _ hS32 (fun _ => ?_)
            clear rd cc
            refine wpAnyH_ready (fuel := 2) (rs := [0]) (by kernel_rfl) (by simp) (AllReadyH.cons rfl (fun K23 hK23 => ?_) AllReadyH.nil)
            have t0 := (one_at HS32.out.2.2.2.1).1
            go_simp
            refine hK23.out _ _ hS32 (fun _ => ?_)
            clear t0
            refine wpAnyH_ready (fuel := 1) (rs := [5]) (by kernel_rfl) (by simp) (AllReadyH.cons rfl (fun K1 hK1 => ?_) AllReadyH.nil)
            go_simp
            obtain ⟨lo8, hi8, hrt8, hlo8, -, -⟩ := HS32.out.2.2.2.2.2.2.2
            have hz8 : T9 < w32.heap.size := (Array.getElem?_eq_some_iff.1 HS32.out.2.2.2.1).1
            refine (specCut_any _ t _ _ _ _ _ hrt8).mono ?_
            rintro e w8 ⟨v8, rfl, o8, b8⟩
            generalize tcut t x y = t8 at o8
            obtain ⟨a8, cap8, b8', off8, rfl, -⟩ := o8.rt.open
            have HS8 := Lib.hid (HS32.out.below b8)
            have hS8 : Chg (fun c => c = rb ∨ c = T9) w6 w8 := hS32.trans (below_chg b8 _)
            have HP8 := Lib.hid (HS8.out.put o8.rt hz8 (Nat.le_refl _))
            obtain ⟨s0, s1⟩ := one_at HS8.out.2.2.2.1
            refine hK1.out _ _ hS8 (fun _ => ?_)
            refine wpAnyH_ready (fuel := 0) (rs := [6]) (by kernel_rfl) (by simp) (AllReadyH.cons rfl (fun K2 hK2 => ?_) AllReadyH.nil)
            go_simp
            refine hK2.out _ _ ?_ (fun hS => ?_)
            · exact Chg.setCell (S := fun c => c = rb ∨ c = T9) hS8 (p := ⟨T9, 0, none⟩) (.inr (.inr rfl)) _
            refine wpAnyH_done (by kernel_rfl) ?_ _
            clear hrt8 o8 b8 s0 s1
            obtain ⟨jn, rfl⟩ : ∃ jn, j = jn + 1 := ⟨j - 1, by omega⟩
            go_wp2_with fail
            go_roundw
            case rel => exact ⟨jn, _, t8, by omega, by go_num, HP8.out.up (by omega)⟩
            case measure => simp [intOf]
    · have hji : decide (0 < (j : Int)) = false := by simpa using hj0
      obtain rfl : j = 0 := by omega
      clear HRT
      go_wp2_with fail
      refine (odd_le _ rb _ m HR.out.1.1 (by omega) (by omega) (by omega)).mono ?_
      rintro e w7 ⟨bb, rfl, r1, c1, -⟩
      replace HR := Lib.hid (HR.out.pick c1 r1)
      clear r1 c1
      cases bb
      · obtain ⟨lo6, hi6, hrt6, -, -, -⟩ := HR.out.2.2.2.2.2.2.2
        have HRT := Lib.hid hrt6
        have t0 := (one_at HR.out.2.2.2.1).1
        clear hrt6
        go_wp2_with fail
        refine (specTbv_any _ t _ _ _ HRT.out).mono ?_
        rintro e w8 ⟨rfl, b8⟩
        replace HR := Lib.hid (HR.out.below b8)
        clear b8 t0 HRT
        cases htv2 : tabVal t
        · skip
          go_wp2_with fail
          obtain ⟨⟨t0, t1, t2⟩, -⟩ := three_at (show w8.heap[T8]? = some (.cells #[.int .i64 A, .int .i64 B, .int .i64 C] 36) from HR.out.2.2.1)
          have hT8 := HR.out.2.1
          have k0 := And.intro t0 (show ¬ (T8 = rb ∨ T8 = w.heap.size ∨ T8 = w.heap.size + 1) by omega)
          have k1 := And.intro t1 (show ¬ (T8 = rb ∨ T8 = w.heap.size ∨ T8 = w.heap.size + 1) by omega)
          have k2 := And.intro t2 (show ¬ (T8 = rb ∨ T8 = w.heap.size ∨ T8 = w.heap.size + 1) by omega)
          clear t0 t1 t2
          have hzW : w.heap.size + 2 ≤ w8.heap.size := by have := (Array.getElem?_eq_some_iff.1 HR.out.2.2.1).1; omega
          have rd0 : RdLe H w8.drew rb _ := HR.out.1.1.kept (bdrew w8)
          refine region_held_n 7 (S := fun w' => Chg (fun c => c = rb ∨ c = w.heap.size ∨ c = w.heap.size + 1) w8 w') (by kernel_rfl) (by kernel_rfl) (below_chg (bdrew _) _) (fun hS0 => ?_)
          refine hs_take (fuel := 6) 0 (some 43) (Value.slice a d.length cap) rfl rfl (by kernel_rfl) (by kernel_rfl) (by kernel_rfl) (fun _ _ _ h => h) (by rfl) (fun wq hq => ?_) (by assumption) ?_
          · go_simp
          simp only [Act.put, List.setIfInBounds_toArray, List.set_cons_zero, List.set_cons_succ]
          refine hs_take (fuel := 5) 1 (some 44) (.pointer (some ⟨rb, 0, none⟩)) rfl rfl (by kernel_rfl) (by kernel_rfl) (by kernel_rfl) (fun _ _ _ h => h) (by rfl) (fun wq hq => ?_) (by assumption) ?_
          · go_simp
          simp only [Act.put, List.setIfInBounds_toArray, List.set_cons_zero, List.set_cons_succ]
          refine hs_take (fuel := 4) 3 (some 46) (Value.agg #[.int .i64 A, .int .i64 B, .int .i64 C]) rfl rfl (by kernel_rfl) (by kernel_rfl) (by kernel_rfl) (fun _ _ _ h => h) (by rfl) (fun wq hq => ?_) (by assumption) ?_
          · have p0 := cell_chg hq k0
            have p1 := cell_chg hq k1
            have p2 := cell_chg hq k2
            go_simp
          simp only [Act.put, List.setIfInBounds_toArray, List.set_cons_zero, List.set_cons_succ]
          refine wpAnyH_ready (fuel := 3) (rs := [2]) (by kernel_rfl) (by simp) (AllReadyH.cons rfl (fun K0 hK0 => ?_) AllReadyH.nil)
          go_simp
          refine (l20Table_any _ rb _ 3 rd0 (by omega) (by omega) (by omega)).mono ?_
          rintro e w9 ⟨v9, t9, rfl, hrt, -, hr9, cc9⟩
          obtain ⟨a9, cap9, b9, off9, rfl, -⟩ := hrt.open
          have HS9 := Lib.hid ((HR.out.below (bdrew w8)).pick cc9 hr9)
          have hS9 : Chg (fun c => c = rb ∨ c = w.heap.size ∨ c = w.heap.size + 1) w8 w9 := hS0.trans (cc9.mono fun c _ hc => .inl hc)
          have HT9 := Lib.hid hrt
          refine hK0.out _ _ hS9 (fun _ => ?_)
          clear hrt hr9 cc9 rd0 k0 k1 k2
          refine hs_take (fuel := 2) 4 (some 4) (Value.slice a d.length cap) rfl rfl (by kernel_rfl) (by kernel_rfl) (by kernel_rfl) (fun _ _ _ h => h) (by rfl) (fun wq hq => ?_) (by assumption) ?_
          · go_simp
          simp only [Act.put, List.setIfInBounds_toArray, List.set_cons_zero, List.set_cons_succ]
          obtain ⟨s0, s1⟩ := one_at HS9.out.2.2.2.2.1
          obtain ⟨⟨r0, r1, r2⟩, r3, r4, r5⟩ := three_at HS9.out.2.2.2.2.2.1
          refine wpAnyH_ready (fuel := 1) (rs := [5]) (by kernel_rfl) (by simp) (AllReadyH.cons rfl (fun K1 hK1 => ?_) AllReadyH.nil)
          go_simp
          refine hK1.out _ _ ?_ (fun hS => ?_)
          · exact Chg.setCell (S := fun c => c = rb ∨ c = w.heap.size ∨ c = w.heap.size + 1) (hS9) (p := ⟨w.heap.size, 0, none⟩) (.inr (.inr (.inl rfl))) _
          refine wpAnyH_ready (fuel := 0) (rs := [6]) (by kernel_rfl) (by simp) (AllReadyH.cons rfl (fun K2 hK2 => ?_) AllReadyH.nil)
          go_simp
          refine hK2.out _ _ ?_ (fun hS => ?_)
          · exact Chg.setCell (S := fun c => c = rb ∨ c = w.heap.size ∨ c = w.heap.size + 1) (Chg.setCell (S := fun c => c = rb ∨ c = w.heap.size ∨ c = w.heap.size + 1) (Chg.setCell (S := fun c => c = rb ∨ c = w.heap.size ∨ c = w.heap.size + 1) (Chg.setCell (S := fun c => c = rb ∨ c = w.heap.size ∨ c = w.heap.size + 1) (hS9) (p := ⟨w.heap.size, 0, none⟩) (.inr (.inr (.inl rfl))) _) (p := ⟨w.heap.size + 1, 0, none⟩) (.inr (.inr (.inr rfl))) _) (p := ⟨w.heap.size + 1, 1, none⟩) (.inr (.inr (.inr rfl))) _) (p := ⟨w.heap.size + 1, 2, none⟩) (.inr (.inr (.inr rfl))) _
          refine wpAnyH_done (by kernel_rfl) ?_ _
          have hc : Chg (fun c => c = w.heap.size ∨ c = w.heap.size + 1) (w9) ((((w9.setCell ⟨w.heap.size, 0, none⟩ (Value.slice a9 t9.length cap9)).setCell ⟨w.heap.size + 1, 0, none⟩ (.int .i64 A)).setCell ⟨w.heap.size + 1, 1, none⟩ (.int .i64 B)).setCell ⟨w.heap.size + 1, 2, none⟩ (.int .i64 C)) := Chg.setCell (S := fun c => c = w.heap.size ∨ c = w.heap.size + 1) (Chg.setCell (S := fun c => c = w.heap.size ∨ c = w.heap.size + 1) (Chg.setCell (S := fun c => c = w.heap.size ∨ c = w.heap.size + 1) (Chg.setCell (S := fun c => c = w.heap.size ∨ c = w.heap.size + 1) (Chg.refl _ _) (p := ⟨w.heap.size, 0, none⟩) (.inr (.inl rfl)) _) (p := ⟨w.heap.size + 1, 0, none⟩) (.inr (.inr rfl)) _) (p := ⟨w.heap.size + 1, 1, none⟩) (.inr (.inr rfl)) _) (p := ⟨w.heap.size + 1, 2, none⟩) (.inr (.inr rfl)) _
          have HE := Lib.hid (bo_end HS9.out HT9.out hzW (Nat.le_refl _) hc)
          clear hc
          go_wp2_with fail
          exact bodyPost_ret (v := .tuple #[Value.slice a d.length cap, .agg #[Value.slice a9 t9.length cap9], Value.agg #[.int .i64 A, .int .i64 B, .int .i64 C]]) (by simp [results, Try.results47, go_sem, r0, r1, r2, s0]) rfl ⟨_, d, _, _, ⟨A, B, C⟩, rfl, HE.out.1, hl, HP.out, HE.out.2.1, HI.out, HE.out.2.2.up (by omega)⟩
        · skip
          go_wp2_with fail
          obtain ⟨⟨t0, t1, t2⟩, -⟩ := three_at (show w8.heap[T8]? = some (.cells #[.int .i64 A, .int .i64 B, .int .i64 C] 36) from HR.out.2.2.1)
          have t3 := (one_at HR.out.2.2.2.1).1
          have hT8 := HR.out.2.1
          have k0 := And.intro t0 (show ¬ (T8 = rb ∨ T8 = w.heap.size ∨ T8 = w.heap.size + 1) by omega)
          have k1 := And.intro t1 (show ¬ (T8 = rb ∨ T8 = w.heap.size ∨ T8 = w.heap.size + 1) by omega)
          have k2 := And.intro t2 (show ¬ (T8 = rb ∨ T8 = w.heap.size ∨ T8 = w.heap.size + 1) by omega)
          have k3 := And.intro t3 (show ¬ (T9 = rb ∨ T9 = w.heap.size ∨ T9 = w.heap.size + 1) by omega)
          clear t0 t1 t2 t3
          obtain ⟨lo9, hi9, hrt, hlo9, hhi9, -⟩ := HR.out.2.2.2.2.2.2.2
          have HT9 := Lib.hid (hrt.below (bdrew w8))
          have HS9 := Lib.hid (HR.out.below (bdrew w8))
          clear hrt
          refine region_held_n 6 (S := fun w' => Chg (fun c => c = rb ∨ c = w.heap.size ∨ c = w.heap.size + 1) w8 w') (by kernel_rfl) (by kernel_rfl) (below_chg (bdrew _) _) (fun hS0 => ?_)
          refine hs_take (fuel := 5) 0 (some 47) (Value.slice a d.length cap) rfl rfl (by kernel_rfl) (by kernel_rfl) (by kernel_rfl) (fun _ _ _ h => h) (by rfl) (fun wq hq => ?_) (by assumption) ?_
          · go_simp
          simp only [Act.put, List.setIfInBounds_toArray, List.set_cons_zero, List.set_cons_succ]
          refine hs_take (fuel := 4) 1 (some 48) (Value.agg #[Value.slice a9 t.length cap9]) rfl rfl (by kernel_rfl) (by kernel_rfl) (by kernel_rfl) (fun _ _ _ h => h) (by rfl) (fun wq hq => ?_) (by assumption) ?_
          · have p0 := cell_chg hq k3
            go_simp
          simp only [Act.put, List.setIfInBounds_toArray, List.set_cons_zero, List.set_cons_succ]
          refine hs_take (fuel := 3) 2 (some 49) (Value.agg #[.int .i64 A, .int .i64 B, .int .i64 C]) rfl rfl (by kernel_rfl) (by kernel_rfl) (by kernel_rfl) (fun _ _ _ h => h) (by rfl) (fun wq hq => ?_) (by assumption) ?_
          · have p0 := cell_chg hq k0
            have p1 := cell_chg hq k1
            have p2 := cell_chg hq k2
            go_simp
          simp only [Act.put, List.setIfInBounds_toArray, List.set_cons_zero, List.set_cons_succ]
          refine hs_take (fuel := 2) 3 (some 4) (Value.slice a d.length cap) rfl rfl (by kernel_rfl) (by kernel_rfl) (by kernel_rfl) (fun _ _ _ h => h) (by rfl) (fun wq hq => ?_) (by assumption) ?_
          · go_simp
          simp only [Act.put, List.setIfInBounds_toArray, List.set_cons_zero, List.set_cons_succ]
          obtain ⟨s0, s1⟩ := one_at HR.out.2.2.2.2.1
          obtain ⟨⟨r0, r1, r2⟩, r3, r4, r5⟩ := three_at HR.out.2.2.2.2.2.1
          have s0' := cell_later (bdrew w8) s0
          have r0' := cell_later (bdrew w8) r0
          have r1' := cell_later (bdrew w8) r1
          have r2' := cell_later (bdrew w8) r2
          refine wpAnyH_ready (fuel := 1) (rs := [4]) (by kernel_rfl) (by simp) (AllReadyH.cons rfl (fun K1 hK1 => ?_) AllReadyH.nil)
          go_simp
          refine hK1.out _ _ ?_ (fun hS => ?_)
          · exact Chg.setCell (S := fun c => c = rb ∨ c = w.heap.size ∨ c = w.heap.size + 1) (hS0) (p := ⟨w.heap.size, 0, none⟩) (.inr (.inr (.inl rfl))) _
          refine wpAnyH_ready (fuel := 0) (rs := [5]) (by kernel_rfl) (by simp) (AllReadyH.cons rfl (fun K2 hK2 => ?_) AllReadyH.nil)
          go_simp
          refine hK2.out _ _ ?_ (fun hS => ?_)
          · exact Chg.setCell (S := fun c => c = rb ∨ c = w.heap.size ∨ c = w.heap.size + 1) (Chg.setCell (S := fun c => c = rb ∨ c = w.heap.size ∨ c = w.heap.size + 1) (Chg.setCell (S := fun c => c = rb ∨ c = w.heap.size ∨ c = w.heap.size + 1) (Chg.setCell (S := fun c => c = rb ∨ c = w.heap.size ∨ c = w.heap.size + 1) (hS0) (p := ⟨w.heap.size, 0, none⟩) (.inr (.inr (.inl rfl))) _) (p := ⟨w.heap.size + 1, 0, none⟩) (.inr (.inr (.inr rfl))) _) (p := ⟨w.heap.size + 1, 1, none⟩) (.inr (.inr (.inr rfl))) _) (p := ⟨w.heap.size + 1, 2, none⟩) (.inr (.inr (.inr rfl))) _
          refine wpAnyH_done (by kernel_rfl) ?_ _
          have hc : Chg (fun c => c = w.heap.size ∨ c = w.heap.size + 1) (w8.drew) ((((w8.drew.setCell ⟨w.heap.size, 0, none⟩ (Value.slice a9 t.length cap9)).setCell ⟨w.heap.size + 1, 0, none⟩ (.int .i64 A)).setCell ⟨w.heap.size + 1, 1, none⟩ (.int .i64 B)).setCell ⟨w.heap.size + 1, 2, none⟩ (.int .i64 C)) := Chg.setCell (S := fun c => c = w.heap.size ∨ c = w.heap.size + 1) (Chg.setCell (S := fun c => c = w.heap.size ∨ c = w.heap.size + 1) (Chg.setCell (S := fun c => c = w.heap.size ∨ c = w.heap.size + 1) (Chg.setCell (S := fun c => c = w.heap.size ∨ c = w.heap.size + 1) (Chg.refl _ _) (p := ⟨w.heap.size, 0, none⟩) (.inr (.inl rfl)) _) (p := ⟨w.heap.size + 1, 0, none⟩) (.inr (.inr rfl)) _) (p := ⟨w.heap.size + 1, 1, none⟩) (.inr (.inr rfl)) _) (p := ⟨w.heap.size + 1, 2, none⟩) (.inr (.inr rfl)) _
          have HE := Lib.hid (bo_end HS9.out HT9.out hlo9 hhi9 hc)
          clear hc
          go_wp2_with fail
          exact bodyPost_ret (v := .tuple #[Value.slice a d.length cap, .agg #[Value.slice a9 t.length cap9], Value.agg #[.int .i64 A, .int .i64 B, .int .i64 C]]) (by simp [results, Try.results47, go_sem, r0, r1, r2, s0]) rfl ⟨_, d, _, _, ⟨A, B, C⟩, rfl, HE.out.1, hl, HP.out, HE.out.2.1, HI.out, HE.out.2.2.up (by omega)⟩
      · skip
        go_wp2_with fail
        obtain ⟨⟨t0, t1, t2⟩, -⟩ := three_at (show w7.heap[T8]? = some (.cells #[.int .i64 A, .int .i64 B, .int .i64 C] 36) from HR.out.2.2.1)
        have hT8 := HR.out.2.1
        have k0 := And.intro t0 (show ¬ (T8 = rb ∨ T8 = w.heap.size ∨ T8 = w.heap.size + 1) by omega)
        have k1 := And.intro t1 (show ¬ (T8 = rb ∨ T8 = w.heap.size ∨ T8 = w.heap.size + 1) by omega)
        have k2 := And.intro t2 (show ¬ (T8 = rb ∨ T8 = w.heap.size ∨ T8 = w.heap.size + 1) by omega)
        clear t0 t1 t2
        have hzW : w.heap.size + 2 ≤ w7.heap.size := by have := (Array.getElem?_eq_some_iff.1 HR.out.2.2.1).1; omega
        have rd0 : RdLe H w7.drew rb _ := HR.out.1.1.kept (bdrew w7)
        refine region_held_n 7 (S := fun w' => Chg (fun c => c = rb ∨ c = w.heap.size ∨ c = w.heap.size + 1) w7 w') (by kernel_rfl) (by kernel_rfl) (below_chg (bdrew _) _) (fun hS0 => ?_)
        refine hs_take (fuel := 6) 0 (some 43) (Value.slice a d.length cap) rfl rfl (by kernel_rfl) (by kernel_rfl) (by kernel_rfl) (fun _ _ _ h => h) (by rfl) (fun wq hq => ?_) (by assumption) ?_
        · go_simp
        simp only [Act.put, List.setIfInBounds_toArray, List.set_cons_zero, List.set_cons_succ]
        refine hs_take (fuel := 5) 1 (some 44) (.pointer (some ⟨rb, 0, none⟩)) rfl rfl (by kernel_rfl) (by kernel_rfl) (by kernel_rfl) (fun _ _ _ h => h) (by rfl) (fun wq hq => ?_) (by assumption) ?_
        · go_simp
        simp only [Act.put, List.setIfInBounds_toArray, List.set_cons_zero, List.set_cons_succ]
        refine hs_take (fuel := 4) 3 (some 46) (Value.agg #[.int .i64 A, .int .i64 B, .int .i64 C]) rfl rfl (by kernel_rfl) (by kernel_rfl) (by kernel_rfl) (fun _ _ _ h => h) (by rfl) (fun wq hq => ?_) (by assumption) ?_
        · have p0 := cell_chg hq k0
          have p1 := cell_chg hq k1
          have p2 := cell_chg hq k2
          go_simp
        simp only [Act.put, List.setIfInBounds_toArray, List.set_cons_zero, List.set_cons_succ]
        refine wpAnyH_ready (fuel := 3) (rs := [2]) (by kernel_rfl) (by simp) (AllReadyH.cons rfl (fun K0 hK0 => ?_) AllReadyH.nil)
        go_simp
        refine (l20Table_any _ rb _ 3 rd0 (by omega) (by omega) (by omega)).mono ?_
        rintro e w9 ⟨v9, t9, rfl, hrt, -, hr9, cc9⟩
        obtain ⟨a9, cap9, b9, off9, rfl, -⟩ := hrt.open
        have HS9 := Lib.hid ((HR.out.below (bdrew w7)).pick cc9 hr9)
        have hS9 : Chg (fun c => c = rb ∨ c = w.heap.size ∨ c = w.heap.size + 1) w7 w9 := hS0.trans (cc9.mono fun c _ hc => .inl hc)
        have HT9 := Lib.hid hrt
        refine hK0.out _ _ hS9 (fun _ => ?_)
        clear hrt hr9 cc9 rd0 k0 k1 k2
        refine hs_take (fuel := 2) 4 (some 4) (Value.slice a d.length cap) rfl rfl (by kernel_rfl) (by kernel_rfl) (by kernel_rfl) (fun _ _ _ h => h) (by rfl) (fun wq hq => ?_) (by assumption) ?_
        · go_simp
        simp only [Act.put, List.setIfInBounds_toArray, List.set_cons_zero, List.set_cons_succ]
        obtain ⟨s0, s1⟩ := one_at HS9.out.2.2.2.2.1
        obtain ⟨⟨r0, r1, r2⟩, r3, r4, r5⟩ := three_at HS9.out.2.2.2.2.2.1
        refine wpAnyH_ready (fuel := 1) (rs := [5]) (by kernel_rfl) (by simp) (AllReadyH.cons rfl (fun K1 hK1 => ?_) AllReadyH.nil)
        go_simp
        refine hK1.out _ _ ?_ (fun hS => ?_)
        · exact Chg.setCell (S := fun c => c = rb ∨ c = w.heap.size ∨ c = w.heap.size + 1) (hS9) (p := ⟨w.heap.size, 0, none⟩) (.inr (.inr (.inl rfl))) _
        refine wpAnyH_ready (fuel := 0) (rs := [6]) (by kernel_rfl) (by simp) (AllReadyH.cons rfl (fun K2 hK2 => ?_) AllReadyH.nil)
        go_simp
        refine hK2.out _ _ ?_ (fun hS => ?_)
        · exact Chg.setCell (S := fun c => c = rb ∨ c = w.heap.size ∨ c = w.heap.size + 1) (Chg.setCell (S := fun c => c = rb ∨ c = w.heap.size ∨ c = w.heap.size + 1) (Chg.setCell (S := fun c => c = rb ∨ c = w.heap.size ∨ c = w.heap.size + 1) (Chg.setCell (S := fun c => c = rb ∨ c = w.heap.size ∨ c = w.heap.size + 1) (hS9) (p := ⟨w.heap.size, 0, none⟩) (.inr (.inr (.inl rfl))) _) (p := ⟨w.heap.size + 1, 0, none⟩) (.inr (.inr (.inr rfl))) _) (p := ⟨w.heap.size + 1, 1, none⟩) (.inr (.inr (.inr rfl))) _) (p := ⟨w.heap.size + 1, 2, none⟩) (.inr (.inr (.inr rfl))) _
        refine wpAnyH_done (by kernel_rfl) ?_ _
        have hc : Chg (fun c => c = w.heap.size ∨ c = w.heap.size + 1) (w9) ((((w9.setCell ⟨w.heap.size, 0, none⟩ (Value.slice a9 t9.length cap9)).setCell ⟨w.heap.size + 1, 0, none⟩ (.int .i64 A)).setCell ⟨w.heap.size + 1, 1, none⟩ (.int .i64 B)).setCell ⟨w.heap.size + 1, 2, none⟩ (.int .i64 C)) := Chg.setCell (S := fun c => c = w.heap.size ∨ c = w.heap.size + 1) (Chg.setCell (S := fun c => c = w.heap.size ∨ c = w.heap.size + 1) (Chg.setCell (S := fun c => c = w.heap.size ∨ c = w.heap.size + 1) (Chg.setCell (S := fun c => c = w.heap.size ∨ c = w.heap.size + 1) (Chg.refl _ _) (p := ⟨w.heap.size, 0, none⟩) (.inr (.inl rfl)) _) (p := ⟨w.heap.size + 1, 0, none⟩) (.inr (.inr rfl)) _) (p := ⟨w.heap.size + 1, 1, none⟩) (.inr (.inr rfl)) _) (p := ⟨w.heap.size + 1, 2, none⟩) (.inr (.inr rfl)) _
        have HE := Lib.hid (bo_end HS9.out HT9.out hzW (Nat.le_refl _) hc)
        clear hc
        go_wp2_with fail
        exact bodyPost_ret (v := .tuple #[Value.slice a d.length cap, .agg #[Value.slice a9 t9.length cap9], Value.agg #[.int .i64 A, .int .i64 B, .int .i64 C]]) (by simp [results, Try.results47, go_sem, r0, r1, r2, s0]) rfl ⟨_, d, _, _, ⟨A, B, C⟩, rfl, HE.out.1, hl, HP.out, HE.out.2.1, HI.out, HE.out.2.2.up (by omega)⟩

end Go.Proofs.Ytjmofmdcegefgaa

