/-
  Texts of this claim, laid together: Ddz.
-/
import Derived.Test.YtjmofmdcegefgaaQ26
namespace Go.Proofs.Ytjmofmdcegefgaa
open Go.RowKit
set_option linter.unusedSimpArgs false
set_option linter.unusedVariables false
set_option linter.unnecessarySimpa false

theorem box3_set {w : World} {B : Nat} {x y z u v t : Value} {ty : TypeId} (h : w.heap[B]? = some (.cells #[x, y, z] ty (0, 0))) : (((w.setCell ⟨B, 0, none⟩ u).setCell ⟨B, 1, none⟩ v).setCell ⟨B, 2, none⟩ t).heap[B]? = some (.cells #[u, v, t] ty (0, 0)) := by
  have h1 := heap_setCell_same w B 0 _ _ u h
  have h2 := heap_setCell_same _ B 1 _ _ v h1
  have h3 := heap_setCell_same _ B 2 _ _ t h2
  rw [h3]
  simp
theorem Wb3.set1 {w wr : World} {x y z : Value} {ty : TypeId} {o2 o3 : Obj} (h : Wb3 w (.cells #[x, y, z] ty) o2 o3 wr) (u v t : Value) :
    Wb3 w (.cells #[u, v, t] ty) o2 o3 (((wr.setCell ⟨w.heap.size, 0, none⟩ u).setCell ⟨w.heap.size, 1, none⟩ v).setCell ⟨w.heap.size, 2, none⟩ t) := by
  obtain ⟨h1, h2, h3, h4, h5⟩ := h
  have hc : Chg (fun c => c = w.heap.size) wr (((wr.setCell ⟨w.heap.size, 0, none⟩ u).setCell ⟨w.heap.size, 1, none⟩ v).setCell ⟨w.heap.size, 2, none⟩ t) := Chg.setCell (S := fun c => c = w.heap.size) (Chg.setCell (S := fun c => c = w.heap.size) (Chg.setCell (S := fun c => c = w.heap.size) (Chg.refl _ wr) (p := ⟨w.heap.size, 0, none⟩) (.inr rfl) _) (p := ⟨w.heap.size, 1, none⟩) (.inr rfl) _) (p := ⟨w.heap.size, 2, none⟩) (.inr rfl) _
  exact ⟨box3_set h1, box_chg h2 hc (by omega), box_chg h3 hc (by omega), below_own h4 h4.size (hc.mono fun k _ hk => by omega), Nat.lt_of_lt_of_le h5 hc.size⟩

/-- A device, heads and a number. -/
def NewDH (n : Nat) (w : World) (e : Ending) (w' : World) : Prop := ∃ v d h x, e = .returned (.tuple #[v, hdv h, .int .i64 x]) ∧ OD w' w.heap.size w'.heap.size v d ∧ dvOk d = true ∧ d.length = n ∧ hdOk d h = true ∧ Below w.heap.size w w'

set_option maxHeartbeats 8000000 in
set_option maxRecDepth 8000 in
theorem specApp_any (v : Value) (d : List Bk) (h : Hd) (k : Nat) (p : Pg) (lo hi : Nat) (w : World) (hd : RD w lo hi v d) (hk : hdOk d h = true) (h3 : k < 3) (hp : pgOk p = true) (hf : p.full = true) :
    Calls Try.prog 75 #[v, hdv h, .int .i64 k, pgv p] w (NewDH d.length w) := by
  obtain ⟨hv, -⟩ := hdOk_iff.1 hk
  have hl12 := (dv_len hv).2
  obtain ⟨a, cap, b, off, rfl, q1, q2, q3, -⟩ := hd.open
  obtain rfl := q3 (by have := (dv_len hv).1; omega)
  have HD := Lib.hid hd
  have HV := Lib.hid hv
  have HK := Lib.hid hk
  have c0 := fun wx hx => specHdv_any (.slice (some ⟨b, off, none⟩) d.length cap) d h lo hi wx hx (hdOk_i hk) (by omega)
  rw [hk] at c0
  have C0 := Lib.hid c0
  have CH := Lib.hid (fun wx hx => specHof_any (.slice (some ⟨b, off, none⟩) d.length cap) d h k lo hi wx hx hk h3)
  have CF := Lib.hid (fun wx hx => specFrb_any (.slice (some ⟨b, off, none⟩) d.length cap) d h lo hi wx hx hk)
  have CC := Lib.hid (fun wx hx => l5Copy_any (.slice (some ⟨b, off, none⟩) d.length cap) d lo hi wx hx hv)
  have HI := Lib.hid (inB_yes (n := (k : Int)) (lo := 0) (hi := 2) (by omega) (by omega))
  have CP := specPgv_any p
  rw [hp] at CP
  have HWr := Lib.hid (fun (m : Nat) (hm : m < d.length) => (show bkOk (wrb (d.getD m bk0) p) = true by rw [getDb_in hm]; exact wrb_ok (dv_blk hv hm) hp hf))
  have HPg := Lib.hid (fun (m : Nat) (hm : m < d.length) (wx : World) (hx : RD wx lo hi (.slice (some ⟨b, off, none⟩) d.length cap) d) => (show Calls Try.prog 88 #[.slice (some ⟨b, off, none⟩) d.length cap, .int .i64 m, pgv p] wx (NewDN (d.set m (wrb (d.getD m bk0) p)) wx) by rw [getDb_in hm]; exact specPrg_any _ d m p lo hi wx hx hv hm hp hf))
  have HNx := Lib.hid (fun (v : Value) (m : Nat) (hm : m < d.length) (wx : World) (hx : RB1 wx lo hi v d[m]) => specNext_any v d[m] lo hi wx hx (dv_blk hv hm))
  obtain ⟨A, B, C⟩ := h
  obtain ⟨p0, hp0⟩ : ∃ p0, p0 = p := ⟨_, rfl⟩
  rw [← hp0] at HWr
  have HPg2 := HPg.out
  obtain ⟨full, fi, pl, va, st⟩ := p
  simp only at hf
  subst hf
  rw [← hp0] at HPg2
  rw [hp0] at HPg2
  unfold pgv at CP HPg2 ⊢
  simp only at CP HPg2 ⊢
  rw [← hp0] at HPg2
  replace HPg := Lib.hid HPg2
  unfold hdv at C0 CH CF ⊢
  simp only at C0 CH CF ⊢
  have HCP := Lib.hid CP
  have hx1 := wb3_new w (.cells #[.int .i64 A, .int .i64 B, .int .i64 C] 36) (.cells #[.bool true, .int .i64 fi, .int .i64 pl, .int .i64 va, .int .i64 st] 53) (.cells #[.int .i64 0, .int .i64 0, .int .i64 0] 36)
  obtain ⟨w1, hw1⟩ : ∃ w1, w1 = ((w.alloc (.cells #[.int .i64 A, .int .i64 B, .int .i64 C] 36)).alloc (.cells #[.bool true, .int .i64 fi, .int .i64 pl, .int .i64 va, .int .i64 st] 53)).alloc (.cells #[.int .i64 0, .int .i64 0, .int .i64 0] 36) := ⟨_, rfl⟩
  rw [← hw1] at hx1
  have HX := Lib.hid hx1
  have HW := Lib.hid hw1
  have HP0 := Lib.hid hp0
  clear hd hk hv c0 q3 CP hp hx1 hw1 HPg2 hp0
  go_enter Try.func75, Try.ntmps75
  go_wp2_with fail
  rw [← HW.out]
  refine (C0.out _ (HD.out.below HX.out.2.2.2.1)).mono ?_
  rintro e w2 ⟨rfl, b2⟩
  replace HX := Lib.hid (HX.out.below b2)
  clear b2
  go_wp2_with fail
  refine (l1In_any _ _ _ _).mono ?_
  rintro e wz ⟨rfl, rfl⟩
  have hin := HI.out
  obtain ⟨y0, y1, y2, y3, y4⟩ := five0 (p := ⟨true, fi, pl, va, st⟩) HX.out.2.1
  go_wp2_with fail
  refine (HCP.out _).mono ?_
  rintro e w3 ⟨rfl, b3⟩
  replace HX := Lib.hid (HX.out.below b3)
  replace y0 := cell_later b3 y0
  obtain ⟨⟨g1, g2, g3⟩, -⟩ := three_at HX.out.1
  clear b3 y1 y2 y3 y4 hin
  go_wp2_with fail
  refine (CH.out _ (HD.out.below HX.out.2.2.2.1)).mono ?_
  rintro e w4 ⟨x, rfl, x0, x1, b4⟩
  replace HX := Lib.hid (HX.out.below b4)
  clear b4 y0 g1 g2 g3
  by_cases hx : x < 0
  · have hxd : decide (x < 0) = true := by simpa using hx
    clear hx x0 x1
    obtain ⟨⟨g1, g2, g3⟩, -⟩ := three_at HX.out.1
    go_wp2_with fail
    refine (CF.out _ (HD.out.below HX.out.2.2.2.1)).mono ?_
    rintro e w7 ⟨x7, rfl, f0, f1, f2, b7⟩
    replace HX := Lib.hid (HX.out.below b7)
    have HF2 := Lib.hid f2
    clear b7 f2 g1 g2 g3
    obtain ⟨⟨g1, g2, g3⟩, e1, e2, e3⟩ := three_at HX.out.1
    by_cases hx7 : x7 < 0
    · have hxd7 : decide (x7 < 0) = true := by simpa using hx7
      clear hx7 f0 f1
      go_wp2_with fail
      obtain ⟨⟨r0, r1, r2⟩, r3, r4, r5⟩ := three_at HX.out.2.2.1
      have hz8 := HX.out.2.2.2.2
      have k0 := And.intro g1 (show ¬ w.heap.size = w.heap.size + 1 + 1 by omega)
      have k1 := And.intro g2 (show ¬ w.heap.size = w.heap.size + 1 + 1 by omega)
      have k2 := And.intro g3 (show ¬ w.heap.size = w.heap.size + 1 + 1 by omega)
      clear g1 g2 g3 e1 e2 e3
      refine region_held_n 6 (S := fun w' => Chg (fun c => c = w.heap.size + 1 + 1) w7 w') (by kernel_rfl) (by kernel_rfl) (below_chg (bdrew _) _) (fun hS0 => ?_)
      refine hs_take (fuel := 5) 0 (some 54) (.slice (some ⟨b, off, none⟩) d.length cap) rfl rfl (by kernel_rfl) (by kernel_rfl) (by kernel_rfl) (fun _ _ _ h => h) (by rfl) (fun wq hq => ?_) (by assumption) ?_
      · go_simp
      simp only [Act.put, List.setIfInBounds_toArray, List.set_cons_zero, List.set_cons_succ]
      refine hs_take (fuel := 4) 2 (some 56) (Value.agg #[.int .i64 A, .int .i64 B, .int .i64 C]) rfl rfl (by kernel_rfl) (by kernel_rfl) (by kernel_rfl) (fun _ _ _ h => h) (by rfl) (fun wq hq => ?_) (by assumption) ?_
      · have p0 := cell_chg hq k0
        have p1 := cell_chg hq k1
        have p2 := cell_chg hq k2
        go_simp
      simp only [Act.put, List.setIfInBounds_toArray, List.set_cons_zero, List.set_cons_succ]
      refine wpAnyH_ready (fuel := 3) (rs := [1]) (by kernel_rfl) (by simp) (AllReadyH.cons rfl (fun K hK => ?_) AllReadyH.nil)
      go_simp
      refine (CC.out _ (HD.out.below (bup2 HX.out.2.2.2.1 (bdrew w7)))).mono ?_
      rintro e w8 ⟨v8, rfl, o8, b8⟩
      obtain ⟨a8, cap8, b8', off8, rfl, -⟩ := o8.rd.open
      refine hK.out _ _ ?_ (fun hS => ?_)
      · exact below_chg (bup2 (bdrew w7) b8) _
      refine hs_take (fuel := 2) 3 (some 8) (.slice a8 d.length cap8) rfl rfl (by kernel_rfl) (by kernel_rfl) (by kernel_rfl) (fun _ _ _ h => h) (by rfl) (fun wq hq => ?_) (by assumption) ?_
      · go_simp
      simp only [Act.put, List.setIfInBounds_toArray, List.set_cons_zero, List.set_cons_succ]
      refine wpAnyH_ready (fuel := 1) (rs := [4]) (by kernel_rfl) (by simp) (AllReadyH.cons rfl (fun K hK => ?_) AllReadyH.nil)
      have r0' := cell_later (bup2 (bdrew w7) b8) r0
      have r1' := cell_later (bup2 (bdrew w7) b8) r1
      have r2' := cell_later (bup2 (bdrew w7) b8) r2
      obtain ⟨-, r3', r4', r5'⟩ := three_at (box_keep HX.out.2.2.1 (bup2 (bdrew w7) b8))
      go_simp
      refine hK.out _ _ ?_ (fun hS => ?_)
      · exact Chg.setCell (S := fun c => c = w.heap.size + 1 + 1) (Chg.setCell (S := fun c => c = w.heap.size + 1 + 1) (Chg.setCell (S := fun c => c = w.heap.size + 1 + 1) (below_chg (bup2 (bdrew w7) b8) _) (p := ⟨w.heap.size + 1 + 1, 0, none⟩) (.inr rfl) _) (p := ⟨w.heap.size + 1 + 1, 1, none⟩) (.inr rfl) _) (p := ⟨w.heap.size + 1 + 1, 2, none⟩) (.inr rfl) _
      refine hs_take (fuel := 0) 5 (some 10) (.int .i64 (-1)) rfl rfl (by kernel_rfl) (by kernel_rfl) (by kernel_rfl) (fun _ _ _ h => h) (by rfl) (fun wq hq => ?_) (by assumption) ?_
      · go_simp
      simp only [Act.put, List.setIfInBounds_toArray, List.set_cons_zero, List.set_cons_succ]
      refine wpAnyH_done (by kernel_rfl) ?_ _
      have hc : Chg (fun c => c = w.heap.size + 1 + 1) w8 (((w8.setCell ⟨w.heap.size + 1 + 1, 0, none⟩ (.int .i64 A)).setCell ⟨w.heap.size + 1 + 1, 1, none⟩ (.int .i64 B)).setCell ⟨w.heap.size + 1 + 1, 2, none⟩ (.int .i64 C)) := Chg.setCell (S := fun c => c = w.heap.size + 1 + 1) (Chg.setCell (S := fun c => c = w.heap.size + 1 + 1) (Chg.setCell (S := fun c => c = w.heap.size + 1 + 1) (Chg.refl _ w8) (p := ⟨w.heap.size + 1 + 1, 0, none⟩) (.inr rfl) _) (p := ⟨w.heap.size + 1 + 1, 1, none⟩) (.inr rfl) _) (p := ⟨w.heap.size + 1 + 1, 2, none⟩) (.inr rfl) _
      have hz9 : w7.heap.size ≤ w7.drew.heap.size := Nat.le_refl _
      have HF := Lib.hid (And.intro (o8.chg hc (fun c hc _ hs => by omega)) (And.intro (below_own (bup2 HX.out.2.2.2.1 (bup2 (bdrew w7) b8)) (bup2 HX.out.2.2.2.1 (bup2 (bdrew w7) b8)).size (hc.mono fun k _ hk => by omega)) hc.size))
      clear hc hS0 k0 k1 k2 o8
      go_wp2_with fail
      refine bodyPost_ret (v := .tuple #[.slice a8 d.length cap8, Value.agg #[.int .i64 A, .int .i64 B, .int .i64 C], .int .i64 (-1)]) (by simp [results, Try.results75, go_sem, r0', r1', r2']) rfl ⟨_, d, ⟨A, B, C⟩, -1, rfl, ?_, HV.out, rfl, HK.out, ?_⟩
      · exact (HF.out.1.wide (by omega)).mono HF.out.2.2
      · exact HF.out.2.1
    · obtain ⟨m7, rfl⟩ := Int.eq_ofNat_of_zero_le (show 0 ≤ x7 by omega)
      have hxd7 : decide ((m7 : Int) < 0) = false := by simp
      have hm : m7 < d.length := by omega
      have HK7 := Lib.hid (hset_ok HK.out (show 0 ≤ (m7 : Int) by omega) (by omega) (HF2.out (by omega)) k)
      obtain ⟨h7, hh7⟩ : ∃ h7, h7 = hset ⟨A, B, C⟩ k m7 := ⟨_, rfl⟩
      have CL := l6Set_any ⟨A, B, C⟩ k m7
      rw [← hh7] at CL HK7
      obtain ⟨A7, B7, C7⟩ := h7
      unfold hdv at CL
      simp only at CL
      have HCL := Lib.hid CL
      clear CL hh7 hx7 f0 f1 HF2
      go_wp2_with fail
      refine (HCL.out _ h3).mono ?_
      rintro e w9 ⟨rfl, b9⟩
      replace HX := Lib.hid (HX.out.below b9)
      obtain ⟨⟨g1, g2, g3⟩, e1, e2, e3⟩ := three_at HX.out.1
      obtain ⟨y0, y1, y2, y3, y4⟩ := five0 (p := ⟨true, fi, pl, va, st⟩) HX.out.2.1
      replace HX := Lib.hid (HX.out.set1 (.int .i64 A7) (.int .i64 B7) (.int .i64 C7))
      clear b9
      have HPr := Lib.hid (HPg.out m7 hm _ (HD.out.below HX.out.2.2.2.1))
      go_wp2_with fail
      refine HPr.out.mono ?_
      rintro e w8 ⟨v8, x8, rfl, o8, b8⟩
      obtain ⟨a8, cap8, b8', off8, rfl, -⟩ := o8.rd.open
      have hl8 : (d.set m7 (wrb (d.getD m7 bk0) p0)).length = d.length := by simp
      rw [hl8] at o8 ⊢
      have HO8 := Lib.hid o8
      have hz8 := HX.out.2.2.2.2
      have hz9 := b8.size
      replace HX := Lib.hid (HX.out.below b8)
      obtain ⟨⟨t0, t1, t2⟩, -⟩ := three_at HX.out.1
      obtain ⟨⟨r0, r1, r2⟩, r3, r4, r5⟩ := three_at HX.out.2.2.1
      have k0 := And.intro t0 (show ¬ w.heap.size = w.heap.size + 1 + 1 by omega)
      have k1 := And.intro t1 (show ¬ w.heap.size = w.heap.size + 1 + 1 by omega)
      have k2 := And.intro t2 (show ¬ w.heap.size = w.heap.size + 1 + 1 by omega)
      clear o8 b8 y0 y1 y2 y3 y4 t0 t1 t2 HPr hl8
      go_wp2_with fail
      refine region_held_n 6 (S := fun w' => Chg (fun c => c = w.heap.size + 1 + 1) w8 w') (by kernel_rfl) (by kernel_rfl) (below_chg (bdrew _) _) (fun hS0 => ?_)
      refine hs_take (fuel := 5) 0 (some 68) (.slice a8 d.length cap8) rfl rfl (by kernel_rfl) (by kernel_rfl) (by kernel_rfl) (fun _ _ _ h => h) (by rfl) (fun wq hq => ?_) (by assumption) ?_
      · go_simp
      simp only [Act.put, List.setIfInBounds_toArray, List.set_cons_zero, List.set_cons_succ]
      refine hs_take (fuel := 4) 1 (some 69) (Value.agg #[.int .i64 A7, .int .i64 B7, .int .i64 C7]) rfl rfl (by kernel_rfl) (by kernel_rfl) (by kernel_rfl) (fun _ _ _ h => h) (by rfl) (fun wq hq => ?_) (by assumption) ?_
      · have p0 := cell_chg hq k0
        have p1 := cell_chg hq k1
        have p2 := cell_chg hq k2
        go_simp
      simp only [Act.put, List.setIfInBounds_toArray, List.set_cons_zero, List.set_cons_succ]
      refine hs_take (fuel := 3) 2 (some 70) (.int .i64 x8) rfl rfl (by kernel_rfl) (by kernel_rfl) (by kernel_rfl) (fun _ _ _ h => h) (by rfl) (fun wq hq => ?_) (by assumption) ?_
      · go_simp
      simp only [Act.put, List.setIfInBounds_toArray, List.set_cons_zero, List.set_cons_succ]
      refine hs_take (fuel := 2) 3 (some 8) (.slice a8 d.length cap8) rfl rfl (by kernel_rfl) (by kernel_rfl) (by kernel_rfl) (fun _ _ _ h => h) (by rfl) (fun wq hq => ?_) (by assumption) ?_
      · go_simp
      simp only [Act.put, List.setIfInBounds_toArray, List.set_cons_zero, List.set_cons_succ]
      refine wpAnyH_ready (fuel := 1) (rs := [4]) (by kernel_rfl) (by simp) (AllReadyH.cons rfl (fun K hK => ?_) AllReadyH.nil)
      have r0' := cell_later (bdrew w8) r0
      have r1' := cell_later (bdrew w8) r1
      have r2' := cell_later (bdrew w8) r2
      go_simp
      refine hK.out _ _ ?_ (fun hS => ?_)
      · exact Chg.setCell (S := fun c => c = w.heap.size + 1 + 1) (Chg.setCell (S := fun c => c = w.heap.size + 1 + 1) (Chg.setCell (S := fun c => c = w.heap.size + 1 + 1) (below_chg (bdrew w8) _) (p := ⟨w.heap.size + 1 + 1, 0, none⟩) (.inr rfl) _) (p := ⟨w.heap.size + 1 + 1, 1, none⟩) (.inr rfl) _) (p := ⟨w.heap.size + 1 + 1, 2, none⟩) (.inr rfl) _
      refine hs_take (fuel := 0) 5 (some 10) (.int .i64 x8) rfl rfl (by kernel_rfl) (by kernel_rfl) (by kernel_rfl) (fun _ _ _ h => h) (by rfl) (fun wq hq => ?_) (by assumption) ?_
      · go_simp
      simp only [Act.put, List.setIfInBounds_toArray, List.set_cons_zero, List.set_cons_succ]
      refine wpAnyH_done (by kernel_rfl) ?_ _
      have hc : Chg (fun c => c = w.heap.size + 1 + 1) w8 ((((w8.drew).setCell ⟨w.heap.size + 1 + 1, 0, none⟩ (.int .i64 A7)).setCell ⟨w.heap.size + 1 + 1, 1, none⟩ (.int .i64 B7)).setCell ⟨w.heap.size + 1 + 1, 2, none⟩ (.int .i64 C7)) := Chg.setCell (S := fun c => c = w.heap.size + 1 + 1) (Chg.setCell (S := fun c => c = w.heap.size + 1 + 1) (Chg.setCell (S := fun c => c = w.heap.size + 1 + 1) (below_chg (bdrew w8) _) (p := ⟨w.heap.size + 1 + 1, 0, none⟩) (.inr rfl) _) (p := ⟨w.heap.size + 1 + 1, 1, none⟩) (.inr rfl) _) (p := ⟨w.heap.size + 1 + 1, 2, none⟩) (.inr rfl) _
      have HF := Lib.hid (And.intro (HO8.out.chg hc (fun c hc _ hs => by omega)) (And.intro (below_own HX.out.2.2.2.1 HX.out.2.2.2.1.size (hc.mono fun k _ hk => by omega)) hc.size))
      clear hc hS0 k0 k1 k2
      go_wp2_with fail
      refine bodyPost_ret (v := .tuple #[.slice a8 d.length cap8, Value.agg #[.int .i64 A7, .int .i64 B7, .int .i64 C7], .int .i64 x8]) (by simp [results, Try.results75, go_sem, r0, r1, r2]) rfl ⟨_, d.set m7 (wrb (d.getD m7 bk0) p0), ⟨A7, B7, C7⟩, x8, rfl, ?_, dv_set HV.out (HWr.out m7 hm), by simp, hdOk_len HK7.out (dv_set HV.out (HWr.out m7 hm)) (by simp), ?_⟩
      · exact (HF.out.1.wide (by omega)).mono HF.out.2.2
      · exact HF.out.2.1
  · obtain ⟨m, rfl⟩ := Int.eq_ofNat_of_zero_le (show 0 ≤ x by omega)
    have hxd : decide ((m : Int) < 0) = false := by simp
    have hm : m < d.length := by omega
    have hmi : (m : Int) < (d.length : Int) := by omega
    obtain ⟨a', cap', b', off', c1, c2, hp, hw, -⟩ := (HD.out.below HX.out.2.2.2.1).at m hm
    have HNy := Lib.hid (HNx.out _ m hm _ (RB1.mk'' hp hw))
    generalize d[m] = bk at c1 c2 hp hw HNy
    obtain ⟨y, hy⟩ : ∃ y, y = bnext bk := ⟨_, rfl⟩
    rw [← hy] at HNy
    clear hx x0 x1 hp hw hy
    go_wp2_with fail
    refine HNy.out.mono ?_
    rintro e w6 ⟨rfl, b6⟩
    replace HX := Lib.hid (HX.out.below b6)
    clear b6 c1 c2 HNy
    by_cases hy0 : y < 0
    · have hyd : decide (y < 0) = true := by simpa using hy0
      clear hy0
      obtain ⟨⟨g1, g2, g3⟩, -⟩ := three_at HX.out.1
      go_wp2_with fail
      refine (CF.out _ (HD.out.below HX.out.2.2.2.1)).mono ?_
      rintro e w7 ⟨x7, rfl, f0, f1, f2, b7⟩
      replace HX := Lib.hid (HX.out.below b7)
      have HF2 := Lib.hid f2
      clear b7 f2 g1 g2 g3
      obtain ⟨⟨g1, g2, g3⟩, e1, e2, e3⟩ := three_at HX.out.1
      by_cases hx7 : x7 < 0
      · have hxd7 : decide (x7 < 0) = true := by simpa using hx7
        clear hx7 f0 f1
        go_wp2_with fail
        obtain ⟨⟨r0, r1, r2⟩, r3, r4, r5⟩ := three_at HX.out.2.2.1
        have hz8 := HX.out.2.2.2.2
        have k0 := And.intro g1 (show ¬ w.heap.size = w.heap.size + 1 + 1 by omega)
        have k1 := And.intro g2 (show ¬ w.heap.size = w.heap.size + 1 + 1 by omega)
        have k2 := And.intro g3 (show ¬ w.heap.size = w.heap.size + 1 + 1 by omega)
        clear g1 g2 g3 e1 e2 e3
        refine region_held_n 6 (S := fun w' => Chg (fun c => c = w.heap.size + 1 + 1) w7 w') (by kernel_rfl) (by kernel_rfl) (below_chg (bdrew _) _) (fun hS0 => ?_)
        refine hs_take (fuel := 5) 0 (some 54) (.slice (some ⟨b, off, none⟩) d.length cap) rfl rfl (by kernel_rfl) (by kernel_rfl) (by kernel_rfl) (fun _ _ _ h => h) (by rfl) (fun wq hq => ?_) (by assumption) ?_
        · go_simp
        simp only [Act.put, List.setIfInBounds_toArray, List.set_cons_zero, List.set_cons_succ]
        refine hs_take (fuel := 4) 2 (some 56) (Value.agg #[.int .i64 A, .int .i64 B, .int .i64 C]) rfl rfl (by kernel_rfl) (by kernel_rfl) (by kernel_rfl) (fun _ _ _ h => h) (by rfl) (fun wq hq => ?_) (by assumption) ?_
        · have p0 := cell_chg hq k0
          have p1 := cell_chg hq k1
          have p2 := cell_chg hq k2
          go_simp
        simp only [Act.put, List.setIfInBounds_toArray, List.set_cons_zero, List.set_cons_succ]
        refine wpAnyH_ready (fuel := 3) (rs := [1]) (by kernel_rfl) (by simp) (AllReadyH.cons rfl (fun K hK => ?_) AllReadyH.nil)
        go_simp
        refine (CC.out _ (HD.out.below (bup2 HX.out.2.2.2.1 (bdrew w7)))).mono ?_
        rintro e w8 ⟨v8, rfl, o8, b8⟩
        obtain ⟨a8, cap8, b8', off8, rfl, -⟩ := o8.rd.open
        refine hK.out _ _ ?_ (fun hS => ?_)
        · exact below_chg (bup2 (bdrew w7) b8) _
        refine hs_take (fuel := 2) 3 (some 8) (.slice a8 d.length cap8) rfl rfl (by kernel_rfl) (by kernel_rfl) (by kernel_rfl) (fun _ _ _ h => h) (by rfl) (fun wq hq => ?_) (by assumption) ?_
        · go_simp
        simp only [Act.put, List.setIfInBounds_toArray, List.set_cons_zero, List.set_cons_succ]
        refine wpAnyH_ready (fuel := 1) (rs := [4]) (by kernel_rfl) (by simp) (AllReadyH.cons rfl (fun K hK => ?_) AllReadyH.nil)
        have r0' := cell_later (bup2 (bdrew w7) b8) r0
        have r1' := cell_later (bup2 (bdrew w7) b8) r1
        have r2' := cell_later (bup2 (bdrew w7) b8) r2
        obtain ⟨-, r3', r4', r5'⟩ := three_at (box_keep HX.out.2.2.1 (bup2 (bdrew w7) b8))
        go_simp
        refine hK.out _ _ ?_ (fun hS => ?_)
        · exact Chg.setCell (S := fun c => c = w.heap.size + 1 + 1) (Chg.setCell (S := fun c => c = w.heap.size + 1 + 1) (Chg.setCell (S := fun c => c = w.heap.size + 1 + 1) (below_chg (bup2 (bdrew w7) b8) _) (p := ⟨w.heap.size + 1 + 1, 0, none⟩) (.inr rfl) _) (p := ⟨w.heap.size + 1 + 1, 1, none⟩) (.inr rfl) _) (p := ⟨w.heap.size + 1 + 1, 2, none⟩) (.inr rfl) _
        refine hs_take (fuel := 0) 5 (some 10) (.int .i64 (-1)) rfl rfl (by kernel_rfl) (by kernel_rfl) (by kernel_rfl) (fun _ _ _ h => h) (by rfl) (fun wq hq => ?_) (by assumption) ?_
        · go_simp
        simp only [Act.put, List.setIfInBounds_toArray, List.set_cons_zero, List.set_cons_succ]
        refine wpAnyH_done (by kernel_rfl) ?_ _
        have hc : Chg (fun c => c = w.heap.size + 1 + 1) w8 (((w8.setCell ⟨w.heap.size + 1 + 1, 0, none⟩ (.int .i64 A)).setCell ⟨w.heap.size + 1 + 1, 1, none⟩ (.int .i64 B)).setCell ⟨w.heap.size + 1 + 1, 2, none⟩ (.int .i64 C)) := Chg.setCell (S := fun c => c = w.heap.size + 1 + 1) (Chg.setCell (S := fun c => c = w.heap.size + 1 + 1) (Chg.setCell (S := fun c => c = w.heap.size + 1 + 1) (Chg.refl _ w8) (p := ⟨w.heap.size + 1 + 1, 0, none⟩) (.inr rfl) _) (p := ⟨w.heap.size + 1 + 1, 1, none⟩) (.inr rfl) _) (p := ⟨w.heap.size + 1 + 1, 2, none⟩) (.inr rfl) _
        have hz9 : w7.heap.size ≤ w7.drew.heap.size := Nat.le_refl _
        have HF := Lib.hid (And.intro (o8.chg hc (fun c hc _ hs => by omega)) (And.intro (below_own (bup2 HX.out.2.2.2.1 (bup2 (bdrew w7) b8)) (bup2 HX.out.2.2.2.1 (bup2 (bdrew w7) b8)).size (hc.mono fun k _ hk => by omega)) hc.size))
        clear hc hS0 k0 k1 k2 o8
        go_wp2_with fail
        refine bodyPost_ret (v := .tuple #[.slice a8 d.length cap8, Value.agg #[.int .i64 A, .int .i64 B, .int .i64 C], .int .i64 (-1)]) (by simp [results, Try.results75, go_sem, r0', r1', r2']) rfl ⟨_, d, ⟨A, B, C⟩, -1, rfl, ?_, HV.out, rfl, HK.out, ?_⟩
        · exact (HF.out.1.wide (by omega)).mono HF.out.2.2
        · exact HF.out.2.1
      · obtain ⟨m7, rfl⟩ := Int.eq_ofNat_of_zero_le (show 0 ≤ x7 by omega)
        have hxd7 : decide ((m7 : Int) < 0) = false := by simp
        have hm : m7 < d.length := by omega
        have HK7 := Lib.hid (hset_ok HK.out (show 0 ≤ (m7 : Int) by omega) (by omega) (HF2.out (by omega)) k)
        obtain ⟨h7, hh7⟩ : ∃ h7, h7 = hset ⟨A, B, C⟩ k m7 := ⟨_, rfl⟩
        have CL := l6Set_any ⟨A, B, C⟩ k m7
        rw [← hh7] at CL HK7
        obtain ⟨A7, B7, C7⟩ := h7
        unfold hdv at CL
        simp only at CL
        have HCL := Lib.hid CL
        clear CL hh7 hx7 f0 f1 HF2
        go_wp2_with fail
        refine (HCL.out _ h3).mono ?_
        rintro e w9 ⟨rfl, b9⟩
        replace HX := Lib.hid (HX.out.below b9)
        obtain ⟨⟨g1, g2, g3⟩, e1, e2, e3⟩ := three_at HX.out.1
        obtain ⟨y0, y1, y2, y3, y4⟩ := five0 (p := ⟨true, fi, pl, va, st⟩) HX.out.2.1
        replace HX := Lib.hid (HX.out.set1 (.int .i64 A7) (.int .i64 B7) (.int .i64 C7))
        clear b9
        have HPr := Lib.hid (HPg.out m7 hm _ (HD.out.below HX.out.2.2.2.1))
        go_wp2_with fail
        refine HPr.out.mono ?_
        rintro e w8 ⟨v8, x8, rfl, o8, b8⟩
        obtain ⟨a8, cap8, b8', off8, rfl, -⟩ := o8.rd.open
        have hl8 : (d.set m7 (wrb (d.getD m7 bk0) p0)).length = d.length := by simp
        rw [hl8] at o8 ⊢
        have HO8 := Lib.hid o8
        have hz8 := HX.out.2.2.2.2
        have hz9 := b8.size
        replace HX := Lib.hid (HX.out.below b8)
        obtain ⟨⟨t0, t1, t2⟩, -⟩ := three_at HX.out.1
        obtain ⟨⟨r0, r1, r2⟩, r3, r4, r5⟩ := three_at HX.out.2.2.1
        have k0 := And.intro t0 (show ¬ w.heap.size = w.heap.size + 1 + 1 by omega)
        have k1 := And.intro t1 (show ¬ w.heap.size = w.heap.size + 1 + 1 by omega)
        have k2 := And.intro t2 (show ¬ w.heap.size = w.heap.size + 1 + 1 by omega)
        clear o8 b8 y0 y1 y2 y3 y4 t0 t1 t2 HPr hl8
        go_wp2_with fail
        refine region_held_n 6 (S := fun w' => Chg (fun c => c = w.heap.size + 1 + 1) w8 w') (by kernel_rfl) (by kernel_rfl) (below_chg (bdrew _) _) (fun hS0 => ?_)
        refine hs_take (fuel := 5) 0 (some 68) (.slice a8 d.length cap8) rfl rfl (by kernel_rfl) (by kernel_rfl) (by kernel_rfl) (fun _ _ _ h => h) (by rfl) (fun wq hq => ?_) (by assumption) ?_
        · go_simp
        simp only [Act.put, List.setIfInBounds_toArray, List.set_cons_zero, List.set_cons_succ]
        refine hs_take (fuel := 4) 1 (some 69) (Value.agg #[.int .i64 A7, .int .i64 B7, .int .i64 C7]) rfl rfl (by kernel_rfl) (by kernel_rfl) (by kernel_rfl) (fun _ _ _ h => h) (by rfl) (fun wq hq => ?_) (by assumption) ?_
        · have p0 := cell_chg hq k0
          have p1 := cell_chg hq k1
          have p2 := cell_chg hq k2
          go_simp
        simp only [Act.put, List.setIfInBounds_toArray, List.set_cons_zero, List.set_cons_succ]
        refine hs_take (fuel := 3) 2 (some 70) (.int .i64 x8) rfl rfl (by kernel_rfl) (by kernel_rfl) (by kernel_rfl) (fun _ _ _ h => h) (by rfl) (fun wq hq => ?_) (by assumption) ?_
        · go_simp
        simp only [Act.put, List.setIfInBounds_toArray, List.set_cons_zero, List.set_cons_succ]
        refine hs_take (fuel := 2) 3 (some 8) (.slice a8 d.length cap8) rfl rfl (by kernel_rfl) (by kernel_rfl) (by kernel_rfl) (fun _ _ _ h => h) (by rfl) (fun wq hq => ?_) (by assumption) ?_
        · go_simp
        simp only [Act.put, List.setIfInBounds_toArray, List.set_cons_zero, List.set_cons_succ]
        refine wpAnyH_ready (fuel := 1) (rs := [4]) (by kernel_rfl) (by simp) (AllReadyH.cons rfl (fun K hK => ?_) AllReadyH.nil)
        have r0' := cell_later (bdrew w8) r0
        have r1' := cell_later (bdrew w8) r1
        have r2' := cell_later (bdrew w8) r2
        go_simp
        refine hK.out _ _ ?_ (fun hS => ?_)
        · exact Chg.setCell (S := fun c => c = w.heap.size + 1 + 1) (Chg.setCell (S := fun c => c = w.heap.size + 1 + 1) (Chg.setCell (S := fun c => c = w.heap.size + 1 + 1) (below_chg (bdrew w8) _) (p := ⟨w.heap.size + 1 + 1, 0, none⟩) (.inr rfl) _) (p := ⟨w.heap.size + 1 + 1, 1, none⟩) (.inr rfl) _) (p := ⟨w.heap.size + 1 + 1, 2, none⟩) (.inr rfl) _
        refine hs_take (fuel := 0) 5 (some 10) (.int .i64 x8) rfl rfl (by kernel_rfl) (by kernel_rfl) (by kernel_rfl) (fun _ _ _ h => h) (by rfl) (fun wq hq => ?_) (by assumption) ?_
        · go_simp
        simp only [Act.put, List.setIfInBounds_toArray, List.set_cons_zero, List.set_cons_succ]
        refine wpAnyH_done (by kernel_rfl) ?_ _
        have hc : Chg (fun c => c = w.heap.size + 1 + 1) w8 ((((w8.drew).setCell ⟨w.heap.size + 1 + 1, 0, none⟩ (.int .i64 A7)).setCell ⟨w.heap.size + 1 + 1, 1, none⟩ (.int .i64 B7)).setCell ⟨w.heap.size + 1 + 1, 2, none⟩ (.int .i64 C7)) := Chg.setCell (S := fun c => c = w.heap.size + 1 + 1) (Chg.setCell (S := fun c => c = w.heap.size + 1 + 1) (Chg.setCell (S := fun c => c = w.heap.size + 1 + 1) (below_chg (bdrew w8) _) (p := ⟨w.heap.size + 1 + 1, 0, none⟩) (.inr rfl) _) (p := ⟨w.heap.size + 1 + 1, 1, none⟩) (.inr rfl) _) (p := ⟨w.heap.size + 1 + 1, 2, none⟩) (.inr rfl) _
        have HF := Lib.hid (And.intro (HO8.out.chg hc (fun c hc _ hs => by omega)) (And.intro (below_own HX.out.2.2.2.1 HX.out.2.2.2.1.size (hc.mono fun k _ hk => by omega)) hc.size))
        clear hc hS0 k0 k1 k2
        go_wp2_with fail
        refine bodyPost_ret (v := .tuple #[.slice a8 d.length cap8, Value.agg #[.int .i64 A7, .int .i64 B7, .int .i64 C7], .int .i64 x8]) (by simp [results, Try.results75, go_sem, r0, r1, r2]) rfl ⟨_, d.set m7 (wrb (d.getD m7 bk0) p0), ⟨A7, B7, C7⟩, x8, rfl, ?_, dv_set HV.out (HWr.out m7 hm), by simp, hdOk_len HK7.out (dv_set HV.out (HWr.out m7 hm)) (by simp), ?_⟩
        · exact (HF.out.1.wide (by omega)).mono HF.out.2.2
        · exact HF.out.2.1
    · have hyd : decide (y < 0) = false := by simpa using hy0
      clear hy0
      obtain ⟨y0, y1, y2, y3, y4⟩ := five0 (p := ⟨true, fi, pl, va, st⟩) HX.out.2.1
      have HPr := Lib.hid (HPg.out m hm _ (HD.out.below HX.out.2.2.2.1))
      go_wp2_with fail
      refine HPr.out.mono ?_
      rintro e w8 ⟨v8, x8, rfl, o8, b8⟩
      obtain ⟨a8, cap8, b8', off8, rfl, -⟩ := o8.rd.open
      have hl8 : (d.set m (wrb (d.getD m bk0) p0)).length = d.length := by simp
      rw [hl8] at o8 ⊢
      have HO8 := Lib.hid o8
      have hz8 := HX.out.2.2.2.2
      have hz9 := b8.size
      replace HX := Lib.hid (HX.out.below b8)
      obtain ⟨⟨t0, t1, t2⟩, -⟩ := three_at HX.out.1
      obtain ⟨⟨r0, r1, r2⟩, r3, r4, r5⟩ := three_at HX.out.2.2.1
      have k0 := And.intro t0 (show ¬ w.heap.size = w.heap.size + 1 + 1 by omega)
      have k1 := And.intro t1 (show ¬ w.heap.size = w.heap.size + 1 + 1 by omega)
      have k2 := And.intro t2 (show ¬ w.heap.size = w.heap.size + 1 + 1 by omega)
      clear o8 b8 y0 y1 y2 y3 y4 t0 t1 t2 HPr hl8
      go_wp2_with fail
      refine region_held_n 6 (S := fun w' => Chg (fun c => c = w.heap.size + 1 + 1) w8 w') (by kernel_rfl) (by kernel_rfl) (below_chg (bdrew _) _) (fun hS0 => ?_)
      refine hs_take (fuel := 5) 0 (some 68) (.slice a8 d.length cap8) rfl rfl (by kernel_rfl) (by kernel_rfl) (by kernel_rfl) (fun _ _ _ h => h) (by rfl) (fun wq hq => ?_) (by assumption) ?_
      · go_simp
      simp only [Act.put, List.setIfInBounds_toArray, List.set_cons_zero, List.set_cons_succ]
      refine hs_take (fuel := 4) 1 (some 69) (Value.agg #[.int .i64 A, .int .i64 B, .int .i64 C]) rfl rfl (by kernel_rfl) (by kernel_rfl) (by kernel_rfl) (fun _ _ _ h => h) (by rfl) (fun wq hq => ?_) (by assumption) ?_
      · have p0 := cell_chg hq k0
        have p1 := cell_chg hq k1
        have p2 := cell_chg hq k2
        go_simp
      simp only [Act.put, List.setIfInBounds_toArray, List.set_cons_zero, List.set_cons_succ]
      refine hs_take (fuel := 3) 2 (some 70) (.int .i64 x8) rfl rfl (by kernel_rfl) (by kernel_rfl) (by kernel_rfl) (fun _ _ _ h => h) (by rfl) (fun wq hq => ?_) (by assumption) ?_
      · go_simp
      simp only [Act.put, List.setIfInBounds_toArray, List.set_cons_zero, List.set_cons_succ]
      refine hs_take (fuel := 2) 3 (some 8) (.slice a8 d.length cap8) rfl rfl (by kernel_rfl) (by kernel_rfl) (by kernel_rfl) (fun _ _ _ h => h) (by rfl) (fun wq hq => ?_) (by assumption) ?_
      · go_simp
      simp only [Act.put, List.setIfInBounds_toArray, List.set_cons_zero, List.set_cons_succ]
      refine wpAnyH_ready (fuel := 1) (rs := [4]) (by kernel_rfl) (by simp) (AllReadyH.cons rfl (fun K hK => ?_) AllReadyH.nil)
      have r0' := cell_later (bdrew w8) r0
      have r1' := cell_later (bdrew w8) r1
      have r2' := cell_later (bdrew w8) r2
      go_simp
      refine hK.out _ _ ?_ (fun hS => ?_)
      · exact Chg.setCell (S := fun c => c = w.heap.size + 1 + 1) (Chg.setCell (S := fun c => c = w.heap.size + 1 + 1) (Chg.setCell (S := fun c => c = w.heap.size + 1 + 1) (below_chg (bdrew w8) _) (p := ⟨w.heap.size + 1 + 1, 0, none⟩) (.inr rfl) _) (p := ⟨w.heap.size + 1 + 1, 1, none⟩) (.inr rfl) _) (p := ⟨w.heap.size + 1 + 1, 2, none⟩) (.inr rfl) _
      refine hs_take (fuel := 0) 5 (some 10) (.int .i64 x8) rfl rfl (by kernel_rfl) (by kernel_rfl) (by kernel_rfl) (fun _ _ _ h => h) (by rfl) (fun wq hq => ?_) (by assumption) ?_
      · go_simp
      simp only [Act.put, List.setIfInBounds_toArray, List.set_cons_zero, List.set_cons_succ]
      refine wpAnyH_done (by kernel_rfl) ?_ _
      have hc : Chg (fun c => c = w.heap.size + 1 + 1) w8 ((((w8.drew).setCell ⟨w.heap.size + 1 + 1, 0, none⟩ (.int .i64 A)).setCell ⟨w.heap.size + 1 + 1, 1, none⟩ (.int .i64 B)).setCell ⟨w.heap.size + 1 + 1, 2, none⟩ (.int .i64 C)) := Chg.setCell (S := fun c => c = w.heap.size + 1 + 1) (Chg.setCell (S := fun c => c = w.heap.size + 1 + 1) (Chg.setCell (S := fun c => c = w.heap.size + 1 + 1) (below_chg (bdrew w8) _) (p := ⟨w.heap.size + 1 + 1, 0, none⟩) (.inr rfl) _) (p := ⟨w.heap.size + 1 + 1, 1, none⟩) (.inr rfl) _) (p := ⟨w.heap.size + 1 + 1, 2, none⟩) (.inr rfl) _
      have HF := Lib.hid (And.intro (HO8.out.chg hc (fun c hc _ hs => by omega)) (And.intro (below_own HX.out.2.2.2.1 HX.out.2.2.2.1.size (hc.mono fun k _ hk => by omega)) hc.size))
      clear hc hS0 k0 k1 k2
      go_wp2_with fail
      refine bodyPost_ret (v := .tuple #[.slice a8 d.length cap8, Value.agg #[.int .i64 A, .int .i64 B, .int .i64 C], .int .i64 x8]) (by simp [results, Try.results75, go_sem, r0, r1, r2]) rfl ⟨_, d.set m (wrb (d.getD m bk0) p0), ⟨A, B, C⟩, x8, rfl, ?_, dv_set HV.out (HWr.out m hm), by simp, hdOk_len HK.out (dv_set HV.out (HWr.out m hm)) (by simp), ?_⟩
      · exact (HF.out.1.wide (by omega)).mono HF.out.2.2
      · exact HF.out.2.1

end Go.Proofs.Ytjmofmdcegefgaa

