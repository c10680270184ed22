/-
  Texts of this claim, laid together: Dre.
-/
import Derived.Test.YtjmofmdcegefgaaQ31
namespace Go.Proofs.Ytjmofmdcegefgaa
open Go.RowKit
set_option linter.unusedSimpArgs false
set_option linter.unusedVariables false
set_option linter.unnecessarySimpa false
variable {H : Nat}

theorem HdI_m1 : HdI ⟨-1, -1, -1⟩ := by unfold HdI I64; simp
theorem DvB.pick {w wr w' : World} {rb q q' T : Nat} {h : Hd} (hs : DvB H w rb q T h wr) (c : Chg (· = rb) wr w') (r : RdLe H w' rb q') : DvB H w rb q' T h w' := by
  obtain ⟨h1, h2, h3, h4⟩ := hs
  have hrb := h1.2.2
  exact ⟨h1.pick c r, h2, box_chg h3 c (by omega), box_chg h4 c (by omega)⟩
theorem nine_at {w : World} {B : Nat} {x0 x1 x2 x3 x4 x5 x6 x7 x8 : Value} {t : TypeId} (h : w.heap[B]? = some (.cells #[x0, x1, x2, x3, x4, x5, x6, x7, x8] t (0, 0))) :
    (w.cell? ⟨B, 0, none⟩ = some x0 ∧ w.cell? ⟨B, 1, none⟩ = some x1 ∧ w.cell? ⟨B, 2, none⟩ = some x2) ∧ (w.cell? ⟨B, 3, none⟩ = some x3 ∧ w.cell? ⟨B, 4, none⟩ = some x4 ∧ w.cell? ⟨B, 5, none⟩ = some x5) ∧ (w.cell? ⟨B, 6, none⟩ = some x6 ∧ w.cell? ⟨B, 7, none⟩ = some x7 ∧ w.cell? ⟨B, 8, none⟩ = some x8) := by
  simp [World.cell?, h]
theorem heads_end {w W : World} {rb q hi : Nat} {d : List Bk} {v : Value} {h : Hd} (hB : Dr H w rb q W) (hr : RD W (w.heap.size + 1) hi v d) (hh : hi ≤ W.heap.size) :
    RD (((W.setCell ⟨w.heap.size, 0, none⟩ (.int .i64 h.hot)).setCell ⟨w.heap.size, 1, none⟩ (.int .i64 h.warm)).setCell ⟨w.heap.size, 2, none⟩ (.int .i64 h.cold)) w.heap.size (((W.setCell ⟨w.heap.size, 0, none⟩ (.int .i64 h.hot)).setCell ⟨w.heap.size, 1, none⟩ (.int .i64 h.warm)).setCell ⟨w.heap.size, 2, none⟩ (.int .i64 h.cold)).heap.size v d ∧
    Dr H w rb q (((W.setCell ⟨w.heap.size, 0, none⟩ (.int .i64 h.hot)).setCell ⟨w.heap.size, 1, none⟩ (.int .i64 h.warm)).setCell ⟨w.heap.size, 2, none⟩ (.int .i64 h.cold)) := by
  have hc : Chg (fun c => c = w.heap.size) W (((W.setCell ⟨w.heap.size, 0, none⟩ (.int .i64 h.hot)).setCell ⟨w.heap.size, 1, none⟩ (.int .i64 h.warm)).setCell ⟨w.heap.size, 2, none⟩ (.int .i64 h.cold)) := Chg.setCell (S := fun c => c = w.heap.size) (Chg.setCell (S := fun c => c = w.heap.size) (Chg.setCell (S := fun c => c = w.heap.size) (Chg.refl _ _) (p := ⟨w.heap.size, 0, none⟩) (.inr rfl) _) (p := ⟨w.heap.size, 1, none⟩) (.inr rfl) _) (p := ⟨w.heap.size, 2, none⟩) (.inr rfl) _
  exact ⟨(hr.chg hc (fun k hk _ hs => by omega)).wide (by omega) (Nat.le_trans hh hc.size), hB.own (hc.mono fun k _ hk => by omega)⟩
/-- The heads laid anew. -/
theorem DvB.put {w wr : World} {rb q T : Nat} {h h2 : Hd} (hs : DvB H w rb q T h wr) :
    DvB H w rb q T h2 (((wr.setCell ⟨T, 0, none⟩ (.int .i64 h2.hot)).setCell ⟨T, 1, none⟩ (.int .i64 h2.warm)).setCell ⟨T, 2, none⟩ (.int .i64 h2.cold)) ∧ Chg (fun c => c = T) wr (((wr.setCell ⟨T, 0, none⟩ (.int .i64 h2.hot)).setCell ⟨T, 1, none⟩ (.int .i64 h2.warm)).setCell ⟨T, 2, none⟩ (.int .i64 h2.cold)) := by
  obtain ⟨k1, k2, k3, k4⟩ := hs
  have hc : Chg (fun c => c = T) wr (((wr.setCell ⟨T, 0, none⟩ (.int .i64 h2.hot)).setCell ⟨T, 1, none⟩ (.int .i64 h2.warm)).setCell ⟨T, 2, none⟩ (.int .i64 h2.cold)) := Chg.setCell (S := fun c => c = T) (Chg.setCell (S := fun c => c = T) (Chg.setCell (S := fun c => c = T) (Chg.refl _ _) (p := ⟨T, 0, none⟩) (.inr rfl) _) (p := ⟨T, 1, none⟩) (.inr rfl) _) (p := ⟨T, 2, none⟩) (.inr rfl) _
  unfold hbox at k3
  exact ⟨⟨k1.own (hc.mono fun k _ hk => by omega), k2, box3_set k3, box_chg k4 hc (by omega)⟩, hc⟩

set_option maxHeartbeats 2000000 in
set_option maxRecDepth 8000 in
theorem heads_any (w : World) (rb q : Nat) (m : Int) (hr : RdLe H w rb q) (hq : q ≤ 5000) (hm1 : 0 ≤ m) (hm : m ≤ 1000) : Calls Try.prog 69 #[.pointer (some ⟨rb, 0, none⟩), .int .i64 m] w (DevR H rb (q + 3) w) := by
  have D := Lib.hid ((Dr.start hr).below (balloc w (.cells #[.int .i64 0, .int .i64 0, .int .i64 0] 36)))
  have X := Lib.hid (heap_alloc_new w (.cells #[.int .i64 0, .int .i64 0, .int .i64 0] 36))
  have hrbw := hr.lt
  clear hr
  go_enter Try.func69, Try.ntmps69
  go_wp2_with fail
  refine (device_any _ rb q m D.out.1 (by omega) (by omega) (by omega)).mono ?_
  rintro e w1 ⟨v, d, ⟨A, B, C⟩, rfl, hrd, hl, hp, hi, hdr⟩
  obtain ⟨a, cap, b, off, rfl, -⟩ := hrd.open
  have HP := Lib.hid hp
  have HI := Lib.hid hi
  have hz1 : w.heap.size < w1.heap.size := (Array.getElem?_eq_some_iff.1 (D.out.box (Nat.le_refl _) hdr.2.1 X.out)).1
  have HB : Hid (DvB H w rb (q + 200) w1.heap.size ⟨A, B, C⟩ (w1.alloc (hbox ⟨A, B, C⟩))) :=
    Lib.hid ⟨(D.out.pick hdr.2.1 hdr.1).below (balloc _ _), hz1, heap_alloc_new w1 _, box_keep (D.out.box (Nat.le_refl _) hdr.2.1 X.out) (balloc _ _)⟩
  have HRD : Hid (RD (w1.alloc (hbox ⟨A, B, C⟩)) (w.heap.size + 1) w1.heap.size (.slice a d.length cap) d) := Lib.hid ((hrd.below (balloc _ _)).wide (by simp) (Nat.le_refl _))
  unfold hbox at HB HRD
  unfold hdv
  simp only at HB HRD ⊢
  clear hrd hp hi hdr D X
  obtain ⟨T, hT⟩ : ∃ T, T = w1.heap.size := ⟨_, rfl⟩
  rw [← hT] at HB HRD hz1
  have HT := Lib.hid hT.symm
  clear hT
  have hTw : ¬ T = w.heap.size := by omega
  have hTw2 : ¬ w.heap.size = T := by omega
  go_wp2_with fail
  refine (odd_le _ rb _ m HB.out.1.1 (by omega) (by omega) (by omega)).mono ?_
  rintro e w2 ⟨bb, rfl, r1, c1, -⟩
  replace HB := Lib.hid (HB.out.pick c1 r1)
  replace HRD := Lib.hid (HRD.out.chg c1 (fun k hk _ hs => by omega))
  rw [HT.out]
  clear r1 c1
  cases bb
  · go_wp2_with fail
    refine (pick_le _ rb _ 4 HB.out.1.1 (by omega) (by omega) (by omega)).mono ?_
    rintro e w3 ⟨x, rfl, x0, x1, r1, c1, -⟩
    replace HB := Lib.hid (HB.out.pick c1 r1)
    replace HRD := Lib.hid (HRD.out.chg c1 (fun k hk _ hs => by omega))
    clear r1 c1
    cases hx : (x == 0)
    · skip
      go_wp2_with fail
      obtain ⟨⟨t0, t1, t2⟩, -⟩ := three_at (show (w3).heap[T]? = some (.cells #[.int .i64 A, .int .i64 B, .int .i64 C] 36) from HB.out.2.2.1)
      have k0 := And.intro t0 hTw
      have k1 := And.intro t1 hTw
      have k2 := And.intro t2 hTw
      clear t0 t1 t2
      obtain ⟨⟨r0, r1, r2⟩, r3, r4, r5⟩ := three_at HB.out.2.2.2
      have HE := Lib.hid (dev_end (hi := T) (HB.out.below (bdrew (w3))) (HRD.out.below (bdrew (w3))) (Nat.le_of_lt (Array.getElem?_eq_some_iff.1 (HB.out.below (bdrew (w3))).2.2.1).1))
      refine region_held_n 4 (S := fun w' => Chg (fun c => c = w.heap.size) (w3) w') (by kernel_rfl) (by kernel_rfl) (below_chg (bdrew _) _) (fun hS0 => ?_)
      refine hs_take (fuel := 3) 0 (some 32) (Value.slice a d.length cap) rfl rfl (by kernel_rfl) (by kernel_rfl) (by kernel_rfl) (fun _ _ _ h => h) (by rfl) (fun wq hq => ?_) (by assumption) ?_
      · go_simp
      simp only [Act.put, List.setIfInBounds_toArray, List.set_cons_zero, List.set_cons_succ]
      refine hs_take (fuel := 2) 1 (some 33) (Value.agg #[.int .i64 A, .int .i64 B, .int .i64 C]) rfl rfl (by kernel_rfl) (by kernel_rfl) (by kernel_rfl) (fun _ _ _ h => h) (by rfl) (fun wq hq => ?_) (by assumption) ?_
      · have p0 := cell_chg hq k0
        have p1 := cell_chg hq k1
        have p2 := cell_chg hq k2
        go_simp
      simp only [Act.put, List.setIfInBounds_toArray, List.set_cons_zero, List.set_cons_succ]
      refine hs_take (fuel := 1) 2 (some 4) (Value.slice a d.length cap) rfl rfl (by kernel_rfl) (by kernel_rfl) (by kernel_rfl) (fun _ _ _ h => h) (by rfl) (fun wq hq => ?_) (by assumption) ?_
      · go_simp
      simp only [Act.put, List.setIfInBounds_toArray, List.set_cons_zero, List.set_cons_succ]
      refine wpAnyH_ready (fuel := 0) (rs := [3]) (by kernel_rfl) (by simp) (AllReadyH.cons rfl (fun K hK => ?_) AllReadyH.nil)
      have r0' := cell_later (bdrew (w3)) r0
      have r1' := cell_later (bdrew (w3)) r1
      have r2' := cell_later (bdrew (w3)) r2
      go_simp
      refine hK.out _ _ ?_ (fun hS => ?_)
      · exact Chg.setCell (S := fun c => c = w.heap.size) (Chg.setCell (S := fun c => c = w.heap.size) (Chg.setCell (S := fun c => c = w.heap.size) (below_chg (bdrew _) _) (p := ⟨w.heap.size, 0, none⟩) (.inr rfl) _) (p := ⟨w.heap.size, 1, none⟩) (.inr rfl) _) (p := ⟨w.heap.size, 2, none⟩) (.inr rfl) _
      refine wpAnyH_done (by kernel_rfl) ?_ _
      go_wp2_with fail
      exact bodyPost_ret (v := .tuple #[Value.slice a d.length cap, Value.agg #[.int .i64 A, .int .i64 B, .int .i64 C]]) (by simp [results, Try.results69, go_sem, r0, r1, r2]) rfl ⟨_, d, ⟨A, B, C⟩, rfl, HE.out.1, hl, HP.out, HI.out, HE.out.2.up (by omega)⟩
    · obtain ⟨⟨t0, t1, t2⟩, t3, t4, t5⟩ := three_at (show w3.heap[T]? = some (.cells #[.int .i64 A, .int .i64 B, .int .i64 C] 36) from HB.out.2.2.1)
      obtain ⟨e1, e2⟩ := HB.out.put (h2 := ⟨-1, -1, -1⟩)
      have HB5 := Lib.hid e1
      have HRD5 := Lib.hid (HRD.out.chg e2 (fun k hk _ hs => by omega))
      clear e1 e2
      go_wp2_with fail
      generalize ((w3.setCell ⟨T, 0, none⟩ (.int .i64 (-1))).setCell ⟨T, 1, none⟩ (.int .i64 (-1))).setCell ⟨T, 2, none⟩ (.int .i64 (-1)) = w5 at HB5 HRD5 ⊢
      clear t0 t1 t2 t3 t4 t5
      go_wp2_with fail
      obtain ⟨⟨t0, t1, t2⟩, -⟩ := three_at (show (w5).heap[T]? = some (.cells #[.int .i64 (-1), .int .i64 (-1), .int .i64 (-1)] 36) from HB5.out.2.2.1)
      have k0 := And.intro t0 hTw
      have k1 := And.intro t1 hTw
      have k2 := And.intro t2 hTw
      clear t0 t1 t2
      obtain ⟨⟨r0, r1, r2⟩, r3, r4, r5⟩ := three_at HB5.out.2.2.2
      have HE := Lib.hid (dev_end (hi := T) (HB5.out.below (bdrew (w5))) (HRD5.out.below (bdrew (w5))) (Nat.le_of_lt (Array.getElem?_eq_some_iff.1 (HB5.out.below (bdrew (w5))).2.2.1).1))
      refine region_held_n 4 (S := fun w' => Chg (fun c => c = w.heap.size) (w5) w') (by kernel_rfl) (by kernel_rfl) (below_chg (bdrew _) _) (fun hS0 => ?_)
      refine hs_take (fuel := 3) 0 (some 32) (Value.slice a d.length cap) rfl rfl (by kernel_rfl) (by kernel_rfl) (by kernel_rfl) (fun _ _ _ h => h) (by rfl) (fun wq hq => ?_) (by assumption) ?_
      · go_simp
      simp only [Act.put, List.setIfInBounds_toArray, List.set_cons_zero, List.set_cons_succ]
      refine hs_take (fuel := 2) 1 (some 33) (Value.agg #[.int .i64 (-1), .int .i64 (-1), .int .i64 (-1)]) rfl rfl (by kernel_rfl) (by kernel_rfl) (by kernel_rfl) (fun _ _ _ h => h) (by rfl) (fun wq hq => ?_) (by assumption) ?_
      · have p0 := cell_chg hq k0
        have p1 := cell_chg hq k1
        have p2 := cell_chg hq k2
        go_simp
      simp only [Act.put, List.setIfInBounds_toArray, List.set_cons_zero, List.set_cons_succ]
      refine hs_take (fuel := 1) 2 (some 4) (Value.slice a d.length cap) rfl rfl (by kernel_rfl) (by kernel_rfl) (by kernel_rfl) (fun _ _ _ h => h) (by rfl) (fun wq hq => ?_) (by assumption) ?_
      · go_simp
      simp only [Act.put, List.setIfInBounds_toArray, List.set_cons_zero, List.set_cons_succ]
      refine wpAnyH_ready (fuel := 0) (rs := [3]) (by kernel_rfl) (by simp) (AllReadyH.cons rfl (fun K hK => ?_) AllReadyH.nil)
      have r0' := cell_later (bdrew (w5)) r0
      have r1' := cell_later (bdrew (w5)) r1
      have r2' := cell_later (bdrew (w5)) r2
      go_simp
      refine hK.out _ _ ?_ (fun hS => ?_)
      · exact Chg.setCell (S := fun c => c = w.heap.size) (Chg.setCell (S := fun c => c = w.heap.size) (Chg.setCell (S := fun c => c = w.heap.size) (below_chg (bdrew _) _) (p := ⟨w.heap.size, 0, none⟩) (.inr rfl) _) (p := ⟨w.heap.size, 1, none⟩) (.inr rfl) _) (p := ⟨w.heap.size, 2, none⟩) (.inr rfl) _
      refine wpAnyH_done (by kernel_rfl) ?_ _
      go_wp2_with fail
      exact bodyPost_ret (v := .tuple #[Value.slice a d.length cap, Value.agg #[.int .i64 (-1), .int .i64 (-1), .int .i64 (-1)]]) (by simp [results, Try.results69, go_sem, r0, r1, r2]) rfl ⟨_, d, ⟨(-1), (-1), (-1)⟩, rfl, HE.out.1, hl, HP.out, HdI_m1, HE.out.2.up (by omega)⟩
  · skip
    go_wp2_with fail
    obtain ⟨⟨r0, r1, r2⟩, r3, r4, r5⟩ := three_at HB.out.2.2.2
    have hz2 : w.heap.size < w2.heap.size := (Array.getElem?_eq_some_iff.1 HB.out.2.2.2).1
    have hTl : T < w2.heap.size := (Array.getElem?_eq_some_iff.1 HB.out.2.2.1).1
    have hrb2 : rb < w2.heap.size := by omega
    clear r0 r1 r2 r3 r4 r5
    refine region_held_n 13 (S := fun w' => Chg (fun c => c = rb ∨ c = w.heap.size) w2 w') (by kernel_rfl) (by kernel_rfl) (below_chg (bdrew _) _) (fun hS0 => ?_)
    refine hs_take (fuel := 12) 0 (some 17) (Value.slice a d.length cap) rfl rfl (by kernel_rfl) (by kernel_rfl) (by kernel_rfl) (fun _ _ _ h => h) (by rfl) (fun wq hq => ?_) (by assumption) ?_
    · go_simp
    simp only [Act.put, List.setIfInBounds_toArray, List.set_cons_zero, List.set_cons_succ]
    refine hs_take (fuel := 11) 1 (some 18) (Value.agg #[.int .i64 1, .int .i64 1, .int .i64 (-1)]) rfl rfl (by kernel_rfl) (by kernel_rfl) (by kernel_rfl) (fun _ _ _ h => h) (by rfl) (fun wq hq => ?_) (by assumption) ?_
    · go_simp
    simp only [Act.put, List.setIfInBounds_toArray, List.set_cons_zero, List.set_cons_succ]
    refine hs_take (fuel := 10) 2 (some 19) (Value.slice a d.length cap) rfl rfl (by kernel_rfl) (by kernel_rfl) (by kernel_rfl) (fun _ _ _ h => h) (by rfl) (fun wq hq => ?_) (by assumption) ?_
    · go_simp
    simp only [Act.put, List.setIfInBounds_toArray, List.set_cons_zero, List.set_cons_succ]
    refine hs_take (fuel := 9) 3 (some 20) (.int .i64 d.length) rfl rfl (by kernel_rfl) (by kernel_rfl) (by kernel_rfl) (fun _ _ _ h => h) (by rfl) (fun wq hq => ?_) (by assumption) ?_
    · go_simp
    simp only [Act.put, List.setIfInBounds_toArray, List.set_cons_zero, List.set_cons_succ]
    refine hs_take (fuel := 8) 4 (some 21) (Value.agg #[.int .i64 d.length, .int .i64 (-1), .int .i64 (-1)]) rfl rfl (by kernel_rfl) (by kernel_rfl) (by kernel_rfl) (fun _ _ _ h => h) (by rfl) (fun wq hq => ?_) (by assumption) ?_
    · go_simp
    simp only [Act.put, List.setIfInBounds_toArray, List.set_cons_zero, List.set_cons_succ]
    refine hs_take (fuel := 7) 5 (some 22) (Value.agg #[.int .i64 (-2), .int .i64 (-1), .int .i64 (-1)]) rfl rfl (by kernel_rfl) (by kernel_rfl) (by kernel_rfl) (fun _ _ _ h => h) (by rfl) (fun wq hq => ?_) (by assumption) ?_
    · go_simp
    simp only [Act.put, List.setIfInBounds_toArray, List.set_cons_zero, List.set_cons_succ]
    refine hs_take (fuel := 6) 7 (some 24) (.pointer (some ⟨rb, 0, none⟩)) rfl rfl (by kernel_rfl) (by kernel_rfl) (by kernel_rfl) (fun _ _ _ h => h) (by rfl) (fun wq hq => ?_) (by assumption) ?_
    · go_simp
    simp only [Act.put, List.setIfInBounds_toArray, List.set_cons_zero, List.set_cons_succ]
    refine wpAnyH_ready (fuel := 5) (rs := [6, 8]) (by kernel_rfl) (by simp) (AllReadyH.cons rfl (fun K0 hK0 => ?_) (AllReadyH.cons rfl (fun K0 hK0 => ?_) AllReadyH.nil))
    · go_simp
      have hS1 : Chg (fun c => c = rb ∨ c = w.heap.size) w2 (w2.drew.alloc (.cells #[.int .i64 1, .int .i64 1, .int .i64 (-1), .int .i64 d.length, .int .i64 (-1), .int .i64 (-1), .int .i64 (-2), .int .i64 (-1), .int .i64 (-1)] 36)) := hS0.trans (below_chg (balloc _ _) _)
      have XL0 := heap_alloc_new w2.drew (.cells #[.int .i64 1, .int .i64 1, .int .i64 (-1), .int .i64 d.length, .int .i64 (-1), .int .i64 (-1), .int .i64 (-2), .int .i64 (-1), .int .i64 (-1)] 36)
      have rd0 : RdLe H (w2.drew.alloc (.cells #[.int .i64 1, .int .i64 1, .int .i64 (-1), .int .i64 d.length, .int .i64 (-1), .int .i64 (-1), .int .i64 (-2), .int .i64 (-1), .int .i64 (-1)] 36)) rb _ := HB.out.1.1.kept (bup2 (bdrew w2) (balloc w2.drew (.cells #[.int .i64 1, .int .i64 1, .int .i64 (-1), .int .i64 d.length, .int .i64 (-1), .int .i64 (-1), .int .i64 (-2), .int .i64 (-1), .int .i64 (-1)] 36)))
      refine hK0.out _ _ hS1 (fun _ => ?_)
      refine wpAnyH_ready (fuel := 4) (rs := [8]) (by kernel_rfl) (by simp) (AllReadyH.cons rfl (fun K1 hK1 => ?_) AllReadyH.nil)
      go_simp
      refine (pick_le _ rb _ 3 rd0 (by omega) (by omega) (by omega)).mono ?_
      rintro e w3 ⟨kk, rfl, kk0, kk1, rd3, cc3, -⟩
      obtain ⟨k, rfl⟩ := Int.eq_ofNat_of_zero_le kk0
      have hS3 : Chg (fun c => c = rb ∨ c = w.heap.size) w2 w3 := Chg.trans hS1 (cc3.mono fun c _ hc => .inl hc)
      refine hK1.out _ _ hS3 (fun _ => ?_)
      have XL : w3.heap[w2.heap.size]? = some (.cells #[.int .i64 1, .int .i64 1, .int .i64 (-1), .int .i64 d.length, .int .i64 (-1), .int .i64 (-1), .int .i64 (-2), .int .i64 (-1), .int .i64 (-1)] 36) := box_chg XL0 cc3 (by show ¬ w2.drew.heap.size = rb; show ¬ w2.heap.size = rb; omega)
      have HB4 := Lib.hid ((HB.out.below (bup2 (bdrew w2) (balloc w2.drew (.cells #[.int .i64 1, .int .i64 1, .int .i64 (-1), .int .i64 d.length, .int .i64 (-1), .int .i64 (-1), .int .i64 (-2), .int .i64 (-1), .int .i64 (-1)] 36)))).pick cc3 rd3)
      have HRD4 := Lib.hid ((HRD.out.below (bup2 (bdrew w2) (balloc w2.drew (.cells #[.int .i64 1, .int .i64 1, .int .i64 (-1), .int .i64 d.length, .int .i64 (-1), .int .i64 (-1), .int .i64 (-2), .int .i64 (-1), .int .i64 (-1)] 36)))).chg cc3 (fun k hk _ hs => by omega))
      have hS4 := hS3
      clear XL0 rd0 rd3 cc3
      refine hs_take (fuel := 3) 11 (some 4) (Value.slice a d.length cap) rfl rfl (by kernel_rfl) (by kernel_rfl) (by kernel_rfl) (fun _ _ _ h => h) (by rfl) (fun wq hq => ?_) (by assumption) ?_
      · go_simp
      simp only [Act.put, List.setIfInBounds_toArray, List.set_cons_zero, List.set_cons_succ]
      obtain ⟨A8, B8, C8, x0, x1, x2, hI8⟩ : ∃ A8 B8 C8 : Int, w3.cell? ⟨w2.heap.size, k * 3, none⟩ = some (.int .i64 A8) ∧ w3.cell? ⟨w2.heap.size, k * 3 + 1, none⟩ = some (.int .i64 B8) ∧ w3.cell? ⟨w2.heap.size, k * 3 + 2, none⟩ = some (.int .i64 C8) ∧ HdI ⟨A8, B8, C8⟩ := by
        obtain rfl | rfl | rfl : k = 0 ∨ k = 1 ∨ k = 2 := by omega
        · exact ⟨1, 1, -1, (nine_at XL).1.1, (nine_at XL).1.2.1, (nine_at XL).1.2.2, by unfold HdI I64; simp⟩
        · exact ⟨d.length, -1, -1, (nine_at XL).2.1.1, (nine_at XL).2.1.2.1, (nine_at XL).2.1.2.2, by unfold HdI I64; simp; omega⟩
        · exact ⟨-2, -1, -1, (nine_at XL).2.2.1, (nine_at XL).2.2.2.1, (nine_at XL).2.2.2.2, by unfold HdI I64; simp⟩
      have HI8 := Lib.hid hI8
      clear hI8 XL
      have hk3 : (k : Int) < 3 := by omega
      obtain ⟨⟨r0, r1, r2⟩, r3, r4, r5⟩ := three_at HB4.out.2.2.2
      have HE := Lib.hid (heads_end (h := ⟨A8, B8, C8⟩) (hi := T) HB4.out.1 HRD4.out (Nat.le_of_lt (Array.getElem?_eq_some_iff.1 HB4.out.2.2.1).1))
      refine hs_take (fuel := 2) 9 (some 26) (.pointer (some ⟨w2.heap.size, k * 3, none⟩)) rfl rfl (by kernel_rfl) (by kernel_rfl) (by kernel_rfl) (fun _ _ _ h => h) (by rfl) (fun wq hq => ?_) (by assumption) ?_
      · go_simp
      simp only [Act.put, List.setIfInBounds_toArray, List.set_cons_zero, List.set_cons_succ]
      refine wpAnyH_ready (fuel := 1) (rs := [10]) (by kernel_rfl) (by simp) (AllReadyH.cons rfl (fun K hK => ?_) AllReadyH.nil)
      go_simp
      refine hK.out _ _ ?_ (fun hS => ?_)
      · exact hS4
      refine wpAnyH_ready (fuel := 0) (rs := [12]) (by kernel_rfl) (by simp) (AllReadyH.cons rfl (fun K hK => ?_) AllReadyH.nil)
      go_simp
      refine hK.out _ _ ?_ (fun hS => ?_)
      · exact Chg.setCell (S := fun c => c = rb ∨ c = w.heap.size) (Chg.setCell (S := fun c => c = rb ∨ c = w.heap.size) (Chg.setCell (S := fun c => c = rb ∨ c = w.heap.size) (hS4) (p := ⟨w.heap.size, 0, none⟩) (.inr (.inr rfl)) _) (p := ⟨w.heap.size, 1, none⟩) (.inr (.inr rfl)) _) (p := ⟨w.heap.size, 2, none⟩) (.inr (.inr rfl)) _
      refine wpAnyH_done (by kernel_rfl) ?_ _
      go_wp2_with fail
      exact bodyPost_ret (v := .tuple #[Value.slice a d.length cap, Value.agg #[.int .i64 A8, .int .i64 B8, .int .i64 C8]]) (by simp [results, Try.results69, go_sem, r0, r1, r2]) rfl ⟨_, d, ⟨A8, B8, C8⟩, rfl, HE.out.1, hl, HP.out, HI8.out, HE.out.2.up (by omega)⟩
    · have rd0 : RdLe H w2.drew rb _ := HB.out.1.1.kept (bdrew w2)
      go_simp
      refine (pick_le _ rb _ 3 rd0 (by omega) (by omega) (by omega)).mono ?_
      rintro e w3 ⟨kk, rfl, kk0, kk1, rd3, cc3, -⟩
      obtain ⟨k, rfl⟩ := Int.eq_ofNat_of_zero_le kk0
      have hS3 : Chg (fun c => c = rb ∨ c = w.heap.size) w2 w3 := Chg.trans hS0 (cc3.mono fun c _ hc => .inl hc)
      refine hK0.out _ _ hS3 (fun _ => ?_)
      refine hs_take (fuel := 4) 11 (some 4) (Value.slice a d.length cap) rfl rfl (by kernel_rfl) (by kernel_rfl) (by kernel_rfl) (fun _ _ _ h => h) (by rfl) (fun wq hq => ?_) (by assumption) ?_
      · go_simp
      simp only [Act.put, List.setIfInBounds_toArray, List.set_cons_zero, List.set_cons_succ]
      refine wpAnyH_ready (fuel := 3) (rs := [6]) (by kernel_rfl) (by simp) (AllReadyH.cons rfl (fun K1 hK1 => ?_) AllReadyH.nil)
      go_simp
      have hS4 : Chg (fun c => c = rb ∨ c = w.heap.size) w2 (w3.alloc (.cells #[.int .i64 1, .int .i64 1, .int .i64 (-1), .int .i64 d.length, .int .i64 (-1), .int .i64 (-1), .int .i64 (-2), .int .i64 (-1), .int .i64 (-1)] 36)) := hS3.trans (below_chg (balloc _ _) _)
      have XL := heap_alloc_new w3 (.cells #[.int .i64 1, .int .i64 1, .int .i64 (-1), .int .i64 d.length, .int .i64 (-1), .int .i64 (-1), .int .i64 (-2), .int .i64 (-1), .int .i64 (-1)] 36)
      have HB4 := Lib.hid (((HB.out.below (bdrew w2)).pick cc3 rd3).below (balloc w3 (.cells #[.int .i64 1, .int .i64 1, .int .i64 (-1), .int .i64 d.length, .int .i64 (-1), .int .i64 (-1), .int .i64 (-2), .int .i64 (-1), .int .i64 (-1)] 36)))
      have HRD4 := Lib.hid (((HRD.out.below (bdrew w2)).chg cc3 (fun k hk _ hs => by omega)).below (balloc w3 (.cells #[.int .i64 1, .int .i64 1, .int .i64 (-1), .int .i64 d.length, .int .i64 (-1), .int .i64 (-1), .int .i64 (-2), .int .i64 (-1), .int .i64 (-1)] 36)))
      refine hK1.out _ _ hS4 (fun _ => ?_)
      clear rd0 rd3 cc3
      obtain ⟨A8, B8, C8, x0, x1, x2, hI8⟩ : ∃ A8 B8 C8 : Int, (w3.alloc (.cells #[.int .i64 1, .int .i64 1, .int .i64 (-1), .int .i64 d.length, .int .i64 (-1), .int .i64 (-1), .int .i64 (-2), .int .i64 (-1), .int .i64 (-1)] 36)).cell? ⟨w3.heap.size, k * 3, none⟩ = some (.int .i64 A8) ∧ (w3.alloc (.cells #[.int .i64 1, .int .i64 1, .int .i64 (-1), .int .i64 d.length, .int .i64 (-1), .int .i64 (-1), .int .i64 (-2), .int .i64 (-1), .int .i64 (-1)] 36)).cell? ⟨w3.heap.size, k * 3 + 1, none⟩ = some (.int .i64 B8) ∧ (w3.alloc (.cells #[.int .i64 1, .int .i64 1, .int .i64 (-1), .int .i64 d.length, .int .i64 (-1), .int .i64 (-1), .int .i64 (-2), .int .i64 (-1), .int .i64 (-1)] 36)).cell? ⟨w3.heap.size, k * 3 + 2, none⟩ = some (.int .i64 C8) ∧ HdI ⟨A8, B8, C8⟩ := by
        obtain rfl | rfl | rfl : k = 0 ∨ k = 1 ∨ k = 2 := by omega
        · exact ⟨1, 1, -1, (nine_at XL).1.1, (nine_at XL).1.2.1, (nine_at XL).1.2.2, by unfold HdI I64; simp⟩
        · exact ⟨d.length, -1, -1, (nine_at XL).2.1.1, (nine_at XL).2.1.2.1, (nine_at XL).2.1.2.2, by unfold HdI I64; simp; omega⟩
        · exact ⟨-2, -1, -1, (nine_at XL).2.2.1, (nine_at XL).2.2.2.1, (nine_at XL).2.2.2.2, by unfold HdI I64; simp⟩
      have HI8 := Lib.hid hI8
      clear hI8 XL
      have hk3 : (k : Int) < 3 := by omega
      obtain ⟨⟨r0, r1, r2⟩, r3, r4, r5⟩ := three_at HB4.out.2.2.2
      have HE := Lib.hid (heads_end (h := ⟨A8, B8, C8⟩) (hi := T) HB4.out.1 HRD4.out (Nat.le_of_lt (Array.getElem?_eq_some_iff.1 HB4.out.2.2.1).1))
      refine hs_take (fuel := 2) 9 (some 26) (.pointer (some ⟨w3.heap.size, k * 3, none⟩)) rfl rfl (by kernel_rfl) (by kernel_rfl) (by kernel_rfl) (fun _ _ _ h => h) (by rfl) (fun wq hq => ?_) (by assumption) ?_
      · go_simp
      simp only [Act.put, List.setIfInBounds_toArray, List.set_cons_zero, List.set_cons_succ]
      refine wpAnyH_ready (fuel := 1) (rs := [10]) (by kernel_rfl) (by simp) (AllReadyH.cons rfl (fun K hK => ?_) AllReadyH.nil)
      go_simp
      refine hK.out _ _ ?_ (fun hS => ?_)
      · exact hS4
      refine wpAnyH_ready (fuel := 0) (rs := [12]) (by kernel_rfl) (by simp) (AllReadyH.cons rfl (fun K hK => ?_) AllReadyH.nil)
      go_simp
      refine hK.out _ _ ?_ (fun hS => ?_)
      · exact Chg.setCell (S := fun c => c = rb ∨ c = w.heap.size) (Chg.setCell (S := fun c => c = rb ∨ c = w.heap.size) (Chg.setCell (S := fun c => c = rb ∨ c = w.heap.size) (hS4) (p := ⟨w.heap.size, 0, none⟩) (.inr (.inr rfl)) _) (p := ⟨w.heap.size, 1, none⟩) (.inr (.inr rfl)) _) (p := ⟨w.heap.size, 2, none⟩) (.inr (.inr rfl)) _
      refine wpAnyH_done (by kernel_rfl) ?_ _
      go_wp2_with fail
      exact bodyPost_ret (v := .tuple #[Value.slice a d.length cap, Value.agg #[.int .i64 A8, .int .i64 B8, .int .i64 C8]]) (by simp [results, Try.results69, go_sem, r0, r1, r2]) rfl ⟨_, d, ⟨A8, B8, C8⟩, rfl, HE.out.1, hl, HP.out, HI8.out, HE.out.2.up (by omega)⟩

end Go.Proofs.Ytjmofmdcegefgaa

