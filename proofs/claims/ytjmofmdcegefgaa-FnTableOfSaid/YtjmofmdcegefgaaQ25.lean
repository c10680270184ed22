/-
  Texts of this claim, laid together: Ddx.
-/
import Derived.Deep.DeepCutAuto
import Derived.Test.YtjmofmdcegefgaaQ23
namespace Go.Proofs.Ytjmofmdcegefgaa
open Go.RowKit
set_option linter.unusedSimpArgs false
set_option linter.unusedVariables false
set_option linter.unnecessarySimpa false

theorem box2_set {w : World} {B : Nat} {x y u v : Value} {t : TypeId} (h : w.heap[B]? = some (.cells #[x, y] t (0, 0))) : ((w.setCell ⟨B, 0, none⟩ u).setCell ⟨B, 1, none⟩ v).heap[B]? = some (.cells #[u, v] t (0, 0)) := by
  have h1 := heap_setCell_same w B 0 _ _ u h
  have h2 := heap_setCell_same _ B 1 _ _ v h1
  rw [h2]
  simp

/-- A device in new memory and some number. -/
def NewDN (d : List Bk) (w : World) (e : Ending) (w' : World) : Prop := ∃ v x, e = .returned (.tuple #[v, .int .i64 x]) ∧ OD w' w.heap.size w'.heap.size v d ∧ Below w.heap.size w w'

set_option maxHeartbeats 4000000 in
set_option maxRecDepth 4000 in
theorem specPrg_any (v : Value) (d : List Bk) (n : Nat) (p : Pg) (lo hi : Nat) (w : World) (h : RD w lo hi v d) (hv : dvOk d = true) (hn : n < d.length) (hp : pgOk p = true) (hf : p.full = true) :
    Calls Try.prog 88 #[v, .int .i64 n, pgv p] w (NewDN (d.set n (wrb d[n] p)) w) := by
  obtain ⟨a, cap, b, off, rfl, q1, q2, q3, -⟩ := h.open
  obtain rfl := q3 (by omega)
  have HD := Lib.hid h
  have hl12 := (dv_len hv).2
  have hni : (n : Int) < (d.length : Int) := by omega
  have HI := Lib.hid (inB_yes (n := (n : Int)) (lo := 0) (hi := (d.length : Int) - 1) (by omega) (by omega))
  have CD := fun wx hx => specDvv_any (.slice (some ⟨b, off, none⟩) d.length cap) d lo hi wx hx
  rw [hv] at CD
  have HCD := Lib.hid CD
  have CP := specPgv_any p
  rw [hp] at CP
  have CC := Lib.hid (fun wx hx => l5Copy_any (.slice (some ⟨b, off, none⟩) d.length cap) d lo hi wx hx hv)
  have hbk := dv_blk hv hn
  have CW := fun v (wx : World) (hx : RB1 wx lo hi v d[n]) => specWrb_any v d[n] p lo hi wx hx hbk hp hf
  have hbl := bnext_le d[n]
  have HWW := Lib.hid (wrb_wear d[n] p)
  have hwi : I64 (wrb d[n] p).wear := by
    have := (bkOk_iff.1 (wrb_ok hbk hp hf)).1
    unfold I64; omega
  have HWI := Lib.hid hwi
  obtain ⟨bw, hbw⟩ : ∃ bw, bw = wrb d[n] p := ⟨_, rfl⟩
  rw [← hbw] at CW HWI ⊢
  have HBN := Lib.hid hbl
  obtain ⟨full, fi, pl, va, st⟩ := p
  simp only at hf
  subst hf
  unfold pgv at CP CW ⊢
  simp only at CP CW ⊢
  have HCP := Lib.hid CP
  have HCW := Lib.hid CW
  have X0 := Lib.hid (heap_alloc_new w (.cells #[.bool true, .int .i64 fi, .int .i64 pl, .int .i64 va, .int .i64 st] 53))
  have HB0 := Lib.hid (balloc w (.cells #[.bool true, .int .i64 fi, .int .i64 pl, .int .i64 va, .int .i64 st] 53))
  clear h hv CD CP CW hp hbk hbw hwi hbl HWW q3
  go_enter Try.func88, Try.ntmps88
  go_wp2_with fail
  refine (HCD.out _ (HD.out.below HB0.out)).mono ?_
  rintro e w1 ⟨rfl, b1⟩
  replace X0 := Lib.hid (box_keep X0.out b1)
  replace HB0 := Lib.hid (bup2 HB0.out b1)
  clear b1
  go_wp2_with fail
  refine (l1In_any _ _ _ _).mono ?_
  rintro e wz ⟨rfl, rfl⟩
  have hin := HI.out
  obtain ⟨y0, y1, y2, y3, y4⟩ := five0 (p := ⟨true, fi, pl, va, st⟩) X0.out
  go_wp2_with fail
  refine (HCP.out _).mono ?_
  rintro e w3 ⟨rfl, b3⟩
  replace X0 := Lib.hid (box_keep X0.out b3)
  replace HB0 := Lib.hid (bup2 HB0.out b3)
  replace y0 := cell_later b3 y0
  clear b3 y1 y2 y3 y4 hin
  go_wp2_with fail
  refine (CC.out _ (HD.out.below HB0.out)).mono ?_
  rintro e w5 ⟨v5, rfl, o5, b5⟩
  obtain ⟨A, capA, rfl, hA1, hA2⟩ : ∃ A capA, v5 = .slice (some ⟨A, 0, none⟩) d.length capA ∧ w3.heap.size ≤ A ∧ d.length ≤ capA := by
    obtain ⟨us, k1, -⟩ := o5
    obtain ⟨A, c, e, x1, -, x3⟩ := own_shape1 k1 (show 0 < d.length by omega)
    exact ⟨A, c, e, x1, x3⟩
  have HO := Lib.hid o5
  replace X0 := Lib.hid (box_keep X0.out b5)
  have hz35 := b5.size
  have hz03 := HB0.out.size
  replace HB0 := Lib.hid (bup2 HB0.out b5)
  obtain ⟨y0, y1, y2, y3, y4⟩ := five0 (p := ⟨true, fi, pl, va, st⟩) X0.out
  obtain ⟨a', cap', b', off', c1, c2, hp, hw, -⟩ := (HD.out.below HB0.out).at n hn
  have HWr := Lib.hid (fun (wx : World) (hx : Below w5.heap.size w5 wx) => HCW.out _ wx (RB1.keep (RB1.mk'' hp hw) hx))
  generalize d[n] = bk at c1 c2 hp hw HWr HBN
  have hbn := HBN.out
  clear o5 b5 hp hw HCW
  go_upto_region 4 with fail
  go_cut [9, 10] (fun s9 s10 wx => ∃ (B : Nat) (s : Value), s9 = .pointer (some ⟨B, 0, none⟩) ∧ s10 = .int .i64 (bnext bk) ∧ wx.heap[B]? = some (.cells #[.int .i64 bw.wear, s] 44) ∧ OP wx w5.heap.size s bw.pages ∧ Below w5.heap.size w5 wx ∧ w5.heap.size ≤ B)
  case first =>
    refine region_held_n 12 (S := fun w' => Below w5.heap.size w5 w') (by kernel_rfl) (by kernel_rfl) (bdrew _) (fun hS0 => ?_)
    refine hs_take (fuel := 11) 0 (some 36) (.slice (some ⟨b, off, none⟩) d.length cap) rfl rfl (by kernel_rfl) (by kernel_rfl) (by kernel_rfl) (fun _ _ _ h => h) (by rfl) (fun wq hq => ?_) (by assumption) ?_
    · go_simp
    simp only [Act.put, List.setIfInBounds_toArray, List.set_cons_zero, List.set_cons_succ]
    refine hs_take (fuel := 10) 1 (some 37) (.int .i64 n) rfl rfl (by kernel_rfl) (by kernel_rfl) (by kernel_rfl) (fun _ _ _ h => h) (by rfl) (fun wq hq => ?_) (by assumption) ?_
    · go_simp
    simp only [Act.put, List.setIfInBounds_toArray, List.set_cons_zero, List.set_cons_succ]
    refine hs_take (fuel := 9) 2 (some 38) (.pointer (some ⟨b, off + n * 2, none⟩)) rfl rfl (by kernel_rfl) (by kernel_rfl) (by kernel_rfl) (fun _ _ _ h => h) (by rfl) (fun wq hq => ?_) (by assumption) ?_
    · go_simp
    simp only [Act.put, List.setIfInBounds_toArray, List.set_cons_zero, List.set_cons_succ]
    refine hs_take (fuel := 8) 3 (some 39) (Value.agg #[.int .i64 bk.wear, .slice a' bk.pages.length cap']) rfl rfl (by kernel_rfl) (by kernel_rfl) (by kernel_rfl) (fun _ _ _ h => h) (by rfl) (fun wq hq => ?_) (by assumption) ?_
    · have p0 := cell_later hq c1
      have p1 := cell_later hq c2
      go_simp
    simp only [Act.put, List.setIfInBounds_toArray, List.set_cons_zero, List.set_cons_succ]
    refine hs_take (fuel := 7) 4 (some 40) (Value.agg #[.bool true, .int .i64 fi, .int .i64 pl, .int .i64 va, .int .i64 st]) rfl rfl (by kernel_rfl) (by kernel_rfl) (by kernel_rfl) (fun _ _ _ h => h) (by rfl) (fun wq hq => ?_) (by assumption) ?_
    · have p0 := cell_later hq y0
      have p1 := cell_later hq y1
      have p2 := cell_later hq y2
      have p3 := cell_later hq y3
      have p4 := cell_later hq y4
      go_simp
    simp only [Act.put, List.setIfInBounds_toArray, List.set_cons_zero, List.set_cons_succ]
    refine wpAnyH_ready (fuel := 6) (rs := [5, 9]) (by kernel_rfl) (by simp) (AllReadyH.cons rfl (fun K hK => ?_) (AllReadyH.cons rfl (fun K hK => ?_) AllReadyH.nil))
    · go_simp
      refine (HWr.out _ (by assumption)).mono ?_
      rintro e w6 ⟨s6, rfl, o6, b6⟩
      obtain ⟨a6, cap6, b6', off6, rfl, -⟩ := o6.rp.open
      refine hK.out _ _ ?_ (fun hS => ?_)
      · exact bup2 (by assumption) b6
      refine hs_take (fuel := 5) 6 (some 35) (Value.tuple #[.agg #[.int .i64 bw.wear, .slice a6 bw.pages.length cap6], .int .i64 (bnext bk)]) rfl rfl (by kernel_rfl) (by kernel_rfl) (by kernel_rfl) (fun _ _ _ h => h) (by rfl) (fun wq hq => ?_) (by assumption) ?_
      · go_simp
      simp only [Act.put, List.setIfInBounds_toArray, List.set_cons_zero, List.set_cons_succ]
      refine hs_take (fuel := 4) 7 (some 42) (Value.agg #[.int .i64 bw.wear, .slice a6 bw.pages.length cap6]) rfl rfl (by kernel_rfl) (by kernel_rfl) (by kernel_rfl) (fun _ _ _ h => h) (by rfl) (fun wq hq => ?_) (by assumption) ?_
      · go_simp
      simp only [Act.put, List.setIfInBounds_toArray, List.set_cons_zero, List.set_cons_succ]
      refine hs_take (fuel := 3) 8 (some 43) (.int .i64 (bnext bk)) rfl rfl (by kernel_rfl) (by kernel_rfl) (by kernel_rfl) (fun _ _ _ h => h) (by rfl) (fun wq hq => ?_) (by assumption) ?_
      · go_simp
      simp only [Act.put, List.setIfInBounds_toArray, List.set_cons_zero, List.set_cons_succ]
      refine wpAnyH_ready (fuel := 2) (rs := [9]) (by kernel_rfl) (by simp) (AllReadyH.cons rfl (fun K hK => ?_) AllReadyH.nil)
      go_simp
      refine hK.out _ _ ?_ (fun hS => ?_)
      · exact bup2 (bup2 (bdrew w5) b6) (balloc w6 _)
      refine wpAnyH_ready (fuel := 1) (rs := [10]) (by kernel_rfl) (by simp) (AllReadyH.cons rfl (fun K hK => ?_) AllReadyH.nil)
      go_simp
      refine hK.out _ _ ?_ (fun hS => ?_)
      · exact bup2 (bup2 (bdrew w5) b6) (balloc w6 _)
      refine hs_take (fuel := 0) 11 (some 10) (.int .i64 (bnext bk)) rfl rfl (by kernel_rfl) (by kernel_rfl) (by kernel_rfl) (fun _ _ _ h => h) (by rfl) (fun wq hq => ?_) (by assumption) ?_
      · go_simp
      simp only [Act.put, List.setIfInBounds_toArray, List.set_cons_zero, List.set_cons_succ]
      refine wpAnyH_done (by kernel_rfl) ?_ _
      go_wp2_with fail
      go_meet
      exact ⟨w6.heap.size, _, rfl, rfl, heap_alloc_new w6 _, o6.below (balloc w6 _), bup2 (bup2 (bdrew w5) b6) (balloc w6 _), (bup2 (bdrew w5) b6).size⟩
    · go_simp
      refine hK.out _ _ ?_ (fun hS2 => ?_)
      · exact bup2 hS0 (balloc w5.drew _)
      have hpx : (w5.drew.alloc (.cells #[.int .i64 0, .slice none 0 0] 44)).heap[w5.heap.size]? = some (.cells #[.int .i64 0, .slice none 0 0] 44) := heap_alloc_new w5.drew _
      refine wpAnyH_ready (fuel := 5) (rs := [5]) (by kernel_rfl) (by simp) (AllReadyH.cons rfl (fun K2 hK2 => ?_) AllReadyH.nil)
      go_simp
      refine (HWr.out _ (by assumption)).mono ?_
      rintro e w6 ⟨s6, rfl, o6, b6⟩
      obtain ⟨a6, cap6, b6', off6, rfl, -⟩ := o6.rp.open
      replace hpx := box_keep hpx b6
      have hS6 : Below w5.heap.size w5 w6 := bup2 (by assumption) b6
      refine hK2.out _ _ hS6 (fun hS => ?_)
      refine hs_take (fuel := 4) 6 (some 35) (Value.tuple #[.agg #[.int .i64 bw.wear, .slice a6 bw.pages.length cap6], .int .i64 (bnext bk)]) rfl rfl (by kernel_rfl) (by kernel_rfl) (by kernel_rfl) (fun _ _ _ h => h) (by rfl) (fun wq hq => ?_) (by assumption) ?_
      · go_simp
      simp only [Act.put, List.setIfInBounds_toArray, List.set_cons_zero, List.set_cons_succ]
      refine hs_take (fuel := 3) 7 (some 42) (Value.agg #[.int .i64 bw.wear, .slice a6 bw.pages.length cap6]) rfl rfl (by kernel_rfl) (by kernel_rfl) (by kernel_rfl) (fun _ _ _ h => h) (by rfl) (fun wq hq => ?_) (by assumption) ?_
      · go_simp
      simp only [Act.put, List.setIfInBounds_toArray, List.set_cons_zero, List.set_cons_succ]
      refine hs_take (fuel := 2) 8 (some 43) (.int .i64 (bnext bk)) rfl rfl (by kernel_rfl) (by kernel_rfl) (by kernel_rfl) (fun _ _ _ h => h) (by rfl) (fun wq hq => ?_) (by assumption) ?_
      · go_simp
      simp only [Act.put, List.setIfInBounds_toArray, List.set_cons_zero, List.set_cons_succ]
      refine wpAnyH_ready (fuel := 1) (rs := [10]) (by kernel_rfl) (by simp) (AllReadyH.cons rfl (fun K hK => ?_) AllReadyH.nil)
      obtain ⟨⟨h0, h1⟩, g0, g1⟩ := two_at hpx
      go_simp
      refine hK.out _ _ ?_ (fun hS => ?_)
      · exact (hS6.setCell (p := ⟨w5.heap.size, 0, none⟩) (Nat.le_refl _) _).setCell (p := ⟨w5.heap.size, 1, none⟩) (Nat.le_refl _) _
      refine hs_take (fuel := 0) 11 (some 10) (.int .i64 (bnext bk)) rfl rfl (by kernel_rfl) (by kernel_rfl) (by kernel_rfl) (fun _ _ _ h => h) (by rfl) (fun wq hq => ?_) (by assumption) ?_
      · go_simp
      simp only [Act.put, List.setIfInBounds_toArray, List.set_cons_zero, List.set_cons_succ]
      refine wpAnyH_done (by kernel_rfl) ?_ _
      go_wp2_with fail
      go_meet
      have hc : Chg (fun c => c = w5.heap.size) w6 ((w6.setCell ⟨w5.heap.size, 0, none⟩ (.int .i64 bw.wear)).setCell ⟨w5.heap.size, 1, none⟩ (.slice a6 bw.pages.length cap6)) := Chg.setCell (S := fun c => c = w5.heap.size) (Chg.setCell (S := fun c => c = w5.heap.size) (Chg.refl _ _) (p := ⟨w5.heap.size, 0, none⟩) (.inr rfl) _) (p := ⟨w5.heap.size, 1, none⟩) (.inr rfl) _
      exact ⟨w5.heap.size, _, rfl, rfl, box2_set hpx, (o6.chg hc (fun c hc _ hs => by simp at hc; omega)).wide (by simp), hS6.trans (hc.below hS6.size (fun i hi he => by omega)), Nat.le_refl _⟩
  case rest =>
    obtain ⟨B, s, rfl, rfl, xB, oB, bB, hB⟩ := hcut
    obtain ⟨s1, caps, bs, offs, rfl, -⟩ := oB.rp.open
    obtain ⟨A', capA', eA, -, ⟨⟨u0, k0⟩, ⟨u1, k1⟩⟩, ⟨l0, l1⟩, ⟨ha1, ha2⟩, hput⟩ := (HO.out.below bB).put (hi' := wc.heap.size) n hn
    simp only [Value.slice.injEq, Option.some.injEq, Addr.mk.injEq, and_true, true_and] at eA
    obtain ⟨rfl, rfl⟩ := eA
    have HPut := Lib.hid (hput _ bw (oB.wide hz35) HWI.out (fun g hg => oB.lt g hg) bB.size)
    obtain ⟨⟨t0, t1⟩, -⟩ := two_at xB
    have HB := Lib.hid (And.intro (bup2 HB0.out bB) bB.size)
    clear hput xB oB bB y0 y1 y2 y3 y4 c1 c2
    have hc : Chg (fun c => w.heap.size ≤ c) wc ((wc.setCell ⟨A, n * 2, none⟩ (.int .i64 bw.wear)).setCell ⟨A, n * 2 + 1, none⟩ (.slice s1 bw.pages.length caps)) := Chg.setCell (S := fun c => w.heap.size ≤ c) (Chg.setCell (S := fun c => w.heap.size ≤ c) (Chg.refl _ _) (p := ⟨A, n * 2, none⟩) (.inr (by show w.heap.size ≤ A; omega)) _) (p := ⟨A, n * 2 + 1, none⟩) (.inr (by show w.heap.size ≤ A; omega)) _
    have HF : Hid (OD ((wc.setCell ⟨A, n * 2, none⟩ (.int .i64 bw.wear)).setCell ⟨A, n * 2 + 1, none⟩ (.slice s1 bw.pages.length caps)) w.heap.size ((wc.setCell ⟨A, n * 2, none⟩ (.int .i64 bw.wear)).setCell ⟨A, n * 2 + 1, none⟩ (.slice s1 bw.pages.length caps)).heap.size (.slice (some ⟨A, 0, none⟩) d.length capA) (d.set n bw) ∧ Below w.heap.size w ((wc.setCell ⟨A, n * 2, none⟩ (.int .i64 bw.wear)).setCell ⟨A, n * 2 + 1, none⟩ (.slice s1 bw.pages.length caps))) :=
      Lib.hid ⟨(HPut.out.wide hz03).mono (by simp [World.setCell]), below_own HB.out.1 HB.out.1.size hc⟩
    clear hc
    by_cases hb0 : bnext bk < 0
    · have hbd : decide (bnext bk < 0) = true := by simpa using hb0
      clear hb0
      go_wp2_with fail
      exact bodyPost_ret (v := .tuple #[.slice (some ⟨A, 0, none⟩) d.length capA, .int .i64 (-1)]) (by simp [results, Try.results88, go_sem]) rfl ⟨_, _, rfl, HF.out.1, HF.out.2⟩
    · have hbd : decide (bnext bk < 0) = false := by simpa using hb0
      clear hb0
      go_wp2_with fail
      exact bodyPost_ret (v := .tuple #[.slice (some ⟨A, 0, none⟩) d.length capA, .int .i64 ((n : Int) * 4 + bnext bk)]) (by simp [results, Try.results88, go_sem]) rfl ⟨_, _, rfl, HF.out.1, HF.out.2⟩

end Go.Proofs.Ytjmofmdcegefgaa

