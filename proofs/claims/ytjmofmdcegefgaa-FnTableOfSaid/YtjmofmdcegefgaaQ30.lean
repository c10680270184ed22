/-
  Texts of this claim, laid together: Drb.
-/
import Derived.Test.YtjmofmdcegefgaaQ28
import Derived.Test.YtjmofmdcegefgaaQ29
namespace Go.Proofs.Ytjmofmdcegefgaa
open Go.RowKit
set_option linter.unusedSimpArgs false
set_option linter.unusedVariables false
set_option linter.unnecessarySimpa false
variable {H : Nat}

theorem chg5' {S : Nat → Prop} {w0 w : World} {g : Nat} (h : Chg S w0 w) (hg : S g) (a0 a1 a2 a3 a4 : Nat) (v0 v1 v2 v3 v4 : Value) :
    Chg S w0 (((((w.setCell ⟨g, a0, none⟩ v0).setCell ⟨g, a1, none⟩ v1).setCell ⟨g, a2, none⟩ v2).setCell ⟨g, a3, none⟩ v3).setCell ⟨g, a4, none⟩ v4) := chg5 h (.inr hg) _ _ _ _ _ _ _ _ _ _
/-- The first page of a list left out. -/
theorem RP.tail {w : World} {lo hi g cap : Nat} {ps : List Pg} (h : RP w lo hi (.slice (some ⟨g, 0, none⟩) ps.length cap) ps) (h0 : 0 < ps.length) : RP w lo hi (.slice (some ⟨g, 5, none⟩) (ps.length - 1) (cap - 1)) (ps.drop 1) := by
  have hl : (ps.drop 1).length = ps.length - 1 := by simp
  obtain ⟨⟨hl0, a', cap', b, off', he, h1, h2, h3, h4⟩, hw⟩ := h
  simp only [Value.slice.injEq] at he
  obtain ⟨ha, -, rfl⟩ := he
  obtain ⟨e1, hlo, hhi⟩ := h3 h0
  rw [e1] at ha
  simp only [Option.some.injEq, Addr.mk.injEq, and_true] at ha
  obtain ⟨rfl, rfl⟩ := ha
  refine ⟨?_, fun x hx => hw x (List.mem_of_mem_drop hx)⟩
  rw [hl]
  refine ⟨by rw [pc_len, hl], some ⟨g, 5, none⟩, cap - 1, g, 5, rfl, by omega, by omega, fun _ => ⟨rfl, hlo, hhi⟩, fun j hj => ?_⟩
  have e2 : pc ps = pc (ps.take 1) ++ pc (ps.drop 1) := by rw [← pc_append, List.take_append_drop]
  have e3 : (pc (ps.take 1)).length = 5 := by rw [pc_len, List.length_take]; omega
  have := h4 (5 + j) (by omega)
  rw [Nat.zero_add] at this
  rw [this, e2, List.getElem?_append_right (by omega), e3]
  congr 1
  omega

/-- The loop's state: box T holds a valid block of the call's own. -/
def BkS (H : Nat) (w : World) (rb q T : Nat) (b : Bk) (s : Value) (wr : World) : Prop :=
  Dr H w rb q wr ∧ w.heap.size < T ∧ wr.heap[T]? = some (.cells #[.int .i64 b.wear, s] 44) ∧ wr.heap[w.heap.size]? = some (.cells #[.int .i64 0, .slice none 0 0] 44) ∧ OP wr w.heap.size s b.pages ∧ bkOk b = true
theorem BkS.pick {w wr w' : World} {rb q q' T : Nat} {b : Bk} {s : Value} (h : BkS H w rb q T b s wr) (c : Chg (· = rb) wr w') (r : RdLe H w' rb q') : BkS H w rb q' T b s w' := by
  obtain ⟨h1, h2, h3, h4, h5, h6⟩ := h
  have hrb := h1.2.2
  exact ⟨h1.pick c r, h2, box_chg h3 c (by omega), box_chg h4 c (by omega), h5.chg c (fun k hk _ hs => by omega), h6⟩
/-- The block's box laid anew. -/
theorem BkS.put {w wr : World} {rb q T : Nat} {b b2 : Bk} {s s2 : Value} (h : BkS H w rb q T b s wr) (o : OP wr w.heap.size s2 b2.pages) (hb : bkOk b2 = true) : BkS H w rb q T b2 s2 ((wr.setCell ⟨T, 0, none⟩ (.int .i64 b2.wear)).setCell ⟨T, 1, none⟩ s2) := by
  obtain ⟨h1, h2, h3, h4, h5, h6⟩ := h
  have hc : Chg (fun c => c = T) wr ((wr.setCell ⟨T, 0, none⟩ (.int .i64 b2.wear)).setCell ⟨T, 1, none⟩ s2) := Chg.setCell (S := fun c => c = T) (Chg.setCell (S := fun c => c = T) (Chg.refl _ _) (p := ⟨T, 0, none⟩) (.inr rfl) _) (p := ⟨T, 1, none⟩) (.inr rfl) _
  refine ⟨h1.own (hc.mono fun k _ hk => by omega), h2, box2_set h3, box_chg h4 hc (by omega), o.chg hc (fun k _ he hs => ?_), hb⟩
  subst hs
  obtain ⟨cur, e⟩ := own_type o.1 he
  rw [h3] at e
  simp at e

/-- The row is not the box at its lower bound. -/
theorem OP.past {w : World} {lo : Nat} {s : Value} {ps : List Pg} {cs : Array Value} {fr : Nat × Nat} (h : OP w lo s ps) (hx : w.heap[lo]? = some (.cells cs 44 fr)) : OP w (lo + 1) s ps := by
  refine ⟨⟨h.1.1, ?_⟩, h.2⟩
  rcases h.1.2 with h2 | ⟨g, cap, cur, hv, hg, hh, r⟩
  · exact .inl h2
  · refine .inr ⟨g, cap, cur, hv, ?_, hh, r⟩
    by_cases e : g = lo
    · subst e
      rw [hh] at hx
      simp at hx
    · omega
theorem BkS.op {w wr : World} {rb q T : Nat} {b : Bk} {s : Value} (h : BkS H w rb q T b s wr) : OP wr (w.heap.size + 1) s b.pages := h.2.2.2.2.1.past h.2.2.2.1
/-- The result's box is laid. -/
theorem br_end {w W : World} {rb q hi : Nat} {u s : Value} {ps : List Pg} (hD : Dr H w rb q W) (hp : RP W (w.heap.size + 1) hi s ps) (hh : hi ≤ W.heap.size) :
    RP ((W.setCell ⟨w.heap.size, 0, none⟩ u).setCell ⟨w.heap.size, 1, none⟩ s) w.heap.size ((W.setCell ⟨w.heap.size, 0, none⟩ u).setCell ⟨w.heap.size, 1, none⟩ s).heap.size s ps ∧ Dr H w rb q ((W.setCell ⟨w.heap.size, 0, none⟩ u).setCell ⟨w.heap.size, 1, none⟩ s) := by
  have hc : Chg (fun c => c = w.heap.size) W ((W.setCell ⟨w.heap.size, 0, none⟩ u).setCell ⟨w.heap.size, 1, none⟩ s) := Chg.setCell (S := fun c => c = w.heap.size) (Chg.setCell (S := fun c => c = w.heap.size) (Chg.refl _ _) (p := ⟨w.heap.size, 0, none⟩) (.inr rfl) _) (p := ⟨w.heap.size, 1, none⟩) (.inr rfl) _
  exact ⟨(hp.chg hc (fun k hk _ hs => by omega)).wide (by omega) (Nat.le_trans hh hc.size), hD.own (hc.mono fun k _ hk => by omega)⟩

/-- Some block. -/
def BlockR (H rb q : Nat) (w : World) (e : Ending) (w' : World) : Prop := ∃ (b : Bk) (s : Value), e = .returned (.agg #[.int .i64 b.wear, s]) ∧ I64 b.wear ∧ b.pages.length ≤ 4 ∧ RP w' w.heap.size w'.heap.size s b.pages ∧ Dr H w rb (q + 40) w'

set_option maxHeartbeats 8000000 in
set_option maxRecDepth 8000 in
theorem block_any (w : World) (rb q : Nat) (m : Int) (hr : RdLe H w rb q) (hq : q ≤ 10000) (hm1 : 0 ≤ m) (hm : m ≤ 1000) : Calls Try.prog 77 #[.pointer (some ⟨rb, 0, none⟩), .int .i64 m] w (BlockR H rb q w) := by
  have D := Lib.hid ((Dr.start hr).below (balloc w (.cells #[.int .i64 0, .slice none 0 0] 44)))
  have X := Lib.hid (heap_alloc_new w (.cells #[.int .i64 0, .slice none 0 0] 44))
  have hrbw := hr.lt
  clear hr
  go_enter Try.func77, Try.ntmps77
  go_wp2_with fail
  refine (pick_le _ rb q 9 D.out.1 (by omega) (by omega) (by omega)).mono ?_
  rintro e w1 ⟨x, rfl, x0, x1, r1, c1, -⟩
  replace X := Lib.hid (D.out.box (Nat.le_refl _) c1 X.out)
  replace D := Lib.hid (D.out.pick c1 r1)
  have z1 := D.out.size
  have X3 := Lib.hid (box_keep (heap_alloc_new w1 (.cells #[.int .i64 x, .int .i64 100, .int .i64 99] 3)) (balloc _ (.cells #[.int .i64 0, .int .i64 0, .int .i64 0, .int .i64 0, .int .i64 0, .int .i64 1, .int .i64 2] 3)))
  have X7 := Lib.hid (heap_alloc_new (w1.alloc (.cells #[.int .i64 x, .int .i64 100, .int .i64 99] 3)) (.cells #[.int .i64 0, .int .i64 0, .int .i64 0, .int .i64 0, .int .i64 0, .int .i64 1, .int .i64 2] 3))
  replace X := Lib.hid (box_keep X.out (two_below w1 (.cells #[.int .i64 x, .int .i64 100, .int .i64 99] 3) (.cells #[.int .i64 0, .int .i64 0, .int .i64 0, .int .i64 0, .int .i64 0, .int .i64 1, .int .i64 2] 3)))
  replace D := Lib.hid (D.out.below (two_below w1 (.cells #[.int .i64 x, .int .i64 100, .int .i64 99] 3) (.cells #[.int .i64 0, .int .i64 0, .int .i64 0, .int .i64 0, .int .i64 0, .int .i64 1, .int .i64 2] 3)))
  clear r1 c1
  go_wp2_with fail
  refine (pick_le _ rb _ 7 D.out.1 (by omega) (by omega) (by omega)).mono ?_
  rintro e w2 ⟨y, rfl, y0, y1, r1, c1, -⟩
  replace X := Lib.hid (D.out.box (Nat.le_refl _) c1 X.out)
  replace X3 := Lib.hid (D.out.box z1 c1 X3.out)
  replace X7 := Lib.hid (D.out.box (by simp; omega) c1 X7.out)
  replace D := Lib.hid (D.out.pick c1 r1)
  obtain ⟨z, hz, hz3⟩ : ∃ z : Nat, w2.cell? ⟨w1.heap.size + 1, y.toNat, none⟩ = some (.int .i64 z) ∧ z < 3 := by
    have h7 := X7.out
    have e7 : (w1.alloc (.cells #[.int .i64 x, .int .i64 100, .int .i64 99] 3)).heap.size = w1.heap.size + 1 := by simp
    rw [e7] at h7
    obtain rfl | rfl | rfl | rfl | rfl | rfl | rfl : y = 0 ∨ y = 1 ∨ y = 2 ∨ y = 3 ∨ y = 4 ∨ y = 5 ∨ y = 6 := by omega
    · exact ⟨0, by simp [World.cell?, h7], by omega⟩
    · exact ⟨0, by simp [World.cell?, h7], by omega⟩
    · exact ⟨0, by simp [World.cell?, h7], by omega⟩
    · exact ⟨0, by simp [World.cell?, h7], by omega⟩
    · exact ⟨0, by simp [World.cell?, h7], by omega⟩
    · exact ⟨1, by simp [World.cell?, h7], by omega⟩
    · exact ⟨2, by simp [World.cell?, h7], by omega⟩
  obtain ⟨u, hu, hu0, hu1⟩ : ∃ u : Int, w2.cell? ⟨w1.heap.size, z, none⟩ = some (.int .i64 u) ∧ 0 ≤ u ∧ u ≤ 100 := by
    have h3 := X3.out
    obtain rfl | rfl | rfl : z = 0 ∨ z = 1 ∨ z = 2 := by omega
    · exact ⟨x, by simp [World.cell?, h3], by omega, by omega⟩
    · exact ⟨100, by simp [World.cell?, h3], by omega, by omega⟩
    · exact ⟨99, by simp [World.cell?, h3], by omega, by omega⟩
  obtain ⟨yn, rfl⟩ := Int.eq_ofNat_of_zero_le y0
  rw [Int.toNat_natCast] at hz
  have hzi : (z : Int) < 3 := by omega
  have hyi : (yn : Int) < 7 := y1
  clear r1 c1 X3 X7
  go_wp2_with fail
  refine (specNbk_any u hu0 hu1 _).mono ?_
  rintro e w3 ⟨s3, rfl, o3, b3⟩
  obtain ⟨g3, cap3, rfl, -, -, -⟩ := own_shape1 o3.1 (by simp [B0])
  have hz3 := D.out.size
  have e4 : (B0 u).pages.length = 4 := rfl
  rw [e4]
  have HS : Hid (BkS H w rb (q + 1 + 1) w3.heap.size (B0 u) (.slice (some ⟨g3, 0, none⟩) 4 cap3) (w3.alloc (.cells #[.int .i64 u, .slice (some ⟨g3, 0, none⟩) 4 cap3] 44))) :=
    Lib.hid ⟨D.out.below (bup2 b3 (balloc _ _)), Nat.lt_of_lt_of_le (Array.getElem?_eq_some_iff.1 X.out).1 b3.size, heap_alloc_new w3 _, box_keep X.out (bup2 b3 (balloc _ _)), (o3.below (balloc _ _)).wide hz3, B0_ok hu0 hu1⟩
  have ew : (B0 u).wear = u := rfl
  rw [ew]
  clear o3 b3 D X e4 ew hz hu
  obtain ⟨T, hT⟩ : ∃ T, T = w3.heap.size := ⟨_, rfl⟩
  rw [← hT] at HS
  have HT := Lib.hid hT.symm
  clear hT
  go_wp2_with fail
  refine (pick_le _ rb _ 6 HS.out.1.1 (by omega) (by omega) (by omega)).mono ?_
  rintro e w4 ⟨k, rfl, k0, k1, r1, c1, -⟩
  replace HS := Lib.hid (HS.out.pick c1 r1)
  obtain ⟨kn, rfl⟩ := Int.eq_ofNat_of_zero_le k0
  rw [HT.out]
  clear r1 c1
  go_wp2_with fail
  go_loopw [6, 7, 8] (fun i _ _ wr => ∃ (j : Nat) (b : Bk) (s : Value), j ≤ 5 ∧ i = .int .i64 j ∧ BkS H w rb (q + 1 + 1 + 1 + 4 * (5 - j)) T b s wr) (fun i _ _ _ => (intOf i).toNat)
  case atStart => exact ⟨kn, _, _, by omega, rfl, HS.out.1.up (by omega), HS.out.2⟩
  case round =>
    obtain ⟨j, b0, s0, hj, rfl, hR⟩ := hrel
    obtain ⟨w5, rfl⟩ : ∃ w5 : World, w5 = wr := ⟨_, rfl⟩
    clear HS
    have hb4 := (bkOk_iff.1 hR.2.2.2.2.2).2.1
    obtain ⟨g0, cap0, rfl, hg0, -, hg1⟩ := own_shape1 hR.2.2.2.2.1.1 (show 0 < b0.pages.length by omega)
    have hcn : ¬ cap0 = 1 := by omega
    have H4 := Lib.hid hb4
    have hb9 : b0.pages.length ≤ 9 := by omega
    have hb0 : 0 < b0.pages.length := by omega
    have hTw : ¬ T = w.heap.size := by have := hR.2.1; omega
    have hTw2 : ¬ w.heap.size = T := by omega
    have HR := Lib.hid hR
    clear hR hb4 hg1
    obtain ⟨⟨t0, t1⟩, t2, t3⟩ := two_at HR.out.2.2.1
    have hjd : decide (0 < (j : Int)) = decide (0 < j) := by simp
    by_cases hj0 : 0 < j
    · have hji : decide (0 < (j : Int)) = true := by simpa using hj0
      have hrb5 : rb < w5.heap.size := Nat.lt_of_lt_of_le hrbw HR.out.1.size
      have hz5 := HR.out.1.size
      have hTr : T ≠ rb := by have := HR.out.2.1; omega
      have k0 := And.intro t0 (show ¬ T = rb from hTr)
      have k1 := And.intro t1 (show ¬ T = rb from hTr)
      have HP5 := Lib.hid HR.out.2.2.2.2.1.rp
      have HBO := Lib.hid HR.out.2.2.2.2.2
      have rd0 : RdLe H w5.drew rb (q + 1 + 1 + 1 + 4 * (5 - j)) := HR.out.1.1.kept (bdrew _)
      have HWr := Lib.hid (fun (p : Pg) (wx : World) (lo hi : Nat) (hx : RP wx lo hi (.slice (some ⟨g0, 0, none⟩) b0.pages.length cap0) b0.pages) (hp : pgOk p = true) (hf : p.full = true) => specWrb_any (.agg #[.int .i64 b0.wear, .slice (some ⟨g0, 0, none⟩) b0.pages.length cap0]) b0 p lo hi wx (RB1.mk'' hx (by have := (bkOk_iff.1 HR.out.2.2.2.2.2).1; unfold I64; omega)) HR.out.2.2.2.2.2 hp hf)
      clear t0 t1 t2 t3
      go_upto_region 5 with fail
      go_cut [7, 8] (fun s7 s8 wx => ∃ (B : Nat) (b2 : Bk) (s2 : Value) (x2 : Int), s7 = .pointer (some ⟨B, 0, none⟩) ∧ s8 = .int .i64 x2 ∧ wx.heap[B]? = some (.cells #[.int .i64 b2.wear, s2] 44) ∧ OP wx w5.heap.size s2 b2.pages ∧ bkOk b2 = true ∧ RdLe H wx rb (q + 1 + 1 + 1 + 4 * (5 - j) + 4) ∧ Chg (· = rb) w5 wx ∧ w5.heap.size ≤ B)
      case first =>
        refine region_held_n 13 (S := fun w' => Chg (· = rb) w5 w') (by kernel_rfl) (by kernel_rfl) (below_chg (bdrew _) _) (fun hS0 => ?_)
        refine hs_take (fuel := 12) 0 (some 27) (Value.agg #[.int .i64 b0.wear, .slice (some ⟨g0, 0, none⟩) b0.pages.length cap0]) rfl rfl (by kernel_rfl) (by kernel_rfl) (by kernel_rfl) (fun _ _ _ h => h) (by rfl) (fun wq hq => ?_) (by assumption) ?_
        · have p0 := cell_chg hq k0
          have p1 := cell_chg hq k1
          go_simp
        simp only [Act.put, List.setIfInBounds_toArray, List.set_cons_zero, List.set_cons_succ]
        refine hs_take (fuel := 11) 1 (some 28) (.pointer (some ⟨rb, 0, none⟩)) rfl rfl (by kernel_rfl) (by kernel_rfl) (by kernel_rfl) (fun _ _ _ h => h) (by rfl) (fun wq hq => ?_) (by assumption) ?_
        · go_simp
        simp only [Act.put, List.setIfInBounds_toArray, List.set_cons_zero, List.set_cons_succ]
        refine hs_take (fuel := 10) 2 (some 29) (.pointer (some ⟨rb, 0, none⟩)) rfl rfl (by kernel_rfl) (by kernel_rfl) (by kernel_rfl) (fun _ _ _ h => h) (by rfl) (fun wq hq => ?_) (by assumption) ?_
        · go_simp
        simp only [Act.put, List.setIfInBounds_toArray, List.set_cons_zero, List.set_cons_succ]
        refine wpAnyH_ready (fuel := 9) (rs := [3, 10]) (by kernel_rfl) (by simp) (AllReadyH.cons rfl (fun K0 hK0 => ?_) (AllReadyH.cons rfl (fun K0 hK0 => ?_) AllReadyH.nil))
        · go_simp
          refine (pick_le _ rb _ 9 rd0 (by omega) (by omega) (by omega)).mono ?_
          rintro e w22 ⟨x, rfl, hx0, hx1, rd2, ccw22, -⟩
          have hS2 := hS0.trans ccw22
          refine hK0.out _ _ hS2 (fun _ => ?_)
          refine hs_take (fuel := 8) 4 (some 31) (.int .i64 (1 + x)) rfl rfl (by kernel_rfl) (by kernel_rfl) (by kernel_rfl) (fun _ _ _ h => h) (by rfl) (fun wq hq => ?_) (by assumption) ?_
          · go_simp
            rw [IntKind.wrap_i64]
            omega
          simp only [Act.put, List.setIfInBounds_toArray, List.set_cons_zero, List.set_cons_succ]
          refine wpAnyH_ready (fuel := 7) (rs := [5, 10]) (by kernel_rfl) (by simp) (AllReadyH.cons rfl (fun K2 hK2 => ?_) (AllReadyH.cons rfl (fun K2 hK2 => ?_) AllReadyH.nil))
          · go_simp
            refine (full_any _ rb _ (1 + x) rd2 (by omega)).mono ?_
            rintro e w24 ⟨f, p, v, rfl, hf, hp, hv, rd4, ccw24, -⟩
            unfold pgv
            simp only
            have hS4 := hS2.trans ccw24
            refine hK2.out _ _ hS4 (fun _ => ?_)

            refine wpAnyH_ready (fuel := 6) (rs := [6, 10]) (by kernel_rfl) (by simp) (AllReadyH.cons rfl (fun K4 hK4 => ?_) (AllReadyH.cons rfl (fun K4 hK4 => ?_) AllReadyH.nil))
            · go_simp
              refine (HWr.out ⟨true, f, p, v, 1 + x⟩ _ _ _ (RP.chg HP5.out ((show Chg (· = rb) w5 w24 from by assumption).trans (Chg.refl _ _)) (fun c hc _ hs => by omega)) (by unfold pgOk; simp [inB]; omega) rfl).mono ?_
              rintro e w26 ⟨s6, rfl, o6, b6⟩
              generalize bnext b0 = xn
              have ccw26 : Chg (· = rb) w24 w26 := below_chg b6 _
              have rd6 := rd4.kept b6
              obtain ⟨a6, cap6, b6', off6, rfl, -⟩ := o6.rp.open
              have hbo := wrb_ok (p := ⟨true, f, p, v, 1 + x⟩) HBO.out (by unfold pgOk; simp [inB]; omega) rfl
              generalize wrb b0 ⟨true, f, p, v, 1 + x⟩ = bw at o6 hbo ⊢
              have hzw : w5.heap.size ≤ w24.heap.size := (show Chg (· = rb) w5 w24 from by assumption).size
              have hS6 := hS4.trans ccw26
              refine hK4.out _ _ hS6 (fun _ => ?_)
              refine hs_take (fuel := 5) 7 (some 26) (Value.tuple #[.agg #[.int .i64 bw.wear, .slice a6 bw.pages.length cap6], .int .i64 xn]) rfl rfl (by kernel_rfl) (by kernel_rfl) (by kernel_rfl) (fun _ _ _ h => h) (by rfl) (fun wq hq => ?_) (by assumption) ?_
              · go_simp
              simp only [Act.put, List.setIfInBounds_toArray, List.set_cons_zero, List.set_cons_succ]
              refine hs_take (fuel := 4) 8 (some 34) (Value.agg #[.int .i64 bw.wear, .slice a6 bw.pages.length cap6]) rfl rfl (by kernel_rfl) (by kernel_rfl) (by kernel_rfl) (fun _ _ _ h => h) (by rfl) (fun wq hq => ?_) (by assumption) ?_
              · go_simp
              simp only [Act.put, List.setIfInBounds_toArray, List.set_cons_zero, List.set_cons_succ]
              refine hs_take (fuel := 3) 9 (some 35) (.int .i64 xn) rfl rfl (by kernel_rfl) (by kernel_rfl) (by kernel_rfl) (fun _ _ _ h => h) (by rfl) (fun wq hq => ?_) (by assumption) ?_
              · go_simp
              simp only [Act.put, List.setIfInBounds_toArray, List.set_cons_zero, List.set_cons_succ]
              refine wpAnyH_ready (fuel := 2) (rs := [10]) (by kernel_rfl) (by simp) (AllReadyH.cons rfl (fun K6 hK6 => ?_) AllReadyH.nil)
              go_simp
              have hS8 : Chg (· = rb) w5 (w26.alloc (.cells #[.int .i64 0, .slice none 0 0] 44)) := hS6.trans (below_chg (balloc _ _) _)
              have rd8 := rd6.kept (balloc w26 (.cells #[.int .i64 0, .slice none 0 0] 44))
              have hpx : (w26.alloc (.cells #[.int .i64 0, .slice none 0 0] 44)).heap[w26.heap.size]? = some (.cells #[.int .i64 0, .slice none 0 0] 44) := heap_alloc_new w26 _
              have hBr : rb < w26.heap.size := Nat.lt_of_lt_of_le hrb5 hS6.size
              refine hK6.out _ _ hS8 (fun _ => ?_)
              have hSm : Chg (· = rb) w5 (w26.alloc (.cells #[.int .i64 bw.wear, .slice a6 bw.pages.length cap6] 44)) := (show Chg (· = rb) w5 w26 from by assumption).trans (below_chg (balloc _ _) _)
              refine wpAnyH_ready (fuel := 1) (rs := [11]) (by kernel_rfl) (by simp) (AllReadyH.cons rfl (fun K hK => ?_) AllReadyH.nil)
              go_simp
              refine hK.out _ _ ?_ (fun hS => ?_)
              · exact hSm
              refine hs_take (fuel := 0) 12 (some 8) (.int .i64 xn) rfl rfl (by kernel_rfl) (by kernel_rfl) (by kernel_rfl) (fun _ _ _ h => h) (by rfl) (fun wq hq => ?_) (by assumption) ?_
              · go_simp
              simp only [Act.put, List.setIfInBounds_toArray, List.set_cons_zero, List.set_cons_succ]
              refine wpAnyH_done (by kernel_rfl) ?_ _
              go_wp2_with fail
              go_meet
              exact ⟨_, bw, _, xn, rfl, rfl, heap_alloc_new w26 _, (o6.below (balloc _ _)).wide hzw, hbo, (RdLe.kept (w := w26) (by assumption) (balloc _ _)).up (by omega), hSm, (show Chg (· = rb) w5 w26 from by assumption).size⟩
            · go_simp
              have hS9 : Chg (· = rb) w5 (w24.alloc (.cells #[.int .i64 0, .slice none 0 0] 44)) := hS4.trans (below_chg (balloc _ _) _)
              have rd9 := rd4.kept (balloc w24 (.cells #[.int .i64 0, .slice none 0 0] 44))
              have hpx : (w24.alloc (.cells #[.int .i64 0, .slice none 0 0] 44)).heap[w24.heap.size]? = some (.cells #[.int .i64 0, .slice none 0 0] 44) := heap_alloc_new w24 _
              have hBr : rb < w24.heap.size := Nat.lt_of_lt_of_le hrb5 hS4.size
              refine hK4.out _ _ hS9 (fun _ => ?_)
              refine wpAnyH_ready (fuel := 5) (rs := [6]) (by kernel_rfl) (by simp) (AllReadyH.cons rfl (fun K9 hK9 => ?_) AllReadyH.nil)
              go_simp
              refine (HWr.out ⟨true, f, p, v, 1 + x⟩ _ _ _ (RP.chg HP5.out ((show Chg (· = rb) w5 (w24.alloc (.cells #[.int .i64 0, .slice none 0 0] 44)) from by assumption).trans (Chg.refl _ _)) (fun c hc _ hs => by omega)) (by unfold pgOk; simp [inB]; omega) rfl).mono ?_
              rintro e w31 ⟨s6, rfl, o6, b6⟩
              generalize bnext b0 = xn
              have ccw31 : Chg (· = rb) (w24.alloc (.cells #[.int .i64 0, .slice none 0 0] 44)) w31 := below_chg b6 _
              have rd11 := rd9.kept b6
              obtain ⟨a6, cap6, b6', off6, rfl, -⟩ := o6.rp.open
              have hbo := wrb_ok (p := ⟨true, f, p, v, 1 + x⟩) HBO.out (by unfold pgOk; simp [inB]; omega) rfl
              generalize wrb b0 ⟨true, f, p, v, 1 + x⟩ = bw at o6 hbo ⊢
              have hzw : w5.heap.size ≤ (w24.alloc (.cells #[.int .i64 0, .slice none 0 0] 44)).heap.size := (show Chg (· = rb) w5 (w24.alloc (.cells #[.int .i64 0, .slice none 0 0] 44)) from by assumption).size
              have hS11 := hS9.trans ccw31
              replace hpx := box_chg hpx ccw31 (by omega)
              refine hK9.out _ _ hS11 (fun _ => ?_)
              refine hs_take (fuel := 4) 7 (some 26) (Value.tuple #[.agg #[.int .i64 bw.wear, .slice a6 bw.pages.length cap6], .int .i64 xn]) rfl rfl (by kernel_rfl) (by kernel_rfl) (by kernel_rfl) (fun _ _ _ h => h) (by rfl) (fun wq hq => ?_) (by assumption) ?_
              · go_simp
              simp only [Act.put, List.setIfInBounds_toArray, List.set_cons_zero, List.set_cons_succ]
              refine hs_take (fuel := 3) 8 (some 34) (Value.agg #[.int .i64 bw.wear, .slice a6 bw.pages.length cap6]) rfl rfl (by kernel_rfl) (by kernel_rfl) (by kernel_rfl) (fun _ _ _ h => h) (by rfl) (fun wq hq => ?_) (by assumption) ?_
              · go_simp
              simp only [Act.put, List.setIfInBounds_toArray, List.set_cons_zero, List.set_cons_succ]
              refine hs_take (fuel := 2) 9 (some 35) (.int .i64 xn) rfl rfl (by kernel_rfl) (by kernel_rfl) (by kernel_rfl) (fun _ _ _ h => h) (by rfl) (fun wq hq => ?_) (by assumption) ?_
              · go_simp
              simp only [Act.put, List.setIfInBounds_toArray, List.set_cons_zero, List.set_cons_succ]
              have hc : Chg (fun c => c = w24.heap.size) w31 ((w31.setCell ⟨w24.heap.size, 0, none⟩ (.int .i64 bw.wear)).setCell ⟨w24.heap.size, 1, none⟩ (.slice a6 bw.pages.length cap6)) := Chg.setCell (S := fun c => c = w24.heap.size) (Chg.setCell (S := fun c => c = w24.heap.size) (Chg.refl _ _) (p := ⟨w24.heap.size, 0, none⟩) (.inr rfl) _) (p := ⟨w24.heap.size, 1, none⟩) (.inr rfl) _
              have hBz : w5.heap.size ≤ w24.heap.size := (show Chg (· = rb) w5 w24 from by assumption).size
              have hSm : Chg (· = rb) w5 ((w31.setCell ⟨w24.heap.size, 0, none⟩ (.int .i64 bw.wear)).setCell ⟨w24.heap.size, 1, none⟩ (.slice a6 bw.pages.length cap6)) := hS11.own (hc.mono fun k _ hk => by omega)
              refine wpAnyH_ready (fuel := 1) (rs := [11]) (by kernel_rfl) (by simp) (AllReadyH.cons rfl (fun K hK => ?_) AllReadyH.nil)
              obtain ⟨⟨e0, e1⟩, e2, e3⟩ := two_at hpx
              go_simp
              refine hK.out _ _ ?_ (fun hS => ?_)
              · exact hSm
              refine hs_take (fuel := 0) 12 (some 8) (.int .i64 xn) rfl rfl (by kernel_rfl) (by kernel_rfl) (by kernel_rfl) (fun _ _ _ h => h) (by rfl) (fun wq hq => ?_) (by assumption) ?_
              · go_simp
              simp only [Act.put, List.setIfInBounds_toArray, List.set_cons_zero, List.set_cons_succ]
              refine wpAnyH_done (by kernel_rfl) ?_ _
              go_wp2_with fail
              go_meet
              have hot : ∀ c, (Value.slice a6 bw.pages.length cap6).ownBlock = some c → ¬ c = w24.heap.size := fun c hc hs => by
                subst hs
                obtain ⟨cur, e⟩ := own_type o6.1 hc
                rw [hpx] at e
                simp at e
              exact ⟨_, bw, _, xn, rfl, rfl, box2_set hpx, (o6.chg hc (fun c _ he hs => hot c he hs)).wide hzw, hbo, (RdLe.chg rd11 hc (fun c hc2 hs => by omega)).up (by omega), hSm, hBz⟩
          · go_simp
            have hS12 : Chg (· = rb) w5 (w22.alloc (.cells #[.int .i64 0, .slice none 0 0] 44)) := hS2.trans (below_chg (balloc _ _) _)
            have rd12 := rd2.kept (balloc w22 (.cells #[.int .i64 0, .slice none 0 0] 44))
            have hpx : (w22.alloc (.cells #[.int .i64 0, .slice none 0 0] 44)).heap[w22.heap.size]? = some (.cells #[.int .i64 0, .slice none 0 0] 44) := heap_alloc_new w22 _
            have hBr : rb < w22.heap.size := Nat.lt_of_lt_of_le hrb5 hS2.size
            refine hK2.out _ _ hS12 (fun _ => ?_)
            refine wpAnyH_ready (fuel := 6) (rs := [5]) (by kernel_rfl) (by simp) (AllReadyH.cons rfl (fun K12 hK12 => ?_) AllReadyH.nil)
            go_simp
            refine (full_any _ rb _ (1 + x) rd12 (by omega)).mono ?_
            rintro e w34 ⟨f, p, v, rfl, hf, hp, hv, rd14, ccw34, -⟩
            unfold pgv
            simp only
            have hS14 := hS12.trans ccw34
            replace hpx := box_chg hpx ccw34 (by omega)
            refine hK12.out _ _ hS14 (fun _ => ?_)

            refine wpAnyH_ready (fuel := 5) (rs := [6]) (by kernel_rfl) (by simp) (AllReadyH.cons rfl (fun K14 hK14 => ?_) AllReadyH.nil)
            go_simp
            refine (HWr.out ⟨true, f, p, v, 1 + x⟩ _ _ _ (RP.chg HP5.out ((show Chg (· = rb) w5 w34 from by assumption).trans (Chg.refl _ _)) (fun c hc _ hs => by omega)) (by unfold pgOk; simp [inB]; omega) rfl).mono ?_
            rintro e w36 ⟨s6, rfl, o6, b6⟩
            generalize bnext b0 = xn
            have ccw36 : Chg (· = rb) w34 w36 := below_chg b6 _
            have rd16 := rd14.kept b6
            obtain ⟨a6, cap6, b6', off6, rfl, -⟩ := o6.rp.open
            have hbo := wrb_ok (p := ⟨true, f, p, v, 1 + x⟩) HBO.out (by unfold pgOk; simp [inB]; omega) rfl
            generalize wrb b0 ⟨true, f, p, v, 1 + x⟩ = bw at o6 hbo ⊢
            have hzw : w5.heap.size ≤ w34.heap.size := (show Chg (· = rb) w5 w34 from by assumption).size
            have hS16 := hS14.trans ccw36
            replace hpx := box_chg hpx ccw36 (by omega)
            refine hK14.out _ _ hS16 (fun _ => ?_)
            refine hs_take (fuel := 4) 7 (some 26) (Value.tuple #[.agg #[.int .i64 bw.wear, .slice a6 bw.pages.length cap6], .int .i64 xn]) rfl rfl (by kernel_rfl) (by kernel_rfl) (by kernel_rfl) (fun _ _ _ h => h) (by rfl) (fun wq hq => ?_) (by assumption) ?_
            · go_simp
            simp only [Act.put, List.setIfInBounds_toArray, List.set_cons_zero, List.set_cons_succ]
            refine hs_take (fuel := 3) 8 (some 34) (Value.agg #[.int .i64 bw.wear, .slice a6 bw.pages.length cap6]) rfl rfl (by kernel_rfl) (by kernel_rfl) (by kernel_rfl) (fun _ _ _ h => h) (by rfl) (fun wq hq => ?_) (by assumption) ?_
            · go_simp
            simp only [Act.put, List.setIfInBounds_toArray, List.set_cons_zero, List.set_cons_succ]
            refine hs_take (fuel := 2) 9 (some 35) (.int .i64 xn) rfl rfl (by kernel_rfl) (by kernel_rfl) (by kernel_rfl) (fun _ _ _ h => h) (by rfl) (fun wq hq => ?_) (by assumption) ?_
            · go_simp
            simp only [Act.put, List.setIfInBounds_toArray, List.set_cons_zero, List.set_cons_succ]
            have hc : Chg (fun c => c = w22.heap.size) w36 ((w36.setCell ⟨w22.heap.size, 0, none⟩ (.int .i64 bw.wear)).setCell ⟨w22.heap.size, 1, none⟩ (.slice a6 bw.pages.length cap6)) := Chg.setCell (S := fun c => c = w22.heap.size) (Chg.setCell (S := fun c => c = w22.heap.size) (Chg.refl _ _) (p := ⟨w22.heap.size, 0, none⟩) (.inr rfl) _) (p := ⟨w22.heap.size, 1, none⟩) (.inr rfl) _
            have hBz : w5.heap.size ≤ w22.heap.size := (show Chg (· = rb) w5 w22 from by assumption).size
            have hSm : Chg (· = rb) w5 ((w36.setCell ⟨w22.heap.size, 0, none⟩ (.int .i64 bw.wear)).setCell ⟨w22.heap.size, 1, none⟩ (.slice a6 bw.pages.length cap6)) := hS16.own (hc.mono fun k _ hk => by omega)
            refine wpAnyH_ready (fuel := 1) (rs := [11]) (by kernel_rfl) (by simp) (AllReadyH.cons rfl (fun K hK => ?_) AllReadyH.nil)
            obtain ⟨⟨e0, e1⟩, e2, e3⟩ := two_at hpx
            go_simp
            refine hK.out _ _ ?_ (fun hS => ?_)
            · exact hSm
            refine hs_take (fuel := 0) 12 (some 8) (.int .i64 xn) rfl rfl (by kernel_rfl) (by kernel_rfl) (by kernel_rfl) (fun _ _ _ h => h) (by rfl) (fun wq hq => ?_) (by assumption) ?_
            · go_simp
            simp only [Act.put, List.setIfInBounds_toArray, List.set_cons_zero, List.set_cons_succ]
            refine wpAnyH_done (by kernel_rfl) ?_ _
            go_wp2_with fail
            go_meet
            have hot : ∀ c, (Value.slice a6 bw.pages.length cap6).ownBlock = some c → ¬ c = w22.heap.size := fun c hc hs => by
              subst hs
              obtain ⟨cur, e⟩ := own_type o6.1 hc
              rw [hpx] at e
              simp at e
            exact ⟨_, bw, _, xn, rfl, rfl, box2_set hpx, (o6.chg hc (fun c _ he hs => hot c he hs)).wide hzw, hbo, (RdLe.chg rd16 hc (fun c hc2 hs => by omega)).up (by omega), hSm, hBz⟩
        · go_simp
          have hS17 : Chg (· = rb) w5 (w5.drew.alloc (.cells #[.int .i64 0, .slice none 0 0] 44)) := hS0.trans (below_chg (balloc _ _) _)
          have rd17 := rd0.kept (balloc w5.drew (.cells #[.int .i64 0, .slice none 0 0] 44))
          have hpx : (w5.drew.alloc (.cells #[.int .i64 0, .slice none 0 0] 44)).heap[w5.heap.size]? = some (.cells #[.int .i64 0, .slice none 0 0] 44) := heap_alloc_new w5.drew _
          have hBr : rb < w5.heap.size := Nat.lt_of_lt_of_le hrb5 hS0.size
          refine hK0.out _ _ hS17 (fun _ => ?_)
          refine wpAnyH_ready (fuel := 8) (rs := [3]) (by kernel_rfl) (by simp) (AllReadyH.cons rfl (fun K17 hK17 => ?_) AllReadyH.nil)
          go_simp
          refine (pick_le _ rb _ 9 rd17 (by omega) (by omega) (by omega)).mono ?_
          rintro e w39 ⟨x, rfl, hx0, hx1, rd19, ccw39, -⟩
          have hS19 := hS17.trans ccw39
          replace hpx := box_chg hpx ccw39 (by omega)
          refine hK17.out _ _ hS19 (fun _ => ?_)
          refine hs_take (fuel := 7) 4 (some 31) (.int .i64 (1 + x)) rfl rfl (by kernel_rfl) (by kernel_rfl) (by kernel_rfl) (fun _ _ _ h => h) (by rfl) (fun wq hq => ?_) (by assumption) ?_
          · go_simp
            rw [IntKind.wrap_i64]
            omega
          simp only [Act.put, List.setIfInBounds_toArray, List.set_cons_zero, List.set_cons_succ]
          refine wpAnyH_ready (fuel := 6) (rs := [5]) (by kernel_rfl) (by simp) (AllReadyH.cons rfl (fun K19 hK19 => ?_) AllReadyH.nil)
          go_simp
          refine (full_any _ rb _ (1 + x) rd19 (by omega)).mono ?_
          rintro e w41 ⟨f, p, v, rfl, hf, hp, hv, rd21, ccw41, -⟩
          unfold pgv
          simp only
          have hS21 := hS19.trans ccw41
          replace hpx := box_chg hpx ccw41 (by omega)
          refine hK19.out _ _ hS21 (fun _ => ?_)

          refine wpAnyH_ready (fuel := 5) (rs := [6]) (by kernel_rfl) (by simp) (AllReadyH.cons rfl (fun K21 hK21 => ?_) AllReadyH.nil)
          go_simp
          refine (HWr.out ⟨true, f, p, v, 1 + x⟩ _ _ _ (RP.chg HP5.out ((show Chg (· = rb) w5 w41 from by assumption).trans (Chg.refl _ _)) (fun c hc _ hs => by omega)) (by unfold pgOk; simp [inB]; omega) rfl).mono ?_
          rintro e w43 ⟨s6, rfl, o6, b6⟩
          generalize bnext b0 = xn
          have ccw43 : Chg (· = rb) w41 w43 := below_chg b6 _
          have rd23 := rd21.kept b6
          obtain ⟨a6, cap6, b6', off6, rfl, -⟩ := o6.rp.open
          have hbo := wrb_ok (p := ⟨true, f, p, v, 1 + x⟩) HBO.out (by unfold pgOk; simp [inB]; omega) rfl
          generalize wrb b0 ⟨true, f, p, v, 1 + x⟩ = bw at o6 hbo ⊢
          have hzw : w5.heap.size ≤ w41.heap.size := (show Chg (· = rb) w5 w41 from by assumption).size
          have hS23 := hS21.trans ccw43
          replace hpx := box_chg hpx ccw43 (by omega)
          refine hK21.out _ _ hS23 (fun _ => ?_)
          refine hs_take (fuel := 4) 7 (some 26) (Value.tuple #[.agg #[.int .i64 bw.wear, .slice a6 bw.pages.length cap6], .int .i64 xn]) rfl rfl (by kernel_rfl) (by kernel_rfl) (by kernel_rfl) (fun _ _ _ h => h) (by rfl) (fun wq hq => ?_) (by assumption) ?_
          · go_simp
          simp only [Act.put, List.setIfInBounds_toArray, List.set_cons_zero, List.set_cons_succ]
          refine hs_take (fuel := 3) 8 (some 34) (Value.agg #[.int .i64 bw.wear, .slice a6 bw.pages.length cap6]) rfl rfl (by kernel_rfl) (by kernel_rfl) (by kernel_rfl) (fun _ _ _ h => h) (by rfl) (fun wq hq => ?_) (by assumption) ?_
          · go_simp
          simp only [Act.put, List.setIfInBounds_toArray, List.set_cons_zero, List.set_cons_succ]
          refine hs_take (fuel := 2) 9 (some 35) (.int .i64 xn) rfl rfl (by kernel_rfl) (by kernel_rfl) (by kernel_rfl) (fun _ _ _ h => h) (by rfl) (fun wq hq => ?_) (by assumption) ?_
          · go_simp
          simp only [Act.put, List.setIfInBounds_toArray, List.set_cons_zero, List.set_cons_succ]
          have hc : Chg (fun c => c = w5.heap.size) w43 ((w43.setCell ⟨w5.heap.size, 0, none⟩ (.int .i64 bw.wear)).setCell ⟨w5.heap.size, 1, none⟩ (.slice a6 bw.pages.length cap6)) := Chg.setCell (S := fun c => c = w5.heap.size) (Chg.setCell (S := fun c => c = w5.heap.size) (Chg.refl _ _) (p := ⟨w5.heap.size, 0, none⟩) (.inr rfl) _) (p := ⟨w5.heap.size, 1, none⟩) (.inr rfl) _
          have hBz : w5.heap.size ≤ w5.heap.size := Nat.le_refl _
          have hSm : Chg (· = rb) w5 ((w43.setCell ⟨w5.heap.size, 0, none⟩ (.int .i64 bw.wear)).setCell ⟨w5.heap.size, 1, none⟩ (.slice a6 bw.pages.length cap6)) := hS23.own (hc.mono fun k _ hk => by omega)
          refine wpAnyH_ready (fuel := 1) (rs := [11]) (by kernel_rfl) (by simp) (AllReadyH.cons rfl (fun K hK => ?_) AllReadyH.nil)
          obtain ⟨⟨e0, e1⟩, e2, e3⟩ := two_at hpx
          go_simp
          refine hK.out _ _ ?_ (fun hS => ?_)
          · exact hSm
          refine hs_take (fuel := 0) 12 (some 8) (.int .i64 xn) rfl rfl (by kernel_rfl) (by kernel_rfl) (by kernel_rfl) (fun _ _ _ h => h) (by rfl) (fun wq hq => ?_) (by assumption) ?_
          · go_simp
          simp only [Act.put, List.setIfInBounds_toArray, List.set_cons_zero, List.set_cons_succ]
          refine wpAnyH_done (by kernel_rfl) ?_ _
          go_wp2_with fail
          go_meet
          have hot : ∀ c, (Value.slice a6 bw.pages.length cap6).ownBlock = some c → ¬ c = w5.heap.size := fun c hc hs => by
            subst hs
            obtain ⟨cur, e⟩ := own_type o6.1 hc
            rw [hpx] at e
            simp at e
          exact ⟨_, bw, _, xn, rfl, rfl, box2_set hpx, (o6.chg hc (fun c _ he hs => hot c he hs)).wide hzw, hbo, (RdLe.chg rd23 hc (fun c hc2 hs => by omega)).up (by omega), hSm, hBz⟩

      case rest =>
        obtain ⟨B, b2, s2, x2, rfl, rfl, xB, oB, hB2, rB, cB, hBz⟩ := hcut
        obtain ⟨g2, cap2, rfl, -, -, -⟩ := own_shape1 oB.1 (show 0 < b2.pages.length by have := (bkOk_iff.1 hB2).2.1; omega)
        have HS := Lib.hid (HR.out.pick cB rB)
        obtain ⟨⟨t0, t1⟩, t2, t3⟩ := two_at HS.out.2.2.1
        obtain ⟨⟨v0, v1⟩, -⟩ := two_at xB
        have HF := Lib.hid (HS.out.put (oB.wide hz5) hB2)
        obtain ⟨jn, rfl⟩ : ∃ jn, j = jn + 1 := ⟨j - 1, by omega⟩
        clear xB oB hB2 rB cB k0 k1
        go_wp2_with fail
        go_roundw
        case rel => exact ⟨jn, b2, _, by omega, by go_num, HF.out.1.up (by omega), HF.out.2⟩
        case measure => simp [intOf]
    · obtain rfl : j = 0 := by omega
      have HS : Hid (BkS H w rb (q + 23) T b0 (.slice (some ⟨g0, 0, none⟩) b0.pages.length cap0) w5) := Lib.hid ⟨HR.out.1.up (by omega), HR.out.2⟩
      clear HR t0 t1 t2 t3
      go_wp2_with fail
      refine (odd_le _ rb _ m HS.out.1.1 (by omega) hm1 (by omega)).mono ?_
      rintro e w6 ⟨bb, rfl, r1, c1, -⟩
      replace HS := Lib.hid (HS.out.pick c1 r1)
      have HWI : Hid (I64 b0.wear) := Lib.hid (by have := (bkOk_iff.1 HS.out.2.2.2.2.2).1; unfold I64; omega)
      clear r1 c1
      cases bb
      · obtain ⟨⟨t0, t1⟩, t2, t3⟩ := two_at HS.out.2.2.1
        obtain ⟨⟨r0, r1⟩, r2, r3⟩ := two_at HS.out.2.2.2.1
        go_wp2_with fail
        obtain ⟨e1, e2⟩ := br_end (u := .int .i64 b0.wear) HS.out.1 HS.out.op.rp (Nat.le_refl _)
        exact bodyPost_ret (v := .agg #[.int .i64 b0.wear, .slice (some ⟨g0, 0, none⟩) b0.pages.length cap0]) (by simp [results, Try.results77, go_sem, r0, r1]) rfl ⟨b0, _, rfl, HWI.out, by have := H4.out; omega, e1, e2.up (by omega)⟩
      · go_wp2_with fail
        refine (pick_le _ rb _ 4 HS.out.1.1 (by omega) (by omega) (by omega)).mono ?_
        rintro e w7 ⟨y, rfl, y0, y1, r1, c1, -⟩
        replace HS := Lib.hid (HS.out.pick c1 r1)
        clear r1 c1
        obtain ⟨⟨t0, t1⟩, t2, t3⟩ := two_at HS.out.2.2.1
        obtain ⟨⟨r0, r1⟩, r2, r3⟩ := two_at HS.out.2.2.2.1
        obtain rfl | rfl | rfl | rfl : y = 0 ∨ y = 1 ∨ y = 2 ∨ y = 3 := by omega
        · have XL := Lib.hid (heap_alloc_new w7 (.cells #[.int .i64 (-1), .int .i64 101] 3))
          have hz7 := HS.out.1.size
          have hlt7 := (Array.getElem?_eq_some_iff.1 HS.out.2.2.1).1
          have HO := Lib.hid (HS.out.op.below (balloc w7 (.cells #[.int .i64 (-1), .int .i64 101] 3)))
          have HD := Lib.hid (HS.out.1.below (balloc w7 (.cells #[.int .i64 (-1), .int .i64 101] 3)))
          have HX := Lib.hid (And.intro (box_keep HS.out.2.2.1 (balloc w7 (.cells #[.int .i64 (-1), .int .i64 101] 3))) (box_keep HS.out.2.2.2.1 (balloc w7 (.cells #[.int .i64 (-1), .int .i64 101] 3))))
          clear t0 t1 t2 t3 r0 r1 r2 r3
          go_wp2_with fail
          refine (pick_le _ rb _ 2 HD.out.1 (by omega) (by omega) (by omega)).mono ?_
          rintro e w8 ⟨y', rfl, y0', y1', r1, c1, -⟩
          replace XL := Lib.hid (HD.out.box hz7 c1 XL.out)
          replace HX := Lib.hid (And.intro (HD.out.box (by have := HS.out.2.1; omega) c1 HX.out.1) (HD.out.box (Nat.le_refl _) c1 HX.out.2))
          replace HO := Lib.hid (HO.out.chg c1 (fun k hk _ hs => by omega))
          replace HD := Lib.hid (HD.out.pick c1 r1)
          obtain ⟨⟨t0, t1⟩, t2, t3⟩ := two_at HX.out.1
          obtain ⟨⟨r0, r1⟩, r2, r3⟩ := two_at HX.out.2
          have h3 := XL.out
          obtain ⟨v0, v1⟩ := (two_at h3).1
          clear c1 h3
          obtain rfl | rfl : y' = 0 ∨ y' = 1 := by omega
          · go_wp2_with fail
            have hc : Chg (fun c => c = T) w8 (w8.setCell ⟨T, 0, none⟩ (.int .i64 (-1))) := Chg.setCell (S := fun c => c = T) (Chg.refl _ _) (p := ⟨T, 0, none⟩) (.inr rfl) _
            have hO := HO.out.chg hc (fun k _ he hs => by
              subst hs
              obtain ⟨cur, e⟩ := own_type HO.out.1 he
              rw [HX.out.1] at e
              simp at e)
            have hT0 := HS.out.2.1
            obtain ⟨e1, e2⟩ := br_end (u := .int .i64 (-1)) (HD.out.own (hc.mono fun k _ hk => by omega)) hO.rp (Nat.le_refl _)
            exact bodyPost_ret (v := .agg #[.int .i64 (-1), .slice (some ⟨g0, 0, none⟩) b0.pages.length cap0]) (by simp [results, Try.results77, go_sem, r0, r1, hTw, hTw2]) rfl ⟨⟨(-1), b0.pages⟩, _, rfl, by unfold I64; simp, by have := H4.out; simp; omega, e1, e2.up (by omega)⟩
          · go_wp2_with fail
            have hc : Chg (fun c => c = T) w8 (w8.setCell ⟨T, 0, none⟩ (.int .i64 101)) := Chg.setCell (S := fun c => c = T) (Chg.refl _ _) (p := ⟨T, 0, none⟩) (.inr rfl) _
            have hO := HO.out.chg hc (fun k _ he hs => by
              subst hs
              obtain ⟨cur, e⟩ := own_type HO.out.1 he
              rw [HX.out.1] at e
              simp at e)
            have hT0 := HS.out.2.1
            obtain ⟨e1, e2⟩ := br_end (u := .int .i64 101) (HD.out.own (hc.mono fun k _ hk => by omega)) hO.rp (Nat.le_refl _)
            exact bodyPost_ret (v := .agg #[.int .i64 101, .slice (some ⟨g0, 0, none⟩) b0.pages.length cap0]) (by simp [results, Try.results77, go_sem, r0, r1, hTw, hTw2]) rfl ⟨⟨101, b0.pages⟩, _, rfl, by unfold I64; simp, by have := H4.out; simp; omega, e1, e2.up (by omega)⟩
        · go_wp2_with fail
          have hc : Chg (fun c => c = T) w7 (w7.setCell ⟨T, 1, none⟩ (.slice (some ⟨g0, 5, none⟩) (b0.pages.length - 1) (cap0 - 1))) := Chg.setCell (S := fun c => c = T) (Chg.refl _ _) (p := ⟨T, 1, none⟩) (.inr rfl) _
          have hO := (HS.out.op.chg hc (fun k _ he hs => by
            subst hs
            obtain ⟨cur, e⟩ := own_type HS.out.op.1 he
            rw [HS.out.2.2.1] at e
            simp at e)).rp.tail hb0
          have hT0 := HS.out.2.1
          obtain ⟨e1, e2⟩ := br_end (u := .int .i64 b0.wear) (HS.out.1.own (hc.mono fun k _ hk => by omega)) hO (Nat.le_refl _)
          exact bodyPost_ret (v := .agg #[.int .i64 b0.wear, .slice (some ⟨g0, 5, none⟩) (b0.pages.length - 1) (cap0 - 1)]) (by simp [results, Try.results77, go_sem, r0, r1, hTw, hTw2]) rfl ⟨⟨b0.wear, b0.pages.drop 1⟩, _, rfl, HWI.out, by have := H4.out; simp; omega, e1, e2.up (by omega)⟩
        · have hb1 : 1 < b0.pages.length := by have := H4.out; omega
          have hb1i : (1 : Int) < (b0.pages.length : Int) := by omega
          have hb0i : (0 : Int) < (b0.pages.length : Int) := by omega
          have hT0 := HS.out.2.1
          obtain ⟨g', cap', eg, -, ⟨⟨u0, k0⟩, ⟨u1, k1⟩, ⟨u2, k2⟩, ⟨u3, k3⟩, ⟨u4, k4⟩⟩, ⟨l0, l1, l2, l3, l4⟩, ⟨hg1, hg2⟩, hput⟩ := HS.out.op.page 0 hb0
          simp only [Value.slice.injEq, Option.some.injEq, Addr.mk.injEq, and_true, true_and] at eg
          obtain ⟨rfl, rfl⟩ := eg
          obtain ⟨g', cap', eg, -, ⟨⟨u5, k5⟩, ⟨u6, k6⟩, ⟨u7, k7⟩, ⟨u8, k8⟩, ⟨u9, k9⟩⟩, ⟨l5, l6, l7, l8, l9⟩, -, -⟩ := HS.out.op.page 1 hb1
          simp only [Value.slice.injEq, Option.some.injEq, Addr.mk.injEq, and_true, true_and] at eg
          obtain ⟨rfl, rfl⟩ := eg
          simp only [Nat.zero_mul, Nat.one_mul, Nat.zero_add, Nat.reduceAdd] at k0 k1 k2 k3 k4 k5 k6 k7 k8 k9 l0 l1 l2 l3 l4 l5 l6 l7 l8 l9
          have hO1 : OP (((((w7.setCell ⟨g0, 0, none⟩ (.bool false)).setCell ⟨g0, 1, none⟩ (.int .i64 0)).setCell ⟨g0, 2, none⟩ (.int .i64 0)).setCell ⟨g0, 3, none⟩ (.int .i64 0)).setCell ⟨g0, 4, none⟩ (.int .i64 0)) (w.heap.size + 1) (.slice (some ⟨g0, 0, none⟩) b0.pages.length cap0) (b0.pages.set 0 pg0) := hput pg0 pg0_i
          obtain ⟨g', cap', eg, -, -, -, -, hput2⟩ := hO1.page 1 (by rw [List.length_set]; exact hb1)
          simp only [List.length_set, Value.slice.injEq, Option.some.injEq, Addr.mk.injEq, and_true, true_and] at eg
          obtain ⟨rfl, rfl⟩ := eg
          have hO2 : OP ((((((((((w7.setCell ⟨g0, 0, none⟩ (.bool false)).setCell ⟨g0, 1, none⟩ (.int .i64 0)).setCell ⟨g0, 2, none⟩ (.int .i64 0)).setCell ⟨g0, 3, none⟩ (.int .i64 0)).setCell ⟨g0, 4, none⟩ (.int .i64 0)).setCell ⟨g0, 5, none⟩ (.bool true)).setCell ⟨g0, 6, none⟩ (.int .i64 0)).setCell ⟨g0, 7, none⟩ (.int .i64 0)).setCell ⟨g0, 8, none⟩ (.int .i64 0)).setCell ⟨g0, 9, none⟩ (.int .i64 1)) (w.heap.size + 1) (.slice (some ⟨g0, 0, none⟩) b0.pages.length cap0) ((b0.pages.set 0 pg0).set 1 ⟨true, 0, 0, 0, 1⟩) := hput2 ⟨true, 0, 0, 0, 1⟩ (by unfold PgI I64; simp)
          have hc5 : Chg (fun c => w.heap.size ≤ c) w7 (((((w7.setCell ⟨g0, 0, none⟩ (.bool false)).setCell ⟨g0, 1, none⟩ (.int .i64 0)).setCell ⟨g0, 2, none⟩ (.int .i64 0)).setCell ⟨g0, 3, none⟩ (.int .i64 0)).setCell ⟨g0, 4, none⟩ (.int .i64 0)) := chg5 (Chg.refl _ w7) (.inr hg0) _ _ _ _ _ _ _ _ _ _
          have hc6 : Chg (fun c => w.heap.size ≤ c) (((((w7.setCell ⟨g0, 0, none⟩ (.bool false)).setCell ⟨g0, 1, none⟩ (.int .i64 0)).setCell ⟨g0, 2, none⟩ (.int .i64 0)).setCell ⟨g0, 3, none⟩ (.int .i64 0)).setCell ⟨g0, 4, none⟩ (.int .i64 0)) ((((((((((w7.setCell ⟨g0, 0, none⟩ (.bool false)).setCell ⟨g0, 1, none⟩ (.int .i64 0)).setCell ⟨g0, 2, none⟩ (.int .i64 0)).setCell ⟨g0, 3, none⟩ (.int .i64 0)).setCell ⟨g0, 4, none⟩ (.int .i64 0)).setCell ⟨g0, 5, none⟩ (.bool true)).setCell ⟨g0, 6, none⟩ (.int .i64 0)).setCell ⟨g0, 7, none⟩ (.int .i64 0)).setCell ⟨g0, 8, none⟩ (.int .i64 0)).setCell ⟨g0, 9, none⟩ (.int .i64 1)) := chg5 (Chg.refl _ _) (.inr hg0) _ _ _ _ _ _ _ _ _ _
          have hgT : ¬ T = g0 := fun e => by
            subst e
            obtain ⟨cur, e⟩ := own_type HS.out.op.1 rfl
            rw [HS.out.2.2.1] at e
            simp at e
          have hgT2 : ¬ g0 = T := fun e => hgT e.symm
          have hgR : ¬ w.heap.size = g0 := by omega
          have hgR2 : ¬ g0 = w.heap.size := by omega
          obtain ⟨e1, e2⟩ := br_end (u := .int .i64 b0.wear) (HS.out.1.own (hc5.trans hc6)) hO2.rp (Nat.le_refl _)
          have HE := Lib.hid (And.intro e1 e2)
          clear hput hput2 hO1 hO2 hc5 hc6 e1 e2
          go_wp2_with fail
          exact bodyPost_ret (v := .agg #[.int .i64 b0.wear, .slice (some ⟨g0, 0, none⟩) b0.pages.length cap0]) (by simp [results, Try.results77, go_sem, r0, r1, hTw, hTw2]) rfl ⟨⟨b0.wear, (b0.pages.set 0 pg0).set 1 ⟨true, 0, 0, 0, 1⟩⟩, _, rfl, HWI.out, by have := H4.out; simp; omega, HE.out.1, HE.out.2.up (by omega)⟩
        · have hT0 := HS.out.2.1
          have hlt7 := HS.out.1.size
          have hgT : ¬ T = g0 := fun e => by
            subst e
            obtain ⟨cur, e⟩ := own_type HS.out.op.1 rfl
            rw [HS.out.2.2.1] at e
            simp at e
          have hgT2 : ¬ g0 = T := fun e => hgT e.symm
          have hgR : ¬ w.heap.size = g0 := fun e => by
            obtain ⟨cur, e3⟩ := own_type HS.out.op.1 rfl
            rw [← e, HS.out.2.2.2.1] at e3
            simp at e3
          have hgR2 : ¬ g0 = w.heap.size := fun e => hgR e.symm
          have k1 := And.intro t1 (show ¬ (T = rb ∨ T = g0) by omega)
          have rd0 : RdLe H w7.drew rb (q + 23 + 1 + 1) := HS.out.1.1.kept (bdrew _)
          clear t0 t1 t2 t3 r0 r1 r2 r3
          go_wp2_with fail
          refine region_held_n 8 (S := fun w' => Chg (fun c => c = rb ∨ c = g0) w7 w') (by kernel_rfl) (by kernel_rfl) (below_chg (bdrew _) _) (fun hS0 => ?_)
          refine hs_take (fuel := 7) 0 (some 42) (.pointer (some ⟨T, 1, none⟩)) rfl rfl (by kernel_rfl) (by kernel_rfl) (by kernel_rfl) (fun _ _ _ h => h) (by rfl) (fun wq hq => ?_) (by assumption) ?_
          · go_simp
          simp only [Act.put, List.setIfInBounds_toArray, List.set_cons_zero, List.set_cons_succ]
          refine hs_take (fuel := 6) 1 (some 43) (.slice (some ⟨g0, 0, none⟩) b0.pages.length cap0) rfl rfl (by kernel_rfl) (by kernel_rfl) (by kernel_rfl) (fun _ _ _ h => h) (by rfl) (fun wq hq => ?_) (by assumption) ?_
          · have p0 := cell_chg hq k1
            go_simp
          simp only [Act.put, List.setIfInBounds_toArray, List.set_cons_zero, List.set_cons_succ]
          refine hs_take (fuel := 5) 2 (some 44) (.pointer (some ⟨rb, 0, none⟩)) rfl rfl (by kernel_rfl) (by kernel_rfl) (by kernel_rfl) (fun _ _ _ h => h) (by rfl) (fun wq hq => ?_) (by assumption) ?_
          · go_simp
          simp only [Act.put, List.setIfInBounds_toArray, List.set_cons_zero, List.set_cons_succ]
          refine hs_take (fuel := 4) 4 (some 46) (.pointer (some ⟨rb, 0, none⟩)) rfl rfl (by kernel_rfl) (by kernel_rfl) (by kernel_rfl) (fun _ _ _ h => h) (by rfl) (fun wq hq => ?_) (by assumption) ?_
          · go_simp
          simp only [Act.put, List.setIfInBounds_toArray, List.set_cons_zero, List.set_cons_succ]
          refine wpAnyH_ready (fuel := 3) (rs := [3]) (by kernel_rfl) (by simp) (AllReadyH.cons rfl (fun K hK => ?_) AllReadyH.nil)
          go_simp
          refine (pick_le _ rb _ 4 rd0 (by omega) (by omega) (by omega)).mono ?_
          rintro e w8 ⟨kk, rfl, kk0, kk1, rd1, cc1, -⟩
          obtain ⟨k, rfl⟩ := Int.eq_ofNat_of_zero_le kk0
          refine hK.out _ _ ?_ (fun hS => ?_)
          · exact hS0.trans (cc1.mono fun c _ hc => .inl hc)
          refine wpAnyH_ready (fuel := 2) (rs := [5]) (by kernel_rfl) (by simp) (AllReadyH.cons rfl (fun K hK => ?_) AllReadyH.nil)
          go_simp
          refine (page_any _ rb _ 1 rd1 (by omega) (by omega) (by omega)).mono ?_
          rintro e w9 ⟨p, rfl, hpi, rd2⟩
          unfold pgv
          simp only
          have hk4 : k < b0.pages.length := by have := H4.out; omega
          have hki : (k : Int) < (b0.pages.length : Int) := by omega
          have cc2 : Chg (· = rb) w7 w9 := (below_chg (bdrew w7) _).trans (cc1.trans rd2.2.1)
          have HS9 := Lib.hid (HS.out.pick cc2 rd2.1)
          refine hK.out _ _ ?_ (fun hS => ?_)
          · exact cc2.mono fun c _ hc => .inl hc
          refine hs_take (fuel := 1) 6 (some 48) (.pointer (some ⟨g0, k * 5, none⟩)) rfl rfl (by kernel_rfl) (by kernel_rfl) (by kernel_rfl) (fun _ _ _ h => h) (by rfl) (fun wq hq => ?_) (by assumption) ?_
          · go_simp
          simp only [Act.put, List.setIfInBounds_toArray, List.set_cons_zero, List.set_cons_succ]
          refine wpAnyH_ready (fuel := 0) (rs := [7]) (by kernel_rfl) (by simp) (AllReadyH.cons rfl (fun K hK => ?_) AllReadyH.nil)
          obtain ⟨g2, cap2, eg, -, ⟨⟨u0, m0⟩, ⟨u1, m1⟩, ⟨u2, m2⟩, ⟨u3, m3⟩, ⟨u4, m4⟩⟩, ⟨l0, l1, l2, l3, l4⟩, -, hput⟩ := HS9.out.op.page k hk4
          simp only [Value.slice.injEq, Option.some.injEq, Addr.mk.injEq, and_true, true_and] at eg
          obtain ⟨rfl, rfl⟩ := eg
          have HPut := Lib.hid (hput p hpi)
          clear hput
          go_simp
          refine hK.out _ _ ?_ (fun hS => ?_)
          · exact chg5' (cc2.mono fun c _ hc => .inl hc) (.inr rfl) _ _ _ _ _ _ _ _ _ _
          refine wpAnyH_done (by kernel_rfl) ?_ _
          obtain ⟨⟨t0, t1⟩, t2, t3⟩ := two_at HS9.out.2.2.1
          obtain ⟨⟨r0, r1⟩, r2, r3⟩ := two_at HS9.out.2.2.2.1
          have hc5 : Chg (fun c => w.heap.size ≤ c) w9 (((((w9.setCell ⟨g0, k * 5, none⟩ (.bool p.full)).setCell ⟨g0, k * 5 + 1, none⟩ (.int .i64 p.file)).setCell ⟨g0, k * 5 + 2, none⟩ (.int .i64 p.place)).setCell ⟨g0, k * 5 + 3, none⟩ (.int .i64 p.value)).setCell ⟨g0, k * 5 + 4, none⟩ (.int .i64 p.stamp)) := chg5 (Chg.refl _ w9) (.inr hg0) _ _ _ _ _ _ _ _ _ _
          obtain ⟨e1, e2⟩ := br_end (u := .int .i64 b0.wear) (HS9.out.1.own hc5) HPut.out.rp (Nat.le_refl _)
          have HE := Lib.hid (And.intro e1 e2)
          clear e1 e2 hc5 hS hS0 cc1 cc2 rd0 rd1 rd2 k1 m0 m1 m2 m3 m4 l0 l1 l2 l3 l4
          go_wp2_with fail
          exact bodyPost_ret (v := .agg #[.int .i64 b0.wear, .slice (some ⟨g0, 0, none⟩) b0.pages.length cap0]) (by simp [results, Try.results77, go_sem, r0, r1, hTw, hTw2, hgR, hgR2]) rfl ⟨⟨b0.wear, b0.pages.set k p⟩, _, rfl, HWI.out, by have := H4.out; simp; omega, HE.out.1, HE.out.2.up (by omega)⟩

end Go.Proofs.Ytjmofmdcegefgaa

