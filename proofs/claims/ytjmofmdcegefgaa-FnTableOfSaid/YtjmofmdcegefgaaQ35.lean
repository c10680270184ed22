/-
  Texts of this claim, laid together: Drg.
-/
import Derived.Test.YtjmofmdcegefgaaQ04
import Derived.Test.YtjmofmdcegefgaaQ34
namespace Go.Proofs.Ytjmofmdcegefgaa
open Go.RowKit
set_option linter.unusedSimpArgs false
set_option linter.unusedVariables false
set_option linter.unnecessarySimpa false
variable {H : Nat}

/-- A device that is small. -/
def Sml (d : List Bk) : Prop := d.length ≤ 13 ∧ ∀ b ∈ d, b.pages.length ≤ 4
/-- A device, out of a code. -/
def DevD (w : World) (e : Ending) (w' : World) : Prop := ∃ (v : Value) (d : List Bk), e = .returned v ∧ RD w' w.heap.size w'.heap.size v d ∧ Sml d ∧ Below w.heap.size w w'
/-- A device and a table. -/
def PairD (w : World) (e : Ending) (w' : World) : Prop := ∃ (v : Value) (d : List Bk) (tv : Value) (t : List (List Int)), e = .returned (.tuple #[v, .agg #[tv]]) ∧ RD w' w.heap.size w'.heap.size v d ∧ Sml d ∧ RT w' w.heap.size w'.heap.size tv t ∧ Below w.heap.size w w'
/-- A device, a table and a file. -/
def PairFD (w : World) (e : Ending) (w' : World) : Prop := ∃ (v : Value) (d : List Bk) (tv : Value) (t : List (List Int)) (f : Int), e = .returned (.tuple #[v, .agg #[tv], .int .i64 f]) ∧ RD w' w.heap.size w'.heap.size v d ∧ Sml d ∧ RT w' w.heap.size w'.heap.size tv t ∧ (-1 ≤ f ∧ f ≤ 8) ∧ Below w.heap.size w w'
/-- A device, a table and heads. -/
def TriD (w : World) (e : Ending) (w' : World) : Prop := ∃ (v : Value) (d : List Bk) (tv : Value) (t : List (List Int)) (h : Hd), e = .returned (.tuple #[v, .agg #[tv], hdv h]) ∧ RD w' w.heap.size w'.heap.size v d ∧ Sml d ∧ RT w' w.heap.size w'.heap.size tv t ∧ HdI h ∧ Below w.heap.size w w'
/-- And a time. -/
def TriND (w : World) (e : Ending) (w' : World) : Prop := ∃ (v : Value) (d : List Bk) (tv : Value) (t : List (List Int)) (h : Hd) (n : Int), e = .returned (.tuple #[v, .agg #[tv], hdv h, .int .i64 n]) ∧ RD w' w.heap.size w'.heap.size v d ∧ Sml d ∧ RT w' w.heap.size w'.heap.size tv t ∧ HdI h ∧ I64 n ∧ Below w.heap.size w w'

/-- What is drawn stands, while the boxes turn. -/
def PrS (w : World) (lo hi : Nat) (v : Value) (d : List Bk) (tv : Value) (t : List (List Int)) (wr : World) : Prop :=
  Below w.heap.size w wr ∧ RD wr lo hi v d ∧ RT wr lo hi tv t ∧ w.heap.size ≤ lo ∧ hi ≤ wr.heap.size
theorem PrS.below {w wr w' : World} {lo hi : Nat} {v tv : Value} {d : List Bk} {t : List (List Int)} (h : PrS w lo hi v d tv t wr) (b : Below wr.heap.size wr w') : PrS w lo hi v d tv t w' :=
  ⟨bup2 h.1 b, h.2.1.below b, h.2.2.1.below b, h.2.2.2.1, Nat.le_trans h.2.2.2.2 b.size⟩
theorem PrS.chg {S : Nat → Prop} {w wr w' : World} {lo hi : Nat} {v tv : Value} {d : List Bk} {t : List (List Int)} (h : PrS w lo hi v d tv t wr) (c : Chg S wr w') (hS : ∀ k, S k → w.heap.size ≤ k ∧ (k < lo ∨ hi ≤ k)) : PrS w lo hi v d tv t w' :=
  ⟨h.1.trans (c.below h.1.size (fun k hk he => by have := (hS k he).1; omega)), h.2.1.chg c (fun k h1 h2 hs => by have := (hS k hs).2; omega), h.2.2.1.chg c (fun k h1 h2 hs => by have := (hS k hs).2; omega), h.2.2.2.1, Nat.le_trans h.2.2.2.2 c.size⟩
theorem PrS.fin {w wr : World} {lo hi : Nat} {v tv : Value} {d : List Bk} {t : List (List Int)} (h : PrS w lo hi v d tv t wr) : RD wr w.heap.size wr.heap.size v d ∧ RT wr w.heap.size wr.heap.size tv t ∧ Below w.heap.size w wr :=
  ⟨h.2.1.wide h.2.2.2.1 h.2.2.2.2, h.2.2.1.wide h.2.2.2.1 h.2.2.2.2, h.1⟩

set_option maxHeartbeats 2000000 in
theorem dTableOf (w : World) (v : Value) (bs : List Int) (h : RB w 0 w.heap.size v bs) : Calls Try.prog 23 #[v] w (DevD w) := by
  have HS := Lib.hid h
  obtain ⟨a, cap, b, off, rfl, -⟩ := h.open
  clear h
  go_enter Try.func23, Try.ntmps23
  go_wp2_with fail
  refine (open_any _ _ bs HS.out (Nat.le_refl _)).mono ?_
  rintro e w1 ⟨rb, rfl, hrb, r1, b1⟩
  have R1 := Lib.hid (And.intro r1 b1)
  clear r1 b1
  go_wp2_with fail
  refine (device_any _ rb 0 6 R1.out.1 (by omega) (by omega) (by omega)).mono ?_
  rintro e w2 ⟨v2, d, h, rfl, hrd, hl, hp, -, hdr⟩
  obtain ⟨a2, cap2, b2, off2, rfl, -⟩ := hrd.open
  have HP := Lib.hid hp
  have HB2 := Lib.hid (R1.out.2.trans (hdr.2.1.below R1.out.2.size (fun k hk he => by omega)))
  have HRD := Lib.hid (hrd.wide R1.out.2.size (Nat.le_refl _))
  obtain ⟨A, B, C⟩ := h
  unfold hdv
  simp only
  clear hrd hp hdr
  go_wp2_with fail
  go_ret
  exact ⟨_, d, rfl, (HRD.out.below (balloc _ _)).wide (Nat.le_refl _) (balloc _ _).size, ⟨hl, HP.out⟩, bup2 HB2.out (balloc _ _)⟩

theorem boxes2 (w : World) : ((w.alloc (.cells #[.slice none 0 0] 26)).alloc (.cells #[.int .i64 0, .int .i64 0, .int .i64 0] 36)).heap[w.heap.size]? = some (.cells #[.slice none 0 0] 26) ∧ ((w.alloc (.cells #[.slice none 0 0] 26)).alloc (.cells #[.int .i64 0, .int .i64 0, .int .i64 0] 36)).heap[w.heap.size + 1]? = some (.cells #[.int .i64 0, .int .i64 0, .int .i64 0] 36) := by
  have e1 : (w.alloc (.cells #[.slice none 0 0] 26)).heap.size = w.heap.size + 1 := by simp
  have x6 := heap_alloc_new (w.alloc (.cells #[.slice none 0 0] 26)) (.cells #[.int .i64 0, .int .i64 0, .int .i64 0] 36)
  rw [e1] at x6
  exact ⟨box_keep (heap_alloc_new w (.cells #[.slice none 0 0] 26)) (balloc _ (.cells #[.int .i64 0, .int .i64 0, .int .i64 0] 36)), x6⟩

set_option maxHeartbeats 4000000 in
set_option maxRecDepth 4000 in
theorem dPair (w : World) (v : Value) (bs : List Int) (h : RB w 0 w.heap.size v bs) : Calls Try.prog 40 #[v] w (PairD w) := by
  have HC := Lib.hid (h.below (balloc w (.cells #[.slice none 0 0] 26)))
  have XR := Lib.hid (heap_alloc_new w (.cells #[.slice none 0 0] 26))
  have hz0 : (w.alloc (.cells #[.slice none 0 0] 26)).heap.size = w.heap.size + 1 := by simp
  have HW0 := Lib.hid (show Below w.heap.size w (w.alloc (.cells #[.slice none 0 0] 26)) from balloc w (.cells #[.slice none 0 0] 26))
  obtain ⟨a, cap, b, off, rfl, -⟩ := h.open
  clear h
  go_enter Try.func40, Try.ntmps40
  go_wp2_with fail
  refine (open_any _ _ bs HC.out (by omega)).mono ?_
  rintro e w1 ⟨rb, rfl, hrb, r1, b1⟩
  rw [hz0] at hrb
  have hrb1 := r1.lt
  have R1 := Lib.hid (And.intro r1 (bup2 HW0.out b1))
  replace XR := Lib.hid (box_keep XR.out b1)
  clear r1 b1 hz0 HW0 HC
  go_wp2_with fail
  refine (both_any _ rb 0 9 R1.out.1 (by omega) (by omega) (by omega)).mono ?_
  rintro e w2 ⟨v2, d, v3, t, ⟨A, B, C⟩, rfl, hrd, hl, hp, hrt, hi, hdr⟩
  obtain ⟨a2, cap2, b2, off2, rfl, -⟩ := hrd.open
  obtain ⟨a3, cap3, b3, off3, rfl, -⟩ := hrt.open
  have HP := Lib.hid hp
  have HI := Lib.hid hi
  have HR := Lib.hid hdr.1
  replace XR := Lib.hid (box_chg XR.out hdr.2.1 (by omega))
  have HS : Hid (PrS w w1.heap.size w2.heap.size (.slice a2 d.length cap2) d (.slice a3 t.length cap3) t w2) := Lib.hid ⟨R1.out.2.trans (hdr.2.1.below R1.out.2.size (fun k hk he => by omega)), hrd, hrt, R1.out.2.size, Nat.le_refl _⟩
  have hz12 := hdr.2.1.size
  unfold hdv
  simp only
  clear hrd hp hrt hi hdr
  go_wp2_with fail
  have X5 := Lib.hid (one_at (box_keep (heap_alloc_new w2 (.cells #[Value.slice a3 t.length cap3] 26)) (balloc _ (.cells #[.int .i64 A, .int .i64 B, .int .i64 C] 36)))).1
  have x6 := heap_alloc_new (w2.alloc (.cells #[Value.slice a3 t.length cap3] 26)) (.cells #[.int .i64 A, .int .i64 B, .int .i64 C] 36)
  have e6 : (w2.alloc (.cells #[Value.slice a3 t.length cap3] 26)).heap.size = w2.heap.size + 1 := by simp
  rw [e6] at x6
  have X6 := Lib.hid x6
  have hb5 := two_below w2 (.cells #[Value.slice a3 t.length cap3] 26) (.cells #[.int .i64 A, .int .i64 B, .int .i64 C] 36)
  have hz5 := hb5.size
  have hs5 : ((w2.alloc (.cells #[Value.slice a3 t.length cap3] 26)).alloc (.cells #[.int .i64 A, .int .i64 B, .int .i64 C] 36)).heap.size = w2.heap.size + 2 := by simp
  replace HS := Lib.hid (HS.out.below hb5)
  replace HR := Lib.hid (HR.out.kept hb5)
  replace XR := Lib.hid (box_keep XR.out hb5)
  clear x6 e6 hb5
  generalize (w2.alloc (.cells #[Value.slice a3 t.length cap3] 26)).alloc (.cells #[.int .i64 A, .int .i64 B, .int .i64 C] 36) = w5 at X5 X6 HS HR XR hz5 hs5 ⊢
  obtain ⟨s0, s1⟩ := one_at XR.out
  have s0' := cell_later (bdrew w5) s0
  have k3 := And.intro X5.out (show ¬ w2.heap.size = w.heap.size by omega)
  have hc : Chg (fun c => c = w.heap.size) w5 (w5.drew.setCell ⟨w.heap.size, 0, none⟩ (Value.slice a3 t.length cap3)) := Chg.setCell (S := fun c => c = w.heap.size) (below_chg (bdrew _) _) (p := ⟨w.heap.size, 0, none⟩) (.inr rfl) _
  have HF := Lib.hid (HS.out.chg hc (fun k hk => by omega)).fin
  clear hc
  refine region_held_n 4 (S := fun w' => Chg (fun c => c = w.heap.size) w5 w') (by kernel_rfl) (by kernel_rfl) (below_chg (bdrew _) _) (fun hS0 => ?_)
  refine hs_take (fuel := 3) 0 (some 14) (Value.slice a2 d.length cap2) rfl rfl (by kernel_rfl) (by kernel_rfl) (by kernel_rfl) (fun _ _ _ h => h) (by rfl) (fun wq hq => ?_) (by assumption) ?_
  · go_simp
  simp only [Act.put, List.setIfInBounds_toArray, List.set_cons_zero, List.set_cons_succ]
  refine hs_take (fuel := 2) 1 (some 15) (Value.agg #[Value.slice a3 t.length cap3]) rfl rfl (by kernel_rfl) (by kernel_rfl) (by kernel_rfl) (fun _ _ _ h => h) (by rfl) (fun wq hq => ?_) (by assumption) ?_
  · have p0 := cell_chg hq k3
    go_simp
  simp only [Act.put, List.setIfInBounds_toArray, List.set_cons_zero, List.set_cons_succ]
  refine hs_take (fuel := 1) 2 (some 2) (Value.slice a2 d.length cap2) rfl rfl (by kernel_rfl) (by kernel_rfl) (by kernel_rfl) (fun _ _ _ h => h) (by rfl) (fun wq hq => ?_) (by assumption) ?_
  · go_simp
  simp only [Act.put, List.setIfInBounds_toArray, List.set_cons_zero, List.set_cons_succ]
  refine wpAnyH_ready (fuel := 0) (rs := [3]) (by kernel_rfl) (by simp) (AllReadyH.cons rfl (fun K hK => ?_) AllReadyH.nil)
  go_simp
  refine hK.out _ _ ?_ (fun hS => ?_)
  · exact Chg.setCell (S := fun c => c = w.heap.size) (below_chg (bdrew _) _) (p := ⟨w.heap.size, 0, none⟩) (.inr rfl) _
  refine wpAnyH_done (by kernel_rfl) ?_ _
  go_wp2_with fail
  exact bodyPost_ret (v := .tuple #[Value.slice a2 d.length cap2, .agg #[Value.slice a3 t.length cap3]]) (by simp [results, Try.results40, go_sem, s0]) rfl ⟨_, d, _, t, rfl, HF.out.1, ⟨hl, HP.out⟩, HF.out.2.1, HF.out.2.2⟩

theorem RB.up {w : World} {lo hi hi' : Nat} {v : Value} {xs : List Int} (h : RB w lo hi v xs) (hh : hi ≤ hi') : RB w lo hi' v xs := ⟨h.1.wide (Nat.le_refl _) hh, h.2⟩
set_option maxHeartbeats 4000000 in
set_option maxRecDepth 4000 in
theorem dBlockCounts (w : World) (v : Value) (bs : List Int) (h : RB w 0 w.heap.size v bs) : Calls Try.prog 37 #[v] w (PairD w) := by
  have HC := Lib.hid ((h.below (balloc w (.cells #[.slice none 0 0] 26))).up (balloc w (.cells #[.slice none 0 0] 26)).size)
  have XR := Lib.hid (heap_alloc_new w (.cells #[.slice none 0 0] 26))
  have HW0 := Lib.hid (balloc w (.cells #[.slice none 0 0] 26))
  have hz0 : (w.alloc (.cells #[.slice none 0 0] 26)).heap.size = w.heap.size + 1 := by simp
  obtain ⟨a, cap, b, off, rfl, -⟩ := h.open
  clear h
  go_enter Try.func37, Try.ntmps37
  go_wp2_with fail
  refine (dPair _ _ bs HC.out).mono ?_
  rintro e w2 ⟨v2, d, v3, t, rfl, hrd, hsm, hrt, b1⟩
  obtain ⟨a2, cap2, b2, off2, rfl, -⟩ := hrd.open
  obtain ⟨a3, cap3, b3, off3, rfl, -⟩ := hrt.open
  have HM := Lib.hid hsm
  have HS : Hid (PrS w (w.heap.size + 1) w2.heap.size (.slice a2 d.length cap2) d (.slice a3 t.length cap3) t w2) := Lib.hid ⟨bup2 HW0.out b1, by rw [← hz0]; exact hrd, by rw [← hz0]; exact hrt, by omega, Nat.le_refl _⟩
  replace XR := Lib.hid (box_keep XR.out b1)
  obtain ⟨s0, s1⟩ := one_at XR.out
  have hc : Chg (fun c => c = w.heap.size) w2 (w2.setCell ⟨w.heap.size, 0, none⟩ (Value.slice a3 t.length cap3)) := Chg.setCell (S := fun c => c = w.heap.size) (Chg.refl _ _) (p := ⟨w.heap.size, 0, none⟩) (.inr rfl) _
  have HF := Lib.hid (HS.out.chg hc (fun k hk => by omega)).fin
  clear hc hrd hrt hsm b1 hz0
  go_wp2_with fail
  exact bodyPost_ret (v := .tuple #[Value.slice a2 d.length cap2, .agg #[Value.slice a3 t.length cap3]]) (by simp [results, Try.results37, go_sem, s0]) rfl ⟨_, d, _, t, rfl, HF.out.1, HM.out, HF.out.2.1, HF.out.2.2⟩

set_option maxHeartbeats 4000000 in
set_option maxRecDepth 4000 in
theorem dOldPages (w : World) (v : Value) (bs : List Int) (h : RB w 0 w.heap.size v bs) : Calls Try.prog 9 #[v] w (PairD w) := by
  have HC := Lib.hid ((h.below (balloc w (.cells #[.slice none 0 0] 26))).up (balloc w (.cells #[.slice none 0 0] 26)).size)
  have XR := Lib.hid (heap_alloc_new w (.cells #[.slice none 0 0] 26))
  have HW0 := Lib.hid (balloc w (.cells #[.slice none 0 0] 26))
  have hz0 : (w.alloc (.cells #[.slice none 0 0] 26)).heap.size = w.heap.size + 1 := by simp
  obtain ⟨a, cap, b, off, rfl, -⟩ := h.open
  clear h
  go_enter Try.func9, Try.ntmps9
  go_wp2_with fail
  refine (dPair _ _ bs HC.out).mono ?_
  rintro e w2 ⟨v2, d, v3, t, rfl, hrd, hsm, hrt, b1⟩
  obtain ⟨a2, cap2, b2, off2, rfl, -⟩ := hrd.open
  obtain ⟨a3, cap3, b3, off3, rfl, -⟩ := hrt.open
  have HM := Lib.hid hsm
  have HS : Hid (PrS w (w.heap.size + 1) w2.heap.size (.slice a2 d.length cap2) d (.slice a3 t.length cap3) t w2) := Lib.hid ⟨bup2 HW0.out b1, by rw [← hz0]; exact hrd, by rw [← hz0]; exact hrt, by omega, Nat.le_refl _⟩
  replace XR := Lib.hid (box_keep XR.out b1)
  obtain ⟨s0, s1⟩ := one_at XR.out
  have hc : Chg (fun c => c = w.heap.size) w2 (w2.setCell ⟨w.heap.size, 0, none⟩ (Value.slice a3 t.length cap3)) := Chg.setCell (S := fun c => c = w.heap.size) (Chg.refl _ _) (p := ⟨w.heap.size, 0, none⟩) (.inr rfl) _
  have HF := Lib.hid (HS.out.chg hc (fun k hk => by omega)).fin
  clear hc hrd hrt hsm b1 hz0
  go_wp2_with fail
  exact bodyPost_ret (v := .tuple #[Value.slice a2 d.length cap2, .agg #[Value.slice a3 t.length cap3]]) (by simp [results, Try.results9, go_sem, s0]) rfl ⟨_, d, _, t, rfl, HF.out.1, HM.out, HF.out.2.1, HF.out.2.2⟩

set_option maxHeartbeats 4000000 in
set_option maxRecDepth 4000 in
theorem dGreedyVictim (w : World) (v : Value) (bs : List Int) (h : RB w 0 w.heap.size v bs) : Calls Try.prog 15 #[v] w (TriD w) := by
  have HC := Lib.hid (h.below (two_below w (.cells #[.slice none 0 0] 26) (.cells #[.int .i64 0, .int .i64 0, .int .i64 0] 36)))
  have XR := Lib.hid (boxes2 w)
  have hz0 : ((w.alloc (.cells #[.slice none 0 0] 26)).alloc (.cells #[.int .i64 0, .int .i64 0, .int .i64 0] 36)).heap.size = w.heap.size + 2 := by simp
  have HW0 := Lib.hid (show Below w.heap.size w ((w.alloc (.cells #[.slice none 0 0] 26)).alloc (.cells #[.int .i64 0, .int .i64 0, .int .i64 0] 36)) from two_below w (.cells #[.slice none 0 0] 26) (.cells #[.int .i64 0, .int .i64 0, .int .i64 0] 36))
  obtain ⟨a, cap, b, off, rfl, -⟩ := h.open
  clear h
  go_enter Try.func15, Try.ntmps15
  go_wp2_with fail
  refine (open_any _ _ bs HC.out (by omega)).mono ?_
  rintro e w1 ⟨rb, rfl, hrb, r1, b1⟩
  rw [hz0] at hrb
  have hrb1 := r1.lt
  have R1 := Lib.hid (And.intro r1 (bup2 HW0.out b1))
  replace XR := Lib.hid (And.intro (box_keep XR.out.1 b1) (box_keep XR.out.2 b1))
  clear r1 b1 hz0 HW0 HC
  go_wp2_with fail
  refine (both_any _ rb 0 14 R1.out.1 (by omega) (by omega) (by omega)).mono ?_
  rintro e w2 ⟨v2, d, v3, t, ⟨A, B, C⟩, rfl, hrd, hl, hp, hrt, hi, hdr⟩
  obtain ⟨a2, cap2, b2, off2, rfl, -⟩ := hrd.open
  obtain ⟨a3, cap3, b3, off3, rfl, -⟩ := hrt.open
  have HP := Lib.hid hp
  have HI := Lib.hid hi
  have HR := Lib.hid hdr.1
  replace XR := Lib.hid (And.intro (box_chg XR.out.1 hdr.2.1 (by omega)) (box_chg XR.out.2 hdr.2.1 (by omega)))
  have HS : Hid (PrS w w1.heap.size w2.heap.size (.slice a2 d.length cap2) d (.slice a3 t.length cap3) t w2) := Lib.hid ⟨R1.out.2.trans (hdr.2.1.below R1.out.2.size (fun k hk he => by omega)), hrd, hrt, R1.out.2.size, Nat.le_refl _⟩
  have hz12 := hdr.2.1.size
  unfold hdv
  simp only
  clear hrd hp hrt hi hdr
  obtain ⟨s0, s1⟩ := one_at XR.out.1
  obtain ⟨⟨r0, r1, r2⟩, r3, r4, r5⟩ := three_at XR.out.2
  go_wp2_with fail
  have hc : Chg (fun c => c = w.heap.size ∨ c = w.heap.size + 1) w2 ((((w2.setCell ⟨w.heap.size, 0, none⟩ (Value.slice a3 t.length cap3)).setCell ⟨w.heap.size + 1, 0, none⟩ (.int .i64 A)).setCell ⟨w.heap.size + 1, 1, none⟩ (.int .i64 B)).setCell ⟨w.heap.size + 1, 2, none⟩ (.int .i64 C)) := Chg.setCell (S := fun c => c = w.heap.size ∨ c = w.heap.size + 1) (Chg.setCell (S := fun c => c = w.heap.size ∨ c = w.heap.size + 1) (Chg.setCell (S := fun c => c = w.heap.size ∨ c = w.heap.size + 1) (Chg.setCell (S := fun c => c = w.heap.size ∨ c = w.heap.size + 1) (Chg.refl _ _) (p := ⟨w.heap.size, 0, none⟩) (.inr (.inl rfl)) _) (p := ⟨w.heap.size + 1, 0, none⟩) (.inr (.inr rfl)) _) (p := ⟨w.heap.size + 1, 1, none⟩) (.inr (.inr rfl)) _) (p := ⟨w.heap.size + 1, 2, none⟩) (.inr (.inr rfl)) _
  have HF := Lib.hid (HS.out.chg hc (fun k hk => by omega)).fin
  clear hc
  exact bodyPost_ret (v := .tuple #[Value.slice a2 d.length cap2, .agg #[Value.slice a3 t.length cap3], Value.agg #[.int .i64 A, .int .i64 B, .int .i64 C]]) (by simp [results, Try.results15, go_sem, s0, r0, r1, r2]) rfl ⟨_, d, _, t, ⟨A, B, C⟩, rfl, HF.out.1, ⟨hl, HP.out⟩, HF.out.2.1, HI.out, HF.out.2.2⟩

set_option maxHeartbeats 4000000 in
set_option maxRecDepth 4000 in
theorem dFileValues (w : World) (v : Value) (bs : List Int) (h : RB w 0 w.heap.size v bs) : Calls Try.prog 33 #[v] w (PairFD w) := by
  have HC := Lib.hid (h.below (balloc w (.cells #[.slice none 0 0] 26)))
  have XR := Lib.hid (heap_alloc_new w (.cells #[.slice none 0 0] 26))
  have hz0 : (w.alloc (.cells #[.slice none 0 0] 26)).heap.size = w.heap.size + 1 := by simp
  have HW0 := Lib.hid (show Below w.heap.size w (w.alloc (.cells #[.slice none 0 0] 26)) from balloc w (.cells #[.slice none 0 0] 26))
  obtain ⟨a, cap, b, off, rfl, -⟩ := h.open
  clear h
  go_enter Try.func33, Try.ntmps33
  go_wp2_with fail
  refine (open_any _ _ bs HC.out (by omega)).mono ?_
  rintro e w1 ⟨rb, rfl, hrb, r1, b1⟩
  rw [hz0] at hrb
  have hrb1 := r1.lt
  have R1 := Lib.hid (And.intro r1 (bup2 HW0.out b1))
  replace XR := Lib.hid (box_keep XR.out b1)
  clear r1 b1 hz0 HW0 HC
  go_wp2_with fail
  refine (both_any _ rb 0 9 R1.out.1 (by omega) (by omega) (by omega)).mono ?_
  rintro e w2 ⟨v2, d, v3, t, ⟨A, B, C⟩, rfl, hrd, hl, hp, hrt, hi, hdr⟩
  obtain ⟨a2, cap2, b2, off2, rfl, -⟩ := hrd.open
  obtain ⟨a3, cap3, b3, off3, rfl, -⟩ := hrt.open
  have HP := Lib.hid hp
  have HI := Lib.hid hi
  have HR := Lib.hid hdr.1
  replace XR := Lib.hid (box_chg XR.out hdr.2.1 (by omega))
  have HS : Hid (PrS w w1.heap.size w2.heap.size (.slice a2 d.length cap2) d (.slice a3 t.length cap3) t w2) := Lib.hid ⟨R1.out.2.trans (hdr.2.1.below R1.out.2.size (fun k hk he => by omega)), hrd, hrt, R1.out.2.size, Nat.le_refl _⟩
  have hz12 := hdr.2.1.size
  unfold hdv
  simp only
  clear hrd hp hrt hi hdr
  go_wp2_with fail
  have X5 := Lib.hid (one_at (box_keep (heap_alloc_new w2 (.cells #[Value.slice a3 t.length cap3] 26)) (balloc _ (.cells #[.int .i64 A, .int .i64 B, .int .i64 C] 36)))).1
  have x6 := heap_alloc_new (w2.alloc (.cells #[Value.slice a3 t.length cap3] 26)) (.cells #[.int .i64 A, .int .i64 B, .int .i64 C] 36)
  have e6 : (w2.alloc (.cells #[Value.slice a3 t.length cap3] 26)).heap.size = w2.heap.size + 1 := by simp
  rw [e6] at x6
  have X6 := Lib.hid x6
  have hb5 := two_below w2 (.cells #[Value.slice a3 t.length cap3] 26) (.cells #[.int .i64 A, .int .i64 B, .int .i64 C] 36)
  have hz5 := hb5.size
  have hs5 : ((w2.alloc (.cells #[Value.slice a3 t.length cap3] 26)).alloc (.cells #[.int .i64 A, .int .i64 B, .int .i64 C] 36)).heap.size = w2.heap.size + 2 := by simp
  replace HS := Lib.hid (HS.out.below hb5)
  replace HR := Lib.hid (HR.out.kept hb5)
  replace XR := Lib.hid (box_keep XR.out hb5)
  clear x6 e6 hb5
  generalize (w2.alloc (.cells #[Value.slice a3 t.length cap3] 26)).alloc (.cells #[.int .i64 A, .int .i64 B, .int .i64 C] 36) = w5 at X5 X6 HS HR XR hz5 hs5 ⊢
  obtain ⟨s0, s1⟩ := one_at XR.out
  have k3 := And.intro X5.out (show ¬ (w2.heap.size = rb ∨ w2.heap.size = w.heap.size) by omega)
  have rd0 := HR.out.kept (bdrew w5)
  refine region_held_n 11 (S := fun w' => Chg (fun c => c = rb ∨ c = w.heap.size) w5 w') (by kernel_rfl) (by kernel_rfl) (below_chg (bdrew _) _) (fun hS0 => ?_)
  refine hs_take (fuel := 10) 0 (some 17) (Value.slice a2 d.length cap2) rfl rfl (by kernel_rfl) (by kernel_rfl) (by kernel_rfl) (fun _ _ _ h => h) (by rfl) (fun wq hq => ?_) (by assumption) ?_
  · go_simp
  simp only [Act.put, List.setIfInBounds_toArray, List.set_cons_zero, List.set_cons_succ]
  refine hs_take (fuel := 9) 1 (some 18) (Value.agg #[Value.slice a3 t.length cap3]) rfl rfl (by kernel_rfl) (by kernel_rfl) (by kernel_rfl) (fun _ _ _ h => h) (by rfl) (fun wq hq => ?_) (by assumption) ?_
  · have p0 := cell_chg hq k3
    go_simp
  simp only [Act.put, List.setIfInBounds_toArray, List.set_cons_zero, List.set_cons_succ]
  refine hs_take (fuel := 8) 2 (some 19) (.pointer (some ⟨rb, 0, none⟩)) rfl rfl (by kernel_rfl) (by kernel_rfl) (by kernel_rfl) (fun _ _ _ h => h) (by rfl) (fun wq hq => ?_) (by assumption) ?_
  · go_simp
  simp only [Act.put, List.setIfInBounds_toArray, List.set_cons_zero, List.set_cons_succ]
  refine hs_take (fuel := 7) 4 (some 21) (.pointer (some ⟨rb, 0, none⟩)) rfl rfl (by kernel_rfl) (by kernel_rfl) (by kernel_rfl) (fun _ _ _ h => h) (by rfl) (fun wq hq => ?_) (by assumption) ?_
  · go_simp
  simp only [Act.put, List.setIfInBounds_toArray, List.set_cons_zero, List.set_cons_succ]
  refine wpAnyH_ready (fuel := 6) (rs := [3]) (by kernel_rfl) (by simp) (AllReadyH.cons rfl (fun K hK => ?_) AllReadyH.nil)
  go_simp
  refine (pick_le _ rb _ 5 rd0 (by omega) (by omega) (by omega)).mono ?_
  rintro e w6 ⟨x, rfl, x0, x1, rd1, ccw6, -⟩
  have hS6 : Chg (fun c => c = rb ∨ c = w.heap.size) w5 w6 := hS0.trans (ccw6.mono fun c _ hc => .inl hc)
  refine hK.out _ _ ?_ (fun hS => ?_)
  · exact hS6
  refine wpAnyH_ready (fuel := 5) (rs := [5]) (by kernel_rfl) (by simp) (AllReadyH.cons rfl (fun K hK => ?_) AllReadyH.nil)
  go_simp
  refine (pick_le _ rb _ 14 rd1 (by omega) (by omega) (by omega)).mono ?_
  rintro e w7 ⟨y, rfl, y0, y1, rd2, ccw7, -⟩
  have hS7 : Chg (fun c => c = rb ∨ c = w.heap.size) w5 w7 := hS6.trans (ccw7.mono fun c _ hc => .inl hc)
  refine hK.out _ _ ?_ (fun hS => ?_)
  · exact hS7
  obtain ⟨z, hz, z0, z1⟩ : ∃ z : Int, IntKind.i64.wrap (y.tdiv 13) = z ∧ 0 ≤ z ∧ z ≤ 1 := ⟨y / 13, by rw [Int.tdiv_eq_ediv_of_nonneg y0, IntKind.wrap_i64]; omega, by omega, by omega⟩
  obtain ⟨g, hg, g0, g1⟩ : ∃ g : Int, IntKind.i64.wrap (x - z) = g ∧ -1 ≤ g ∧ g ≤ 8 := ⟨x - z, by rw [IntKind.wrap_i64]; omega, by omega, by omega⟩
  refine hs_take (fuel := 4) 6 (some 23) (.int .i64 z) rfl rfl (by kernel_rfl) (by kernel_rfl) (by kernel_rfl) (fun _ _ _ h => h) (by rfl) (fun wq hq => ?_) (by assumption) ?_
  · go_simp
  simp only [Act.put, List.setIfInBounds_toArray, List.set_cons_zero, List.set_cons_succ]
  refine hs_take (fuel := 3) 7 (some 24) (.int .i64 g) rfl rfl (by kernel_rfl) (by kernel_rfl) (by kernel_rfl) (fun _ _ _ h => h) (by rfl) (fun wq hq => ?_) (by assumption) ?_
  · go_simp
  simp only [Act.put, List.setIfInBounds_toArray, List.set_cons_zero, List.set_cons_succ]
  refine hs_take (fuel := 2) 8 (some 2) (Value.slice a2 d.length cap2) rfl rfl (by kernel_rfl) (by kernel_rfl) (by kernel_rfl) (fun _ _ _ h => h) (by rfl) (fun wq hq => ?_) (by assumption) ?_
  · go_simp
  simp only [Act.put, List.setIfInBounds_toArray, List.set_cons_zero, List.set_cons_succ]
  replace XR := Lib.hid (box_chg (box_chg (box_keep XR.out (bdrew w5)) ccw6 (by omega)) ccw7 (by omega))
  replace HS := Lib.hid (((HS.out.below (bdrew w5)).chg ccw6 (fun k hk => by omega)).chg ccw7 (fun k hk => by omega))
  clear s0 s1
  obtain ⟨s0, s1⟩ := one_at XR.out
  have hc : Chg (fun c => c = w.heap.size) w7 (w7.setCell ⟨w.heap.size, 0, none⟩ (Value.slice a3 t.length cap3)) := Chg.setCell (S := fun c => c = w.heap.size) (Chg.refl _ _) (p := ⟨w.heap.size, 0, none⟩) (.inr rfl) _
  have HF := Lib.hid (HS.out.chg hc (fun k hk => by omega)).fin
  clear hc
  refine wpAnyH_ready (fuel := 1) (rs := [9]) (by kernel_rfl) (by simp) (AllReadyH.cons rfl (fun K hK => ?_) AllReadyH.nil)
  go_simp
  refine hK.out _ _ ?_ (fun hS => ?_)
  · exact Chg.setCell (S := fun c => c = rb ∨ c = w.heap.size) hS7 (p := ⟨w.heap.size, 0, none⟩) (.inr (.inr rfl)) _
  refine hs_take (fuel := 0) 10 (some 4) (.int .i64 g) rfl rfl (by kernel_rfl) (by kernel_rfl) (by kernel_rfl) (fun _ _ _ h => h) (by rfl) (fun wq hq => ?_) (by assumption) ?_
  · go_simp
  simp only [Act.put, List.setIfInBounds_toArray, List.set_cons_zero, List.set_cons_succ]
  refine wpAnyH_done (by kernel_rfl) ?_ _
  go_wp2_with fail
  exact bodyPost_ret (v := .tuple #[Value.slice a2 d.length cap2, .agg #[Value.slice a3 t.length cap3], .int .i64 g]) (by simp [results, Try.results33, go_sem, s0]) rfl ⟨_, d, _, t, g, rfl, HF.out.1, ⟨hl, HP.out⟩, HF.out.2.1, ⟨g0, g1⟩, HF.out.2.2⟩

def bvE (B : Nat) (o5 o6 : Obj) : List Eff := [.keep, .keep, .keep, .keep, .pick, .keep, .keep, .keep, .pick, .keep, .keep, .keep, .keep, .keep, .put B o5, .put (B + 1) o6, .keep]
theorem bvE_at {B : Nat} {o5 o6 : Obj} (i B' : Nat) (o : Obj) (hi : (bvE B o5 o6)[i]? = some (Eff.put B' o)) : (i = 14 ∧ B' = B ∧ o = o5) ∨ (i = 15 ∧ B' = B + 1 ∧ o = o6) := by
  have hi' : i < 17 := (List.getElem?_eq_some_iff.1 hi).1
  obtain rfl | rfl | rfl | rfl | rfl | rfl | rfl | rfl | rfl | rfl | rfl | rfl | rfl | rfl | rfl | rfl | rfl : i = 0 ∨ i = 1 ∨ i = 2 ∨ i = 3 ∨ i = 4 ∨ i = 5 ∨ i = 6 ∨ i = 7 ∨ i = 8 ∨ i = 9 ∨ i = 10 ∨ i = 11 ∨ i = 12 ∨ i = 13 ∨ i = 14 ∨ i = 15 ∨ i = 16 := by omega
  all_goals simp [bvE] at hi
  · exact .inl ⟨rfl, hi.1.symm, hi.2.symm⟩
  · exact .inr ⟨rfl, hi.1.symm, hi.2.symm⟩
theorem bvE_ok {H rb L B : Nat} {o5 o6 : Obj} (h1 : H ≤ B) (h2 : B + 1 < rb) (h3 : B + 1 < L) : EffOk H rb L (bvE B o5 o6) := by
  refine ⟨fun i B' o hi => ?_, fun i j B' o o' hne hi hj => ?_⟩
  · rcases bvE_at i B' o hi with ⟨-, rfl, -⟩ | ⟨-, rfl, -⟩ <;> omega
  · rcases bvE_at i B' o hi with ⟨e1, e2, -⟩ | ⟨e1, e2, -⟩ <;> rcases bvE_at j B' o' hj with ⟨e3, e4, -⟩ | ⟨e3, e4, -⟩ <;> omega
theorem bvE_T {rb B : Nat} {o5 o6 : Obj} {b : Nat} (h : effT rb (bvE B o5 o6) b) : b = rb ∨ b = B ∨ b = B + 1 := by
  rcases h with h | ⟨B', o, hm, rfl⟩
  · exact .inl h
  · simp [bvE] at hm
    omega
set_option maxHeartbeats 4000000 in
set_option maxRecDepth 4000 in
theorem dBestVictim (w : World) (v : Value) (bs : List Int) (h : RB w 0 w.heap.size v bs) : Calls Try.prog 20 #[v] w (TriND w) := by
  have HC := Lib.hid (h.below (two_below w (.cells #[.slice none 0 0] 26) (.cells #[.int .i64 0, .int .i64 0, .int .i64 0] 36)))
  have XR := Lib.hid (boxes2 w)
  have hz0 : ((w.alloc (.cells #[.slice none 0 0] 26)).alloc (.cells #[.int .i64 0, .int .i64 0, .int .i64 0] 36)).heap.size = w.heap.size + 2 := by simp
  have HW0 := Lib.hid (show Below w.heap.size w ((w.alloc (.cells #[.slice none 0 0] 26)).alloc (.cells #[.int .i64 0, .int .i64 0, .int .i64 0] 36)) from two_below w (.cells #[.slice none 0 0] 26) (.cells #[.int .i64 0, .int .i64 0, .int .i64 0] 36))
  obtain ⟨a, cap, b, off, rfl, -⟩ := h.open
  clear h
  go_enter Try.func20, Try.ntmps20
  go_wp2_with fail
  refine (open_any _ _ bs HC.out (by omega)).mono ?_
  rintro e w1 ⟨rb, rfl, hrb, r1, b1⟩
  rw [hz0] at hrb
  have hrb1 := r1.lt
  have R1 := Lib.hid (And.intro r1 (bup2 HW0.out b1))
  replace XR := Lib.hid (And.intro (box_keep XR.out.1 b1) (box_keep XR.out.2 b1))
  clear r1 b1 hz0 HW0 HC
  go_wp2_with fail
  refine (both_any _ rb 0 14 R1.out.1 (by omega) (by omega) (by omega)).mono ?_
  rintro e w2 ⟨v2, d, v3, t, ⟨A, B, C⟩, rfl, hrd, hl, hp, hrt, hi, hdr⟩
  obtain ⟨a2, cap2, b2, off2, rfl, -⟩ := hrd.open
  obtain ⟨a3, cap3, b3, off3, rfl, -⟩ := hrt.open
  have HP := Lib.hid hp
  have HI := Lib.hid hi
  have HR := Lib.hid hdr.1
  replace XR := Lib.hid (And.intro (box_chg XR.out.1 hdr.2.1 (by omega)) (box_chg XR.out.2 hdr.2.1 (by omega)))
  have HS : Hid (PrS w w1.heap.size w2.heap.size (.slice a2 d.length cap2) d (.slice a3 t.length cap3) t w2) := Lib.hid ⟨R1.out.2.trans (hdr.2.1.below R1.out.2.size (fun k hk he => by omega)), hrd, hrt, R1.out.2.size, Nat.le_refl _⟩
  have hz12 := hdr.2.1.size
  unfold hdv
  simp only
  clear hrd hp hrt hi hdr
  go_wp2_with fail
  have X5 := Lib.hid (one_at (box_keep (heap_alloc_new w2 (.cells #[Value.slice a3 t.length cap3] 26)) (balloc _ (.cells #[.int .i64 A, .int .i64 B, .int .i64 C] 36)))).1
  have x6 := heap_alloc_new (w2.alloc (.cells #[Value.slice a3 t.length cap3] 26)) (.cells #[.int .i64 A, .int .i64 B, .int .i64 C] 36)
  have e6 : (w2.alloc (.cells #[Value.slice a3 t.length cap3] 26)).heap.size = w2.heap.size + 1 := by simp
  rw [e6] at x6
  have X6 := Lib.hid x6
  have hb5 := two_below w2 (.cells #[Value.slice a3 t.length cap3] 26) (.cells #[.int .i64 A, .int .i64 B, .int .i64 C] 36)
  have hz5 := hb5.size
  have hs5 : ((w2.alloc (.cells #[Value.slice a3 t.length cap3] 26)).alloc (.cells #[.int .i64 A, .int .i64 B, .int .i64 C] 36)).heap.size = w2.heap.size + 2 := by simp
  replace HS := Lib.hid (HS.out.below hb5)
  replace HR := Lib.hid (HR.out.kept hb5)
  replace XR := Lib.hid (And.intro (box_keep XR.out.1 hb5) (box_keep XR.out.2 hb5))
  clear x6 e6 hb5
  generalize (w2.alloc (.cells #[Value.slice a3 t.length cap3] 26)).alloc (.cells #[.int .i64 A, .int .i64 B, .int .i64 C] 36) = w5 at X5 X6 HS HR XR hz5 hs5 ⊢
  have hrbn : w.heap.size + 1 < rb := by omega
  have x60 : w5.cell? ⟨w2.heap.size + 1, 0, none⟩ = some (.int .i64 A) ∧ w5.cell? ⟨w2.heap.size + 1, 1, none⟩ = some (.int .i64 B) ∧ w5.cell? ⟨w2.heap.size + 1, 2, none⟩ = some (.int .i64 C) := (three_at X6.out).1
  have X60 := Lib.hid x60
  clear x60
  refine wp_region_dr rb 300 (bvE w.heap.size (.cells #[Value.slice a3 t.length cap3] 26) (.cells #[.int .i64 A, .int .i64 B, .int .i64 C] 36)) [.eq (Value.slice a2 d.length cap2), .eq (.agg #[Value.slice a3 t.length cap3]), .eq (Value.agg #[.int .i64 A, .int .i64 B, .int .i64 C]), .eq (.pointer (some ⟨rb, 0, none⟩)), .int 0 59, .lit 4 (-1) 1000001, .lit 7 0 3, .eq (.pointer (some ⟨rb, 0, none⟩)), .int 0 6, .ptr 0 3, .int 0 3, .ptr (-1) 1000001, .int (-1) 1000001, .eq (Value.slice a2 d.length cap2), .true, .true, .int (-1) 1000001] (by kernel_rfl) (by kernel_rfl) (by decide) (by rfl) (HR.out.up (by omega)) (bvE_ok (Nat.le_refl _) hrbn (by omega)) ?hop ?hend
  case hop =>
    intro i o ef hi hE V n' w' hn hc hJ hB hd
    have hi' : i = 0 ∨ i = 1 ∨ i = 2 ∨ i = 3 ∨ i = 4 ∨ i = 5 ∨ i = 6 ∨ i = 7 ∨ i = 8 ∨ i = 9 ∨ i = 10 ∨ i = 11 ∨ i = 12 ∨ i = 13 ∨ i = 14 ∨ i = 15 ∨ i = 16 := by
      have := (List.getElem?_eq_some_iff.1 hi).1
      simp at this
      omega
    have hz := hc.size
    have hT : ∀ b, w5.heap.size ≤ b → ¬ effT rb (bvE w.heap.size (.cells #[Value.slice a3 t.length cap3] 26) (.cells #[.int .i64 A, .int .i64 B, .int .i64 C] 36)) b := fun b hb h => by
      have := bvE_T h
      omega
    rcases hi' with rfl | rfl | rfl | rfl | rfl | rfl | rfl | rfl | rfl | rfl | rfl | rfl | rfl | rfl | rfl | rfl | rfl
    all_goals
      simp at hi
      subst hi
      simp [bvE] at hE
      subst hE
      simp [Region.binds, Phi] at hd
    · simp [Frees, frameOf, Phi, go_sem]
      exact ⟨rfl, Chg.refl _ _, hJ.up (by omega)⟩
    · have y1 := cell_chg hc (And.intro X5.out (show ¬ effT rb (bvE w.heap.size (.cells #[Value.slice a3 t.length cap3] 26) (.cells #[.int .i64 A, .int .i64 B, .int .i64 C] 36)) w2.heap.size from fun h => by have := bvE_T h; omega))
      simp [Frees, frameOf, Phi, go_sem, y1]
      exact ⟨rfl, Chg.refl _ _, hJ.up (by omega)⟩
    · have hn6 : ¬ effT rb (bvE w.heap.size (.cells #[Value.slice a3 t.length cap3] 26) (.cells #[.int .i64 A, .int .i64 B, .int .i64 C] 36)) (w2.heap.size + 1) := fun h => by have := bvE_T h; omega
      have y1 := cell_chg hc (And.intro X60.out.1 hn6)
      have y2 := cell_chg hc (And.intro X60.out.2.1 hn6)
      have y3 := cell_chg hc (And.intro X60.out.2.2 hn6)
      simp [Frees, frameOf, Phi, go_sem, y1, y2, y3]
      exact ⟨rfl, Chg.refl _ _, hJ.up (by omega)⟩
    · simp [Frees, frameOf, Phi, go_sem]
      exact ⟨rfl, Chg.refl _ _, hJ.up (by omega)⟩
    · have e1 := SP.eq_elim hd
      simp [Frees, frameOf, Phi, go_sem, e1]
      refine (pick_le _ rb _ 60 hJ (by omega) (by omega) (by omega)).mono ?_
      rintro e w'' ⟨x, rfl, x0, x1, r, c, -⟩
      exact ⟨_, rfl, ⟨x, rfl, x0, by omega⟩, c, r⟩
    · obtain ⟨x, hx, x0, x1⟩ := SP.int_elim hd
      simp [Frees, frameOf, Phi, go_sem, hx]
      refine ⟨⟨w'.heap.size, rfl, hT _ hz, fun j hj => ?_⟩, (Chg.refl _ _).alloc _, (hJ.kept (balloc w' _)).up (by omega)⟩
      have hj' : j = 0 ∨ j = 1 ∨ j = 2 ∨ j = 3 := by omega
      rcases hj' with rfl | rfl | rfl | rfl
      all_goals exact ⟨_, lit_cell (Chg.refl (fun _ => False) _) (fun h => h) rfl, by omega, by omega⟩
    · simp [Frees, frameOf, Phi, go_sem]
      refine ⟨⟨w'.heap.size, rfl, hT _ hz, fun j hj => ?_⟩, (Chg.refl _ _).alloc _, (hJ.kept (balloc w' _)).up (by omega)⟩
      have hj' : j = 0 ∨ j = 1 ∨ j = 2 ∨ j = 3 ∨ j = 4 ∨ j = 5 ∨ j = 6 := by omega
      rcases hj' with rfl | rfl | rfl | rfl | rfl | rfl | rfl
      all_goals exact ⟨_, lit_cell (Chg.refl (fun _ => False) _) (fun h => h) rfl, by omega, by omega⟩
    · simp [Frees, frameOf, Phi, go_sem]
      exact ⟨rfl, Chg.refl _ _, hJ.up (by omega)⟩
    · have e1 := SP.eq_elim hd.1
      simp [Frees, frameOf, Phi, go_sem, e1]
      refine (pick_le _ rb _ 7 hJ (by omega) (by omega) (by omega)).mono ?_
      rintro e w'' ⟨x, rfl, x0, x1, r, c, -⟩
      exact ⟨_, rfl, ⟨x, rfl, x0, by omega⟩, c, r⟩
    · obtain ⟨g, e4, g1, g2⟩ := SP.lit_elim hd.1
      obtain ⟨x, e6, x0, x1⟩ := SP.int_elim hd.2
      obtain ⟨j, rfl⟩ := Int.eq_ofNat_of_zero_le x0
      have hj7 : (j : Int) < 7 := by omega
      simp [Frees, frameOf, Phi, go_sem, e4, e6, hj7]
      exact ⟨⟨g, j, rfl, g1, g2 j (by omega)⟩, Chg.refl _ _, hJ.up (by omega)⟩
    · obtain ⟨g, j, e7, g1, x, hx, x0, x1⟩ := SP.ptr_elim hd
      simp [Frees, frameOf, Phi, go_sem, e7, hx]
      exact ⟨⟨x, rfl, x0, x1⟩, Chg.refl _ _, hJ.up (by omega)⟩
    · obtain ⟨g, e4, g1, g2⟩ := SP.lit_elim hd.1
      obtain ⟨x, e6, x0, x1⟩ := SP.int_elim hd.2
      obtain ⟨j, rfl⟩ := Int.eq_ofNat_of_zero_le x0
      have hj7 : (j : Int) < 4 := by omega
      simp [Frees, frameOf, Phi, go_sem, e4, e6, hj7]
      exact ⟨⟨g, j, rfl, g1, g2 j (by omega)⟩, Chg.refl _ _, hJ.up (by omega)⟩
    · obtain ⟨g, j, e7, g1, x, hx, x0, x1⟩ := SP.ptr_elim hd
      simp [Frees, frameOf, Phi, go_sem, e7, hx]
      exact ⟨⟨x, rfl, x0, x1⟩, Chg.refl _ _, hJ.up (by omega)⟩
    · have e1 := SP.eq_elim hd.1
      simp [Frees, frameOf, Phi, go_sem, e1]
      exact ⟨rfl, Chg.refl _ _, hJ.up (by omega)⟩
    · have x8 := (hB _ _ rfl).trans XR.out.1
      obtain ⟨y1, y2⟩ := one_at x8
      have e1 := SP.eq_elim hd.1
      have hc8 : Chg (fun b => b = w.heap.size) w' (w'.setCell ⟨w.heap.size, 0, none⟩ (Value.slice a3 t.length cap3)) := Chg.setCell (S := fun b => b = w.heap.size) (Chg.refl _ w') (p := ⟨w.heap.size, 0, none⟩) (.inr rfl) _
      have hJ8 := (hJ.chg2 hc8 (by omega) (fun k hk => by omega)).up (show 300 + n' ≤ 300 + n' + 1 by omega)
      simp [Frees, frameOf, Phi, go_sem, e1, y1, y2]
      exact ⟨trivial, hc8, hJ8, box_set x8 _⟩
    · have x8 := (hB _ _ rfl).trans XR.out.2
      obtain ⟨⟨y0, y1, y2⟩, y3, y4, y5⟩ := three_at x8
      have e1 := SP.eq_elim hd.1
      have hc8 : Chg (fun b => b = w.heap.size + 1) w' (((w'.setCell ⟨w.heap.size + 1, 0, none⟩ (.int .i64 A)).setCell ⟨w.heap.size + 1, 1, none⟩ (.int .i64 B)).setCell ⟨w.heap.size + 1, 2, none⟩ (.int .i64 C)) := Chg.setCell (S := fun b => b = w.heap.size + 1) (Chg.setCell (S := fun b => b = w.heap.size + 1) (Chg.setCell (S := fun b => b = w.heap.size + 1) (Chg.refl _ w') (p := ⟨w.heap.size + 1, 0, none⟩) (.inr rfl) _) (p := ⟨w.heap.size + 1, 1, none⟩) (.inr rfl) _) (p := ⟨w.heap.size + 1, 2, none⟩) (.inr rfl) _
      have hJ8 := (hJ.chg2 hc8 (by omega) (fun k hk => by omega)).up (show 300 + n' ≤ 300 + n' + 1 by omega)
      simp [Frees, frameOf, Phi, go_sem, e1, y0, y1, y2, y3, y4, y5]
      exact ⟨trivial, hc8, hJ8, box3_set x8⟩
    · obtain ⟨x, e1, x0, x1⟩ := SP.int_elim hd.1
      simp [Frees, frameOf, Phi, go_sem, e1]
      exact ⟨⟨_, rfl, by omega, by omega⟩, Chg.refl _ _, hJ.up (by omega)⟩
  case hend =>
    intro V w' hc hJ hB hφ
    have e13 := SP.eq_elim (hφ 13 (by decide))
    obtain ⟨x, e16, x0, x1⟩ := SP.int_elim (hφ 16 (by decide))
    obtain ⟨d1, -⟩ := one_at (hB 14 _ _ rfl)
    obtain ⟨⟨d2, d3, d4⟩, -⟩ := three_at (hB 15 _ _ rfl)
    have HF := Lib.hid (HS.out.chg hc (fun k hk => by have := bvE_T hk; omega)).fin
    clear hφ hc hJ hB
    simp [frameOf, Act.put, e13, e16]
    go_wp2_with fail
    exact bodyPost_ret (v := .tuple #[Value.slice a2 d.length cap2, .agg #[Value.slice a3 t.length cap3], Value.agg #[.int .i64 A, .int .i64 B, .int .i64 C], .int .i64 x]) (by simp [results, Try.results20, go_sem, d1, d2, d3, d4]) rfl ⟨_, d, _, t, ⟨A, B, C⟩, x, rfl, HF.out.1, ⟨hl, HP.out⟩, HF.out.2.1, HI.out, by unfold I64; omega, HF.out.2.2⟩


end Go.Proofs.Ytjmofmdcegefgaa

