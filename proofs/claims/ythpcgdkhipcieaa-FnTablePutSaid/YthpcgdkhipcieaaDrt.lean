/-
  The draws of the laws over tables.
-/
import Derived.Test.YthpcgdkhipcieaaTbd
import Derived.Test.YthpcgdkhipcieaaDrr
namespace Go.Proofs.Ythpcgdkhipcieaa
open Go.RowKit
variable {H : Nat}

/-- A table, out of a code. -/
def TabD (w : World) (e : Ending) (w' : World) : Prop := ∃ v t, e = .returned (.agg #[v]) ∧ (RT w' w.heap.size w'.heap.size v t ∧ tsz t ≤ 100) ∧ Below w.heap.size w w'
def TabGD (w : World) (e : Ending) (w' : World) : Prop :=
  ∃ v t f p, e = .returned (.tuple #[.agg #[v], .int .i64 f, .int .i64 p]) ∧ (RT w' w.heap.size w'.heap.size v t ∧ tsz t ≤ 100) ∧ ((-1 ≤ f ∧ f ≤ 8) ∧ (-1 ≤ p ∧ p ≤ 6)) ∧ Below w.heap.size w w'

/-- The box of a result is there, and the code reads as before. -/
theorem dr_start {w : World} {v : Value} {bs : List Int} (h : RB w 0 w.heap.size v bs) : RB (w.alloc (.cells #[.slice none 0 0] 27)) 0 w.heap.size v bs ∧ w.heap.size ≤ (w.alloc (.cells #[.slice none 0 0] 27)).heap.size ∧
    (w.alloc (.cells #[.slice none 0 0] 27)).heap[w.heap.size]? = some (.cells #[.slice none 0 0] 27) ∧ Below w.heap.size w (w.alloc (.cells #[.slice none 0 0] 27)) ∧ (w.alloc (.cells #[.slice none 0 0] 27)).heap.size = w.heap.size + 1 :=
  ⟨h.below (balloc _ _), by simp, heap_alloc_new _ _, balloc _ _, by simp⟩

/-- Behind the reader's opening and the table's draw. -/
structure TabS (w : World) (rb m : Nat) (v : Value) (t : List (List Int)) (w2 : World) : Prop where
  rt : ∃ lo hi, RT w2 lo hi v t ∧ w.heap.size < lo ∧ (rb < lo ∨ hi ≤ rb) ∧ hi ≤ w2.heap.size
  small : tsz t ≤ 100
  rd : RdLe w.heap.size w2 rb m
  bel : Below w.heap.size w w2
  box : w2.heap[w.heap.size]? = some (.cells #[.slice none 0 0] 27)
  lt : w.heap.size < rb
theorem tabS_mk {w w1 w2 : World} {rb m : Nat} {v : Value} {t : List (List Int)} (hrb : w.heap.size + 1 ≤ rb) (b1 : Below (w.alloc (.cells #[.slice none 0 0] 27)).heap.size (w.alloc (.cells #[.slice none 0 0] 27)) w1) (hl : rb < w1.heap.size)
    (o2 : RT w2 w1.heap.size w2.heap.size v t) (ht : tsz t ≤ 100) (r2 : RdLe w.heap.size w2 rb m) (c2 : Chg (· = rb) w1 w2) : TabS w rb m v t w2 := by
  have z1 := b1.size
  have e1 : (w.alloc (.cells #[.slice none 0 0] 27)).heap.size = w.heap.size + 1 := by simp
  rw [e1] at z1
  exact ⟨⟨_, _, o2, by omega, .inl hl, Nat.le_refl _⟩, ht, r2, (bup2 (balloc _ _) b1).trans (c2.below (by omega) (fun k hk he => by omega)), box_chg (box_keep (heap_alloc_new _ _) b1) c2 (by omega), hrb⟩
theorem TabS.fin {w w2 : World} {rb m : Nat} {a : Option Addr} {n cap : Nat} {t : List (List Int)} (h : TabS w rb m (.slice a n cap) t w2) :
    (RT (w2.setCell ⟨w.heap.size, 0, none⟩ (.slice a n cap)) w.heap.size (w2.setCell ⟨w.heap.size, 0, none⟩ (.slice a n cap)).heap.size (.slice a n cap) t ∧ tsz t ≤ 100) ∧ Below w.heap.size w (w2.setCell ⟨w.heap.size, 0, none⟩ (.slice a n cap)) := by
  have hc : Chg (fun b => b = w.heap.size) w2 (w2.setCell ⟨w.heap.size, 0, none⟩ (.slice a n cap)) := Chg.setCell (S := fun b => b = w.heap.size) (Chg.refl _ w2) (p := ⟨w.heap.size, 0, none⟩) (.inr rfl) _
  have hlt := h.lt
  obtain ⟨lo, hi, h1, h2, h3, h4⟩ := h.rt
  exact ⟨⟨(h1.chg hc (fun b hb _ hs => by omega)).wide (by omega) (Nat.le_trans h4 hc.size), h.small⟩, h.bel.setCell (Nat.le_refl _) _⟩
theorem TabS.pick {w w2 w' : World} {rb m m' : Nat} {v : Value} {t : List (List Int)} (h : TabS w rb m v t w2) (c : Chg (· = rb) w2 w') (hr : RdLe w.heap.size w' rb m') : TabS w rb m' v t w' := by
  obtain ⟨lo, hi, h1, h2, h3, h4⟩ := h.rt
  have hlt := h.lt
  exact ⟨⟨lo, hi, h1.chg c (fun b hb _ hs => by omega), h2, h3, Nat.le_trans h4 c.size⟩, h.small, hr, h.bel.trans (c.below h.bel.size (fun k hk he => by omega)), box_chg h.box c (by omega), h.lt⟩
theorem TabS.keep {w w2 w' : World} {rb m : Nat} {v : Value} {t : List (List Int)} (h : TabS w rb m v t w2) (c : Below w2.heap.size w2 w') : TabS w rb m v t w' := by
  obtain ⟨lo, hi, h1, h2, h3, h4⟩ := h.rt
  exact ⟨⟨lo, hi, h1.below c, h2, h3, Nat.le_trans h4 c.size⟩, h.small, h.rd.kept c, h.bel.trans (c.mono h.bel.size), box_keep h.box c, h.lt⟩

set_option maxHeartbeats 1000000 in
theorem dTableValid (w : World) (v : Value) (bs : List Int) (h : RB w 0 w.heap.size v bs) : Calls Try.prog 30 #[v] w (TabD w) := by
  have HS := Lib.hid (dr_start h)
  obtain ⟨a, cap, b, off, rfl, -⟩ := h.open
  clear h
  go_enter Try.func30, Try.ntmps30
  go_wp2_with fail
  refine (open_any _ _ bs HS.out.1 HS.out.2.1).mono ?_
  rintro e w1 ⟨rb, rfl, hrb, r1, b1⟩
  have R1 := Lib.hid (And.intro r1 b1)
  clear r1 b1
  go_wp2_with fail
  refine (l20Table_any _ rb 0 2 R1.out.1 (by omega) (by omega) (by omega)).mono ?_
  rintro e w2 ⟨v2, t, rfl, o2, ht, r2, c2⟩
  obtain ⟨a2, cap2, b2, off2, rfl, -⟩ := o2.open
  have HT := Lib.hid (tabS_mk (by simpa using hrb) R1.out.2 R1.out.1.lt o2 ht r2 c2)
  obtain ⟨d1, d2⟩ := one_at HT.out.box
  have HF := Lib.hid HT.out.fin
  clear o2 r2 c2 R1 HS HT
  go_wp2_with fail
  refine bodyPost_ret (v := .agg #[.slice a2 t.length cap2]) (by simp [results, Try.results30, go_sem, d1]) rfl ⟨_, t, rfl, HF.out.1, HF.out.2⟩

/-- What the last region of such a draw leaves. -/
theorem TabS.out {w w2 w' : World} {rb m : Nat} {a : Option Addr} {n cap : Nat} {t : List (List Int)} (h : TabS w rb m (.slice a n cap) t w2) (c : Chg (fun b => b = rb ∨ b = w.heap.size) w2 w') :
    (RT w' w.heap.size w'.heap.size (.slice a n cap) t ∧ tsz t ≤ 100) ∧ Below w.heap.size w w' := by
  have hlt := h.lt
  obtain ⟨lo, hi, h1, h2, h3, h4⟩ := h.rt
  exact ⟨⟨(h1.chg c (fun b hb _ hs => by omega)).wide (by omega) (Nat.le_trans h4 c.size), h.small⟩, h.bel.trans (c.below h.bel.size (fun k hk he => by omega))⟩
theorem effT_one {rb B : Nat} {E : List Eff} {o : Obj} (hE : ∀ B' o', Eff.put B' o' ∈ E → B' = B) {w w' : World} (c : Chg (effT rb E) w w') (_h : Eff.put B o ∈ E) : Chg (fun b => b = rb ∨ b = B) w w' :=
  c.mono fun k _ hk => by
    rcases hk with hk | ⟨B', o', h1, h2⟩
    · exact .inl hk
    · exact .inr (h2.trans (hE B' o' h1))

/-- The words and effects of DrawTableGet's last region. -/
def tgE (B : Nat) (sl : Value) : List Eff := [.keep, .keep, .keep, .pick, .keep, .pick, .keep, .keep, .put B (.cells #[sl] 27), .keep, .keep]
theorem tgE_ok {H rb L B : Nat} {sl : Value} (h1 : H ≤ B) (h2 : B ≠ rb) (h3 : B < L) : EffOk H rb L (tgE B sl) := by
  have key : ∀ (i B' : Nat) (o : Obj), (tgE B sl)[i]? = some (Eff.put B' o) → i = 8 ∧ B' = B := by
    intro i B' o hi
    have hi' : i < 11 := (List.getElem?_eq_some_iff.1 hi).1
    obtain rfl | rfl | rfl | rfl | rfl | rfl | rfl | rfl | rfl | rfl | rfl : i = 0 ∨ i = 1 ∨ i = 2 ∨ i = 3 ∨ i = 4 ∨ i = 5 ∨ i = 6 ∨ i = 7 ∨ i = 8 ∨ i = 9 ∨ i = 10 := by omega
    all_goals simp [tgE] at hi
    exact ⟨rfl, hi.1.symm⟩
  refine ⟨fun i B' o hi => ?_, fun i j B' o o' hne hi hj => hne ((key i B' o hi).1.trans (key j B' o' hj).1.symm)⟩
  obtain ⟨-, rfl⟩ := key i B' o hi
  exact ⟨h1, h2, h3⟩
theorem tgE_one {B : Nat} {sl : Value} : ∀ B' o', Eff.put B' o' ∈ tgE B sl → B' = B := by
  intro B' o' h
  simp [tgE] at h
  exact h.1

set_option maxHeartbeats 2000000 in
theorem dTableGet (w : World) (v : Value) (bs : List Int) (h : RB w 0 w.heap.size v bs) : Calls Try.prog 27 #[v] w (TabGD w) := by
  have HS := Lib.hid (dr_start h)
  obtain ⟨a, cap, b, off, rfl, -⟩ := h.open
  clear h
  go_enter Try.func27, Try.ntmps27
  go_wp2_with fail
  refine (open_any _ _ bs HS.out.1 HS.out.2.1).mono ?_
  rintro e w1 ⟨rb, rfl, hrb, r1, b1⟩
  have R1 := Lib.hid (And.intro r1 b1)
  clear r1 b1
  go_wp2_with fail
  refine (l20Table_any _ rb 0 9 R1.out.1 (by omega) (by omega) (by omega)).mono ?_
  rintro e w2 ⟨v2, t, rfl, o2, ht, r2, c2⟩
  obtain ⟨a2, cap2, b2, off2, rfl, -⟩ := o2.open
  have HT := Lib.hid (tabS_mk (by simpa using hrb) R1.out.2 R1.out.1.lt o2 ht r2 c2)
  clear o2 r2 c2 R1 HS hrb
  have HT2 := Lib.hid (And.intro (HT.out.keep (balloc w2 (.cells #[.slice a2 t.length cap2] 27))) (heap_alloc_new w2 (.cells #[.slice a2 t.length cap2] 27)))
  have hlr := HT.out.lt
  have hl2 := HT.out.rd.lt
  clear HT
  go_wp2_with fail
  refine (pick_le _ rb _ 4 HT2.out.1.rd (by omega) (by omega) (by omega)).mono ?_
  rintro e w4 ⟨k, rfl, k0, k1, r4, c4, -⟩
  have HT4 := Lib.hid (And.intro (HT2.out.1.pick c4 r4) (box_chg HT2.out.2 c4 (by omega)))
  have z4 := c4.size
  simp at z4
  clear HT2 r4 c4
  have HT5 := Lib.hid ((HT4.out.1.keep (balloc w4 (.cells #[.int .i64 k, .int .i64 8, .int .i64 (-1)] 3))).keep (balloc _ (.cells #[.int .i64 0, .int .i64 0, .int .i64 0, .int .i64 0, .int .i64 0, .int .i64 0, .int .i64 1, .int .i64 2] 3)))
  go_wp2_with fail
  refine (pick_le _ rb _ 8 HT5.out.rd (by omega) (by omega) (by omega)).mono ?_
  rintro e w5 ⟨n, rfl, n0, n1, r5, c5, -⟩
  obtain ⟨n, rfl⟩ := Int.eq_ofNat_of_zero_le n0
  have hk : ∃ (y f : Int), w5.cell? ⟨w4.heap.size + 1, n, none⟩ = some (.int .i64 y) ∧ (0 ≤ y ∧ y < 3) ∧ w5.cell? ⟨w4.heap.size, y.toNat, none⟩ = some (.int .i64 f) ∧ -1 ≤ f ∧ f ≤ 8 := by
    have e1 : (w4.alloc (.cells #[.int .i64 k, .int .i64 8, .int .i64 (-1)] 3)).heap.size = w4.heap.size + 1 := by simp
    have hb1 : ¬ w4.heap.size + 1 = rb := by omega
    have hb2 : ¬ w4.heap.size = rb := by omega
    obtain rfl | rfl | rfl | rfl | rfl | rfl | rfl | rfl : n = 0 ∨ n = 1 ∨ n = 2 ∨ n = 3 ∨ n = 4 ∨ n = 5 ∨ n = 6 ∨ n = 7 := by omega
    all_goals
      rw [← e1]
      rw [← e1] at hb1
      refine ⟨_, _, lit_cell c5 hb1 rfl, by decide, lit_cell2 c5 hb2 rfl, ?_⟩
      first | decide | omega
  have HT6 := Lib.hid (And.intro (HT5.out.pick c5 r5) (box_chg (box_keep (box_keep HT4.out.2 (balloc _ _)) (balloc _ _)) c5 (by omega)))
  clear HT4 HT5 r5 c5
  obtain ⟨y, f, hy1, ⟨y0, y1⟩, hy2, f0, f1⟩ := hk
  obtain ⟨y, rfl⟩ := Int.eq_ofNat_of_zero_le y0
  simp only [Int.toNat_natCast] at hy2
  go_wp2_with fail
  refine wp_region_dr (H := w.heap.size) rb 62 (tgE w.heap.size (.slice a2 t.length cap2)) [.eq (.agg #[.slice a2 t.length cap2]), .eq (.int .i64 f), .eq (.pointer (some ⟨rb, 0, none⟩)), .int 0 6, .eq (.pointer (some ⟨rb, 0, none⟩)), .int 0 13, .int 0 1, .int (-1) 6, .true, .eq (.int .i64 f), .int (-1) 6] (by kernel_rfl) (by kernel_rfl) (by decide) rfl (HT6.out.1.rd.up (by omega)) (tgE_ok (Nat.le_refl _) (by omega) (by have := HT6.out.1.rd.lt; omega)) ?hop ?hend
  case hop =>
    intro i o e hi hE V n' w' hn' hc hJ hB hd
    have hi' : i = 0 ∨ i = 1 ∨ i = 2 ∨ i = 3 ∨ i = 4 ∨ i = 5 ∨ i = 6 ∨ i = 7 ∨ i = 8 ∨ i = 9 ∨ i = 10 := by
      have := (List.getElem?_eq_some_iff.1 hi).1
      simp at this
      omega
    have hc2 := effT_one (o := .cells #[.slice a2 t.length cap2] 27) tgE_one hc (by simp [tgE])
    rcases hi' with rfl | rfl | rfl | rfl | rfl | rfl | rfl | rfl | rfl | rfl | rfl
    all_goals
      simp at hi
      subst hi
      simp [tgE] at hE
      subst hE
      simp [Region.binds, Phi] at hd
    · obtain ⟨y1, -⟩ := one_at (box_chg HT6.out.2 hc2 (by omega))
      simp [Frees, frameOf, Phi, go_sem, y1]
      exact ⟨rfl, Chg.refl _ _, hJ.up (by omega)⟩
    · simp [Frees, frameOf, Phi, go_sem]
      exact ⟨rfl, Chg.refl _ _, hJ.up (by omega)⟩
    · simp [Frees, frameOf, Phi, go_sem]
      exact ⟨rfl, Chg.refl _ _, hJ.up (by omega)⟩
    · have e1 := SP.eq_elim hd
      simp [Frees, frameOf, Phi, go_sem, e1]
      refine (pick_le _ rb _ 7 hJ (by omega) (by omega) (by omega)).mono ?_
      rintro e w'' ⟨x, rfl, x0, x1, r, c, -⟩
      exact ⟨_, rfl, ⟨x, rfl, x0, by omega⟩, c, r⟩
    · simp [Frees, frameOf, Phi, go_sem]
      exact ⟨rfl, Chg.refl _ _, hJ.up (by omega)⟩
    · have e1 := SP.eq_elim hd.1
      simp [Frees, frameOf, Phi, go_sem, e1]
      refine (pick_le _ rb _ 14 hJ (by omega) (by omega) (by omega)).mono ?_
      rintro e w'' ⟨x, rfl, x0, x1, r, c, -⟩
      exact ⟨_, rfl, ⟨x, rfl, x0, by omega⟩, c, r⟩
    · obtain ⟨x, e1, x0, x1⟩ := SP.int_elim hd
      have hw : IntKind.i64.wrap (x.tdiv 13) = x / 13 := by rw [Int.tdiv_eq_ediv_of_nonneg x0, IntKind.wrap_i64]; omega
      simp [Frees, frameOf, Phi, go_sem, e1, hw]
      exact ⟨⟨_, rfl, by omega, by omega⟩, Chg.refl _ _, hJ.up (by omega)⟩
    · obtain ⟨x, e1, x0, x1⟩ := SP.int_elim hd.1
      obtain ⟨y, e2, y0, y1⟩ := SP.int_elim hd.2
      have hw : IntKind.i64.wrap (x - y) = x - y := by rw [IntKind.wrap_i64]; omega
      simp [Frees, frameOf, Phi, go_sem, e1, e2, hw]
      exact ⟨⟨_, rfl, by omega, by omega⟩, Chg.refl _ _, hJ.up (by omega)⟩
    · have x8 := (hB _ _ rfl).trans HT6.out.1.box
      obtain ⟨y1, y2⟩ := one_at x8
      have e1 := SP.eq_elim hd.1
      have hc8 : Chg (fun b => b = w.heap.size) w' (w'.setCell ⟨w.heap.size, 0, none⟩ (.slice a2 t.length cap2)) := Chg.setCell (S := fun b => b = w.heap.size) (Chg.refl _ w') (p := ⟨w.heap.size, 0, none⟩) (.inr rfl) _
      have hJ8 := (hJ.chg2 hc8 (by omega) (fun k hk => by omega)).up (show 62 + n' ≤ 62 + n' + 1 by omega)
      simp [Frees, frameOf, Phi, go_sem, e1, y1, y2]
      exact ⟨trivial, hc8, hJ8, box_set x8 _⟩
    · have e1 := SP.eq_elim hd.1
      simp [Frees, frameOf, Phi, go_sem, e1]
      exact ⟨rfl, Chg.refl _ _, hJ.up (by omega)⟩
    · obtain ⟨x, e1, x0, x1⟩ := SP.int_elim hd.1
      simp [Frees, frameOf, Phi, go_sem, e1]
      exact ⟨⟨_, rfl, by omega, by omega⟩, Chg.refl _ _, hJ.up (by omega)⟩
  case hend =>
    intro V w' hc hJ hB hφ
    have hc2 := effT_one (o := .cells #[.slice a2 t.length cap2] 27) tgE_one hc (by simp [tgE])
    have e9 := SP.eq_elim (hφ 9 (by decide))
    obtain ⟨x, e10, x0, x1⟩ := SP.int_elim (hφ 10 (by decide))
    obtain ⟨d1, -⟩ := one_at (hB 8 _ _ rfl)
    have HF := Lib.hid (HT6.out.1.out hc2)
    clear hφ hc hJ hB hc2
    simp [frameOf, Act.put, e9, e10]
    go_wp2_with fail
    refine bodyPost_ret (v := .tuple #[.agg #[.slice a2 t.length cap2], .int .i64 f, .int .i64 x]) (by simp [results, Try.results27, go_sem, d1]) rfl ⟨_, t, f, x, rfl, HF.out.1, ⟨⟨f0, f1⟩, x0, x1⟩, HF.out.2⟩

end Go.Proofs.Ythpcgdkhipcieaa
