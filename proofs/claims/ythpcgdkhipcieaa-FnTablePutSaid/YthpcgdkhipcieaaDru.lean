/-
  The draws of the laws over tables, further ones.
-/
import Derived.Test.YthpcgdkhipcieaaDrt
namespace Go.Proofs.Ythpcgdkhipcieaa
open Go.RowKit
variable {H : Nat}

def TabFD (w : World) (e : Ending) (w' : World) : Prop :=
  ∃ v t f, e = .returned (.tuple #[.agg #[v], .int .i64 f]) ∧ (RT w' w.heap.size w'.heap.size v t ∧ tsz t ≤ 100) ∧ (-1 ≤ f ∧ f ≤ 8) ∧ Below w.heap.size w w'
def TabCD (w : World) (e : Ending) (w' : World) : Prop :=
  ∃ v t f p, e = .returned (.tuple #[.agg #[v], .int .i64 f, .int .i64 p]) ∧ (RT w' w.heap.size w'.heap.size v t ∧ tsz t ≤ 100) ∧ ((-1 ≤ f ∧ f ≤ 8) ∧ (-1 ≤ p ∧ p ≤ 7)) ∧ Below w.heap.size w w'
def TabPD (w : World) (e : Ending) (w' : World) : Prop :=
  ∃ v t f p x, e = .returned (.tuple #[.agg #[v], .int .i64 f, .int .i64 p, .int .i64 x]) ∧ (RT w' w.heap.size w'.heap.size v t ∧ tsz t ≤ 100) ∧ ((-1 ≤ f ∧ f ≤ 8) ∧ (-1 ≤ p ∧ p ≤ 6) ∧ (-2 ≤ x ∧ x ≤ 48)) ∧ Below w.heap.size w w'

theorem RB.wide {w : World} {lo hi hi' : Nat} {v : Value} {xs : List Int} (h : RB w lo hi v xs) (hh : hi ≤ hi') : RB w lo hi' v xs := ⟨h.1.wide (Nat.le_refl _) hh, h.2⟩

/-- The result's box behind a call. -/
theorem dr_back {w w1 : World} {sl : Value} {t : List (List Int)} (o1 : RT w1 (w.alloc (.cells #[.slice none 0 0] 27)).heap.size w1.heap.size sl t) (b1 : Below (w.alloc (.cells #[.slice none 0 0] 27)).heap.size (w.alloc (.cells #[.slice none 0 0] 27)) w1) :
    w1.heap[w.heap.size]? = some (.cells #[.slice none 0 0] 27) ∧ w.heap.size < w1.heap.size ∧ (w1.setCell ⟨w.heap.size, 0, none⟩ sl).heap[w.heap.size]? = some (.cells #[sl] 27) ∧
      RT (w1.setCell ⟨w.heap.size, 0, none⟩ sl) w.heap.size (w1.setCell ⟨w.heap.size, 0, none⟩ sl).heap.size sl t ∧ Below w.heap.size w (w1.setCell ⟨w.heap.size, 0, none⟩ sl) := by
  have z1 := b1.size
  have e1 : (w.alloc (.cells #[.slice none 0 0] 27)).heap.size = w.heap.size + 1 := by simp
  rw [e1] at z1 o1
  have x0 := box_keep (heap_alloc_new w (.cells #[.slice none 0 0] 27)) b1
  have bb : Below w.heap.size w w1 := bup2 (balloc _ _) b1
  have hc : Chg (fun b => b = w.heap.size) w1 (w1.setCell ⟨w.heap.size, 0, none⟩ sl) := Chg.setCell (S := fun b => b = w.heap.size) (Chg.refl _ w1) (p := ⟨w.heap.size, 0, none⟩) (.inr rfl) _
  exact ⟨x0, by omega, box_set x0 _, (o1.chg hc (fun b hb _ hs => by omega)).wide (by omega) hc.size, bb.setCell (Nat.le_refl _) _⟩
/-- The same, and a box of the call's own behind it. -/
theorem dr_back2 {w w2 : World} {sl : Value} {t : List (List Int)} (o : Obj) (h : RT w2 w.heap.size w2.heap.size sl t) (b : Below w.heap.size w w2) : RT (w2.alloc o) w.heap.size (w2.alloc o).heap.size sl t ∧ Below w.heap.size w (w2.alloc o) :=
  ⟨(h.below (balloc _ _)).wide (Nat.le_refl _) (balloc _ _).size, b.alloc b.size o⟩

set_option maxHeartbeats 1000000 in
theorem dFileSize (w : World) (v : Value) (bs : List Int) (h : RB w 0 w.heap.size v bs) : Calls Try.prog 20 #[v] w (TabFD w) := by
  have HS := Lib.hid (dr_start h)
  obtain ⟨a, cap, b, off, rfl, -⟩ := h.open
  clear h
  go_enter Try.func20, Try.ntmps20
  go_wp2_with fail
  refine (dTableGet _ _ bs (HS.out.1.wide HS.out.2.1)).mono ?_
  rintro e w1 ⟨v2, t, f, p, rfl, ⟨o1, ht⟩, ⟨hf, hp⟩, b1⟩
  obtain ⟨a2, cap2, b2, off2, rfl, -⟩ := o1.open
  obtain ⟨x0, hlt, x1, r, bb⟩ := dr_back o1 b1
  obtain ⟨d1, d2⟩ := one_at x0
  obtain ⟨d3, -⟩ := one_at (box_keep x1 (balloc _ (.cells #[.slice a2 t.length cap2] 27)))
  have HF := Lib.hid (dr_back2 (.cells #[.slice a2 t.length cap2] 27) r bb)
  clear o1 b1 x0 x1 r bb HS
  go_wp2_with fail
  refine bodyPost_ret (v := .tuple #[.agg #[.slice a2 t.length cap2], .int .i64 f]) (by simp [results, Try.results20, go_sem, d3]) rfl ⟨_, t, f, rfl, ⟨HF.out.1, ht⟩, hf, HF.out.2⟩

set_option maxHeartbeats 1000000 in
theorem dFileHoles (w : World) (v : Value) (bs : List Int) (h : RB w 0 w.heap.size v bs) : Calls Try.prog 39 #[v] w (TabFD w) := by
  have HS := Lib.hid (dr_start h)
  obtain ⟨a, cap, b, off, rfl, -⟩ := h.open
  clear h
  go_enter Try.func39, Try.ntmps39
  go_wp2_with fail
  refine (dFileSize _ _ bs (HS.out.1.wide HS.out.2.1)).mono ?_
  rintro e w1 ⟨v2, t, f, rfl, ⟨o1, ht⟩, hf, b1⟩
  obtain ⟨a2, cap2, b2, off2, rfl, -⟩ := o1.open
  obtain ⟨x0, -, -, r, bb⟩ := dr_back o1 b1
  obtain ⟨d1, d2⟩ := one_at x0
  have HF := Lib.hid (And.intro r bb)
  clear o1 b1 x0 r bb HS
  go_wp2_with fail
  refine bodyPost_ret (v := .tuple #[.agg #[.slice a2 t.length cap2], .int .i64 f]) (by simp [results, Try.results39, go_sem, d1]) rfl ⟨_, t, f, rfl, ⟨HF.out.1, ht⟩, hf, HF.out.2⟩

set_option maxHeartbeats 1000000 in
theorem dCutFile (w : World) (v : Value) (bs : List Int) (h : RB w 0 w.heap.size v bs) : Calls Try.prog 44 #[v] w (TabCD w) := by
  have HS := Lib.hid (dr_start h)
  obtain ⟨a, cap, b, off, rfl, -⟩ := h.open
  clear h
  go_enter Try.func44, Try.ntmps44
  go_wp2_with fail
  refine (dTableGet _ _ bs (HS.out.1.wide HS.out.2.1)).mono ?_
  rintro e w1 ⟨v2, t, f, p, rfl, ⟨o1, ht⟩, ⟨hf, hp⟩, b1⟩
  obtain ⟨a2, cap2, b2, off2, rfl, -⟩ := o1.open
  obtain ⟨x0, hlt, x1, r, bb⟩ := dr_back o1 b1
  obtain ⟨d1, d2⟩ := one_at x0
  obtain ⟨d3, -⟩ := one_at (box_keep x1 (balloc _ (.cells #[.slice a2 t.length cap2] 27)))
  have HF := Lib.hid (dr_back2 (.cells #[.slice a2 t.length cap2] 27) r bb)
  clear o1 b1 x0 x1 r bb HS
  go_wp2_with fail
  refine bodyPost_ret (v := .tuple #[.agg #[.slice a2 t.length cap2], .int .i64 f, .int .i64 (p + (bs.length : Int) % 2)]) (by simp [results, Try.results44, go_sem, d3]) rfl ⟨_, t, f, _, rfl, ⟨HF.out.1, ht⟩, ⟨hf, by omega, by omega⟩, HF.out.2⟩

/-- The effects of DrawTablePut's last region. -/
def tpE (B : Nat) (sl : Value) : List Eff := [.keep, .keep, .keep, .keep, .pick, .keep, .keep, .keep, .keep, .pick, .keep, .keep, .keep, .keep, .put B (.cells #[sl] 27), .keep, .keep, .keep]
theorem tpE_ok {H rb L B : Nat} {sl : Value} (h1 : H ≤ B) (h2 : B ≠ rb) (h3 : B < L) : EffOk H rb L (tpE B sl) := by
  have key : ∀ (i B' : Nat) (o : Obj), (tpE B sl)[i]? = some (Eff.put B' o) → i = 14 ∧ B' = B := by
    intro i B' o hi
    have hi' : i < 18 := (List.getElem?_eq_some_iff.1 hi).1
    obtain rfl | rfl | rfl | rfl | rfl | rfl | rfl | rfl | rfl | rfl | rfl | rfl | rfl | rfl | rfl | rfl | rfl | rfl : i = 0 ∨ i = 1 ∨ i = 2 ∨ i = 3 ∨ i = 4 ∨ i = 5 ∨ i = 6 ∨ i = 7 ∨ i = 8 ∨ i = 9 ∨ i = 10 ∨ i = 11 ∨ i = 12 ∨ i = 13 ∨ i = 14 ∨ i = 15 ∨ i = 16 ∨ i = 17 := by omega
    all_goals simp [tpE] at hi
    exact ⟨rfl, hi.1.symm⟩
  refine ⟨fun i B' o hi => ?_, fun i j B' o o' hne hi hj => hne ((key i B' o hi).1.trans (key j B' o' hj).1.symm)⟩
  obtain ⟨-, rfl⟩ := key i B' o hi
  exact ⟨h1, h2, h3⟩
theorem tpE_one {B : Nat} {sl : Value} : ∀ B' o', Eff.put B' o' ∈ tpE B sl → B' = B := by
  intro B' o' h
  simp [tpE] at h
  exact h.1

set_option maxHeartbeats 2000000 in
theorem dTablePut (w : World) (v : Value) (bs : List Int) (h : RB w 0 w.heap.size v bs) : Calls Try.prog 47 #[v] w (TabPD w) := by
  have HS := Lib.hid (dr_start h)
  obtain ⟨a, cap, b, off, rfl, -⟩ := h.open
  clear h
  go_enter Try.func47, Try.ntmps47
  go_wp2_with fail
  refine (dTableGet _ _ bs (HS.out.1.wide HS.out.2.1)).mono ?_
  rintro e w1 ⟨v2, t, f, p, rfl, ⟨o1, ht⟩, ⟨hf, hp⟩, b1⟩
  obtain ⟨a2, cap2, b2, off2, rfl, -⟩ := o1.open
  obtain ⟨x0, hlt, -⟩ := dr_back o1 b1
  have bb1 := bup2 HS.out.2.2.2.1 b1
  have HB := Lib.hid ((HS.out.1.below b1).below (balloc _ (.cells #[.slice a2 t.length cap2] 27)))
  have es : (w.alloc (.cells #[.slice none 0 0] 27)).heap.size = w.heap.size + 1 := by simp
  rw [es] at o1
  have H1 := Lib.hid (And.intro o1 (And.intro x0 bb1))
  clear o1 b1 x0 HS bb1
  go_wp2_with fail
  refine (open_any _ _ bs HB.out (by simp; omega)).mono ?_
  rintro e w5 ⟨rb, rfl, hrb, r5, b5⟩
  have hrb' : w1.heap.size + 1 ≤ rb := by simpa using hrb
  have hl5 := r5.lt
  have hba := bup2 (balloc w1 (.cells #[.slice a2 t.length cap2] 27)) b5
  have HT6 : Hid (TabS w rb 0 (.slice a2 t.length cap2) t w5 ∧ w5.heap[w1.heap.size]? = some (.cells #[.slice a2 t.length cap2] 27)) := by
    refine Lib.hid ⟨⟨⟨_, _, H1.out.1.below hba, by omega, .inr (by omega), by omega⟩, ht, r5, bup2 H1.out.2.2 hba, box_keep H1.out.2.1 hba, by omega⟩, box_keep (heap_alloc_new _ _) b5⟩
  clear hrb HB H1 r5 b5 hba
  go_wp2_with fail
  refine wp_region_dr (H := w.heap.size) rb 0 (tpE w.heap.size (.slice a2 t.length cap2)) [.eq (.agg #[.slice a2 t.length cap2]), .eq (.int .i64 f), .eq (.int .i64 p), .eq (.pointer (some ⟨rb, 0, none⟩)), .int 0 25, .int (-1) 24, .lit 3 (-2) 48, .lit 8 0 2, .eq (.pointer (some ⟨rb, 0, none⟩)), .int 0 7, .ptr 0 2, .int 0 2, .ptr (-2) 48, .int (-2) 48, .true, .eq (.int .i64 f), .eq (.int .i64 p), .int (-2) 48] (by kernel_rfl) (by kernel_rfl) (by decide) rfl (HT6.out.1.rd.up (by omega)) (tpE_ok (Nat.le_refl _) (by omega) (by have := HT6.out.1.rd.lt; omega)) ?hop ?hend
  case hop =>
    intro i o e hi hE V n' w' hn' hc hJ hB hd
    have hi' : i = 0 ∨ i = 1 ∨ i = 2 ∨ i = 3 ∨ i = 4 ∨ i = 5 ∨ i = 6 ∨ i = 7 ∨ i = 8 ∨ i = 9 ∨ i = 10 ∨ i = 11 ∨ i = 12 ∨ i = 13 ∨ i = 14 ∨ i = 15 ∨ i = 16 ∨ i = 17 := by
      have := (List.getElem?_eq_some_iff.1 hi).1
      simp at this
      omega
    have hc2 := effT_one (o := .cells #[.slice a2 t.length cap2] 27) tpE_one hc (by simp [tpE])
    have hz2 := hc2.size
    have hnew : ∀ g, w5.heap.size ≤ g → ¬ effT rb (tpE w.heap.size (.slice a2 t.length cap2)) g := by
      rintro g hg (hg2 | ⟨B', o', h1, h2⟩)
      · omega
      · have := tpE_one B' o' h1; omega
    rcases hi' with rfl | rfl | rfl | rfl | rfl | rfl | rfl | rfl | rfl | rfl | rfl | rfl | rfl | rfl | rfl | rfl | rfl | rfl
    all_goals
      simp at hi
      subst hi
      simp [tpE] at hE
      subst hE
      simp [Region.binds, Phi] at hd
    · obtain ⟨y1, -⟩ := one_at (box_chg HT6.out.2 hc2 (by omega))
      simp [Frees, frameOf, Phi, go_sem, y1]
      exact ⟨rfl, Chg.refl _ _, hJ.up (by omega)⟩
    · simp [Frees, frameOf, Phi, go_sem]
      exact ⟨rfl, Chg.refl _ _, hJ.up (by omega)⟩
    · simp [Frees, frameOf, Phi, go_sem]
      exact ⟨rfl, Chg.refl _ _, hJ.up (by omega)⟩
    · simp [Frees, frameOf, Phi, go_sem]
      exact ⟨rfl, Chg.refl _ _, hJ.up (by omega)⟩
    · have e1 := SP.eq_elim hd
      simp [Frees, frameOf, Phi, go_sem, e1]
      refine (pick_le _ rb _ 26 hJ (by omega) (by omega) (by omega)).mono ?_
      rintro e w'' ⟨x, rfl, x0, x1, r, c, -⟩
      exact ⟨_, rfl, ⟨x, rfl, x0, by omega⟩, c, r.up (by omega)⟩
    · obtain ⟨x, e1, x0, x1⟩ := SP.int_elim hd
      have hw : IntKind.i64.wrap (x - 1) = x - 1 := by rw [IntKind.wrap_i64]; omega
      simp [Frees, frameOf, Phi, go_sem, e1, hw]
      exact ⟨⟨_, rfl, by omega, by omega⟩, Chg.refl _ _, hJ.up (by omega)⟩
    · obtain ⟨x, e1, x0, x1⟩ := SP.int_elim hd
      simp [Frees, frameOf, Phi, go_sem, e1]
      refine ⟨⟨w'.heap.size, rfl, hnew _ hz2, fun j hj => ?_⟩, (Chg.refl _ _).alloc _, (hJ.kept (balloc _ _)).up (by omega)⟩
      obtain rfl | rfl | rfl : j = 0 ∨ j = 1 ∨ j = 2 := by omega
      all_goals exact ⟨_, lit_cell (Chg.refl (fun _ => False) _) (fun h => h) rfl, by omega, by omega⟩
    · simp [Frees, frameOf, Phi, go_sem]
      refine ⟨⟨w'.heap.size, rfl, hnew _ hz2, fun j hj => ?_⟩, (Chg.refl _ _).alloc _, (hJ.kept (balloc _ _)).up (by omega)⟩
      obtain rfl | rfl | rfl | rfl | rfl | rfl | rfl | rfl : j = 0 ∨ j = 1 ∨ j = 2 ∨ j = 3 ∨ j = 4 ∨ j = 5 ∨ j = 6 ∨ j = 7 := by omega
      all_goals exact ⟨_, lit_cell (Chg.refl (fun _ => False) _) (fun h => h) rfl, by omega, by omega⟩
    · simp [Frees, frameOf, Phi, go_sem]
      exact ⟨rfl, Chg.refl _ _, hJ.up (by omega)⟩
    · have e1 := SP.eq_elim hd.1
      simp [Frees, frameOf, Phi, go_sem, e1]
      refine (pick_le _ rb _ 8 hJ (by omega) (by omega) (by omega)).mono ?_
      rintro e w'' ⟨x, rfl, x0, x1, r, c, -⟩
      exact ⟨_, rfl, ⟨x, rfl, x0, by omega⟩, c, r.up (by omega)⟩
    · obtain ⟨g, e4, g1, g2⟩ := SP.lit_elim hd.1
      obtain ⟨x, e6, x0, x1⟩ := SP.int_elim hd.2
      obtain ⟨j, rfl⟩ := Int.eq_ofNat_of_zero_le x0
      have hj7 : (j : Int) < 8 := by omega
      simp [Frees, frameOf, Phi, go_sem, e4, e6, hj7]
      exact ⟨⟨g, j, rfl, g1, g2 j (by omega)⟩, Chg.refl _ _, hJ.up (by omega)⟩
    · obtain ⟨g, j, e7, g1, x, hx, x0, x1⟩ := SP.ptr_elim hd
      simp [Frees, frameOf, Phi, go_sem, e7, hx]
      exact ⟨⟨x, rfl, x0, x1⟩, Chg.refl _ _, hJ.up (by omega)⟩
    · obtain ⟨g, e4, g1, g2⟩ := SP.lit_elim hd.1
      obtain ⟨x, e6, x0, x1⟩ := SP.int_elim hd.2
      obtain ⟨j, rfl⟩ := Int.eq_ofNat_of_zero_le x0
      have hj7 : (j : Int) < 3 := by omega
      simp [Frees, frameOf, Phi, go_sem, e4, e6, hj7]
      exact ⟨⟨g, j, rfl, g1, g2 j (by omega)⟩, Chg.refl _ _, hJ.up (by omega)⟩
    · obtain ⟨g, j, e7, g1, x, hx, x0, x1⟩ := SP.ptr_elim hd
      simp [Frees, frameOf, Phi, go_sem, e7, hx]
      exact ⟨⟨x, rfl, x0, x1⟩, Chg.refl _ _, hJ.up (by omega)⟩
    · have x8 := (hB _ _ rfl).trans HT6.out.1.box
      obtain ⟨y1, y2⟩ := one_at x8
      have e1 := SP.eq_elim hd.1
      have hc8 : Chg (fun b => b = w.heap.size) w' (w'.setCell ⟨w.heap.size, 0, none⟩ (.slice a2 t.length cap2)) := Chg.setCell (S := fun b => b = w.heap.size) (Chg.refl _ w') (p := ⟨w.heap.size, 0, none⟩) (.inr rfl) _
      have hJ8 := (hJ.chg2 hc8 (by omega) (fun k hk => by omega)).up (show 0 + n' ≤ 0 + n' + 1 by omega)
      simp only [Nat.zero_add] at hJ8
      simp [Frees, frameOf, Phi, go_sem, e1, y1, y2]
      exact ⟨trivial, hc8, hJ8, box_set x8 _⟩
    · have e1 := SP.eq_elim hd.1
      simp [Frees, frameOf, Phi, go_sem, e1]
      exact ⟨rfl, Chg.refl _ _, hJ.up (by omega)⟩
    · have e1 := SP.eq_elim hd.1
      simp [Frees, frameOf, Phi, go_sem, e1]
      exact ⟨rfl, Chg.refl _ _, hJ.up (by omega)⟩
    · obtain ⟨x, e1, x0, x1⟩ := SP.int_elim hd.1
      simp [Frees, frameOf, Phi, go_sem, e1]
      exact ⟨⟨_, rfl, by omega, by omega⟩, Chg.refl _ _, hJ.up (by omega)⟩
  case hend =>
    intro V w' hc hJ hB hφ
    have hc2 := effT_one (o := .cells #[.slice a2 t.length cap2] 27) tpE_one hc (by simp [tpE])
    have e9 := SP.eq_elim (hφ 15 (by decide))
    have e8 := SP.eq_elim (hφ 16 (by decide))
    obtain ⟨x, e10, x0, x1⟩ := SP.int_elim (hφ 17 (by decide))
    obtain ⟨d1, -⟩ := one_at (hB 14 _ _ rfl)
    have HF := Lib.hid (HT6.out.1.out hc2)
    clear hφ hc hJ hB hc2
    simp [frameOf, Act.put, e8, e9, e10]
    go_wp2_with fail
    refine bodyPost_ret (v := .tuple #[.agg #[.slice a2 t.length cap2], .int .i64 f, .int .i64 p, .int .i64 x]) (by simp [results, Try.results47, go_sem, d1]) rfl ⟨_, t, f, p, x, rfl, HF.out.1, ⟨hf, hp, x0, x1⟩, HF.out.2⟩

def Tab2D (w : World) (e : Ending) (w' : World) : Prop :=
  ∃ v t v2 t2, e = .returned (.tuple #[.agg #[v], .agg #[v2]]) ∧ (RT w' w.heap.size w'.heap.size v t ∧ tsz t ≤ 100) ∧ (RT w' w.heap.size w'.heap.size v2 t2 ∧ tsz t2 ≤ 100) ∧ Below w.heap.size w w'
def GtC (w : World) (L : Nat) (sl : Value) : Prop := ∃ t, RT w L w.heap.size sl t ∧ tsz t ≤ 100
def TcPhi (L : Nat) (rb : Nat) (sl : Value) (i : Nat) (v : Value) (w : World) : Prop :=
  match i with
  | 0 => v = .agg #[sl]
  | 1 => v = .pointer (some ⟨rb, 0, none⟩)
  | 2 => ∃ s, v = .agg #[s] ∧ GtC w L s
  | _ => True
def tcS (rb B : Nat) (j : Nat) (b : Nat) : Prop := (j = 2 ∧ b = rb) ∨ (j = 3 ∧ b = B) ∨ (j = 4 ∧ b = B + 1)
def TcJ (H rb B : Nat) (wo : World) (sl : Value) (D : Nat → Bool) (w' : World) : Prop :=
  Chg (fun b => b = rb ∨ b = B ∨ b = B + 1) wo w' ∧ (D 2 = false → RdLe H w' rb 60) ∧ w'.heap[B]? = some (.cells #[if D 3 = true then sl else .slice none 0 0] 27) ∧
    (D 4 = false → w'.heap[B + 1]? = some (.cells #[.slice none 0 0] 27)) ∧ (D 4 = true → ∃ s, w'.heap[B + 1]? = some (.cells #[s] 27) ∧ GtC w' wo.heap.size s)
theorem GtC.chg {S : Nat → Prop} {w w' : World} {L : Nat} {sl : Value} (h : GtC w L sl) (c : Chg S w w') (hs : ∀ b, L ≤ b → ¬ S b) : GtC w' L sl := by
  obtain ⟨t, h1, h2⟩ := h
  exact ⟨t, (h1.chg c (fun b hb _ => hs b hb)).wide (Nat.le_refl _) c.size, h2⟩
theorem tcJ_pure {H rb B : Nat} {wo : World} {sl : Value} {D : Nat → Bool} {w' : World} {i : Nat} (hi : i ≠ 2 ∧ i ≠ 3 ∧ i ≠ 4) (h : TcJ H rb B wo sl D w') : TcJ H rb B wo sl (fun j => D j || j == i) w' := by
  have e2 : (2 == i) = false := by simpa using fun h => hi.1 h.symm
  have e3 : (3 == i) = false := by simpa using fun h => hi.2.1 h.symm
  have e4 : (4 == i) = false := by simpa using fun h => hi.2.2 h.symm
  unfold TcJ at *
  simp only [e2, e3, e4, Bool.or_false]
  exact h

set_option maxHeartbeats 2000000 in
theorem dTableChanges (w : World) (v : Value) (bs : List Int) (h : RB w 0 w.heap.size v bs) : Calls Try.prog 25 #[v] w (Tab2D w) := by
  obtain ⟨x0, x1⟩ := two_new (w := w) (.cells #[.slice none 0 0] 27) (.cells #[.slice none 0 0] 27) (Below.refl _ _)
  have HB := Lib.hid (h.below (two_below w (.cells #[.slice none 0 0] 27) (.cells #[.slice none 0 0] 27)))
  have HX := Lib.hid (And.intro x0 x1)
  obtain ⟨a, cap, b, off, rfl, -⟩ := h.open
  clear h x0 x1
  go_enter Try.func25, Try.ntmps25
  go_wp2_with fail
  refine (open_any (H := w.heap.size) _ _ bs HB.out (by simp; omega)).mono ?_
  rintro e w1 ⟨rb, rfl, hrb, r1, b1⟩
  have hrb' : w.heap.size + 2 ≤ rb := by simpa using hrb
  have X1 := Lib.hid (And.intro (box_keep HX.out.1 b1) (And.intro (box_keep HX.out.2 b1) (bup2 (two_below w _ _) (b1.mono (by simp)))))
  have R1 := Lib.hid r1
  clear r1 b1 HX hrb
  go_wp2_with fail
  refine (l20Table_any _ rb 0 12 R1.out (by omega) (by omega) (by omega)).mono ?_
  rintro e w2 ⟨v2, t, rfl, o2, ht, r2, c2⟩
  obtain ⟨a2, cap2, b2, off2, rfl, -⟩ := o2.open
  have hl1 := R1.out.lt
  have z2 := c2.size
  have hb := balloc w2 (.cells #[.slice a2 t.length cap2] 27)
  have HT : Hid (RT (w2.alloc (.cells #[.slice a2 t.length cap2] 27)) w1.heap.size w2.heap.size (.slice a2 t.length cap2) t ∧ RdLe w.heap.size (w2.alloc (.cells #[.slice a2 t.length cap2] 27)) rb 60 ∧
      (w2.alloc (.cells #[.slice a2 t.length cap2] 27)).heap[w.heap.size]? = some (.cells #[.slice none 0 0] 27) ∧ (w2.alloc (.cells #[.slice a2 t.length cap2] 27)).heap[w.heap.size + 1]? = some (.cells #[.slice none 0 0] 27) ∧
      (w2.alloc (.cells #[.slice a2 t.length cap2] 27)).heap[w2.heap.size]? = some (.cells #[.slice a2 t.length cap2] 27) ∧ Below w.heap.size w (w2.alloc (.cells #[.slice a2 t.length cap2] 27))) :=
    Lib.hid ⟨o2.below hb, r2.kept hb, box_keep (box_chg X1.out.1 c2 (by omega)) hb, box_keep (box_chg X1.out.2.1 c2 (by omega)) hb, heap_alloc_new _ _, bup (X1.out.2.2.trans (c2.below X1.out.2.2.size (fun k hk he => by omega))) (by omega) hb⟩
  clear o2 r2 c2 hb X1 R1 HB
  go_wp2_with fail
  have zw : (w2.alloc (.cells #[.slice a2 t.length cap2] 27)).heap.size = w2.heap.size + 1 := by simp
  generalize w2.alloc (.cells #[.slice a2 t.length cap2] 27) = wo at HT zw ⊢
  refine wp_region_set (TcJ w.heap.size rb w.heap.size wo (.slice a2 t.length cap2)) (fun j => Chg (tcS rb w.heap.size j)) (TcPhi wo.heap.size rb (.slice a2 t.length cap2)) (fun _ => none) (by kernel_rfl) (by kernel_rfl) ?hS ?h0 ?hop ?hend
  case hS =>
    intro i j v w' w'' _ _ hc h
    unfold TcPhi at *
    split at h
    all_goals first
      | exact h
      | (obtain ⟨s, h1, h2⟩ := h; exact ⟨s, h1, h2.chg hc (fun b hb hs => by unfold tcS at hs; omega)⟩)
  case h0 => exact ⟨(Chg.refl _ _).drew, fun _ => HT.out.2.1.kept (bdrew _), HT.out.2.2.1, fun _ => HT.out.2.2.2.1, fun h => by cases h⟩
  case hop =>
    intro i o hi V D w' hD hcl hJ hd
    have hi' : i = 0 ∨ i = 1 ∨ i = 2 ∨ i = 3 ∨ i = 4 := by
      have := (List.getElem?_eq_some_iff.1 hi).1
      simp at this
      omega
    have hz := hJ.1.size
    rcases hi' with rfl | rfl | rfl | rfl | rfl
    all_goals
      simp at hi
      subst hi
      simp [Region.binds, TcPhi] at hd
    · obtain ⟨y1, -⟩ := one_at (box_chg HT.out.2.2.2.2.1 hJ.1 (by omega))
      simp [Frees, frameOf, go_sem, y1]
      exact ⟨rfl, Chg.refl _ _, tcJ_pure (by decide) hJ⟩
    · simp [Frees, frameOf, go_sem]
      exact ⟨rfl, Chg.refl _ _, tcJ_pure (by decide) hJ⟩
    · simp [Frees, frameOf, go_sem, hd]
      refine (l20Table_any _ rb 60 12 (hJ.2.1 hD) (by omega) (by omega) (by omega)).mono ?_
      rintro e w'' ⟨v2, t2, rfl, o3, ht3, -, c3⟩
      have hD4 : D 4 = false := by
        cases hx : D 4 with
        | false => rfl
        | true => exact absurd (hcl 4 hx _ (List.elem_iff.1 (by kernel_rfl))) (by rw [hD]; decide)
      refine ⟨_, rfl, ⟨v2, rfl, t2, o3.wide hz (Nat.le_refl _), ht3⟩, c3.mono fun k _ hk => .inl ⟨rfl, hk⟩, hJ.1.trans (c3.mono fun k _ hk => .inl hk), fun h => by simp at h, ?_, fun _ => box_chg (hJ.2.2.2.1 hD4) c3 (by omega), fun h => by simp [hD4] at h⟩
      have := box_chg hJ.2.2.1 c3 (by omega)
      simpa using this
    · obtain ⟨d1, d2⟩ := one_at hJ.2.2.1
      rw [hD] at d1
      have hc3 : Chg (fun b => b = w.heap.size) w' (w'.setCell ⟨w.heap.size, 0, none⟩ (.slice a2 t.length cap2)) := Chg.setCell (S := fun b => b = w.heap.size) (Chg.refl _ w') (p := ⟨w.heap.size, 0, none⟩) (.inr rfl) _
      have hD4 : D 4 = false := by
        cases hx : D 4 with
        | false => rfl
        | true => exact absurd (hcl 4 hx _ (List.elem_iff.1 (by kernel_rfl))) (by rw [hD]; decide)
      have hJ3 : TcJ w.heap.size rb w.heap.size wo (.slice a2 t.length cap2) (fun j => D j || j == 3) (w'.setCell ⟨w.heap.size, 0, none⟩ (.slice a2 t.length cap2)) := by
        refine ⟨hJ.1.trans (hc3.mono fun k _ hk => .inr (.inl hk)), fun h => ?_, ?_, fun _ => box_chg (hJ.2.2.2.1 hD4) hc3 (by omega), fun h => by simp [hD4] at h⟩
        · have h2 : D 2 = false := by simpa using h
          exact (hJ.2.1 h2).chg2 hc3 (by omega) (fun k hk => by omega)
        · have := box_set hJ.2.2.1 (.slice a2 t.length cap2)
          simpa using this
      have e0 := hd.1
      simp [Frees, frameOf, go_sem, e0, d1, d2]
      exact ⟨trivial, hc3.mono fun k _ hk => .inr (.inl ⟨rfl, hk⟩), hJ3⟩
    · obtain ⟨d1, d2⟩ := one_at (hJ.2.2.2.1 hD)
      obtain ⟨⟨s, e2, hs⟩, -⟩ := hd
      obtain ⟨t2, hr2, ht2⟩ := hs
      obtain ⟨a3, cap3, b3, off3, rfl, -⟩ := hr2.open
      have hc3 : Chg (fun b => b = w.heap.size + 1) w' (w'.setCell ⟨w.heap.size + 1, 0, none⟩ (.slice a3 t2.length cap3)) := Chg.setCell (S := fun b => b = w.heap.size + 1) (Chg.refl _ w') (p := ⟨w.heap.size + 1, 0, none⟩) (.inr rfl) _
      have hJ3 : TcJ w.heap.size rb w.heap.size wo (.slice a2 t.length cap2) (fun j => D j || j == 4) (w'.setCell ⟨w.heap.size + 1, 0, none⟩ (.slice a3 t2.length cap3)) := by
        refine ⟨hJ.1.trans (hc3.mono fun k _ hk => .inr (.inr hk)), fun h => ?_, ?_, fun h => by simp at h, fun _ => ⟨_, box_set (hJ.2.2.2.1 hD) _, GtC.chg ⟨t2, hr2, ht2⟩ hc3 (fun b hb hs => by omega)⟩⟩
        · have h2 : D 2 = false := by simpa using h
          exact (hJ.2.1 h2).chg2 hc3 (by omega) (fun k hk => by omega)
        · have := box_chg hJ.2.2.1 hc3 (by omega)
          simpa using this
      simp [Frees, frameOf, go_sem, e2, d1, d2]
      exact ⟨trivial, hc3.mono fun k _ hk => .inr (.inr ⟨rfl, hk⟩), hJ3⟩
  case hend =>
    intro V D w5 hD hJ hφ
    have h3 : D 3 = true := hD 3 (by decide)
    obtain ⟨s, y1, t2, hr2, ht2⟩ := hJ.2.2.2.2 (hD 4 (by decide))
    have y0 := hJ.2.2.1
    rw [h3] at y0
    obtain ⟨a3, cap3, b3, off3, rfl, -⟩ := hr2.open
    obtain ⟨d0, -⟩ := one_at y0
    obtain ⟨d1, -⟩ := one_at y1
    have hz := hJ.1.size
    have HF := Lib.hid (And.intro ((HT.out.1.chg hJ.1 (fun b hb hl hs => by omega)).wide (lo' := w.heap.size) (hi' := w5.heap.size) (by omega) (by omega)) (And.intro (hr2.wide (lo' := w.heap.size) (by omega) (Nat.le_refl _)) (HT.out.2.2.2.2.2.trans (hJ.1.below HT.out.2.2.2.2.2.size (fun k hk he => by omega)))))
    simp only [if_true] at d0
    clear hφ hJ y0 y1 hr2
    simp [frameOf, Act.put]
    go_wp2_with fail
    refine bodyPost_ret (v := .tuple #[.agg #[.slice a2 t.length cap2], .agg #[.slice a3 t2.length cap3]]) (by simp [results, Try.results25, go_sem, d0, d1]) rfl ⟨_, t, _, t2, rfl, ⟨HF.out.1, ht⟩, ⟨HF.out.2.1, ht2⟩, HF.out.2.2⟩

end Go.Proofs.Ythpcgdkhipcieaa
