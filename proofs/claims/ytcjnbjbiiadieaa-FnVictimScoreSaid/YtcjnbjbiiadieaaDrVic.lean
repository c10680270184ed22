/-
  The draw of VictimScore's arguments.
-/
import Derived.Test.YtcjnbjbiiadieaaRd
import Derived.Test.YtcjnbjbiiadieaaInts
import Derived.Test.YtcjnbjbiiadieaaFree
namespace Go.Proofs.Ytcjnbjbiiadieaa
open Go.RowKit

/-- Two numbers, out of a code. -/
def Num2D (w : World) (e : Ending) (w' : World) : Prop := ∃ n m : Int, e = .returned (.tuple #[.int .i64 n, .int .i64 m]) ∧ I64 n ∧ I64 m ∧ Below w.heap.size w w'

set_option maxHeartbeats 400000 in
theorem dVictimScore (w : World) (v : Value) (bs : List Int) (h : RB w 0 w.heap.size v bs) : Calls Try.prog 17 #[v] w (Num2D w) := by
  have H := Lib.hid h
  obtain ⟨a, cap, b, off, rfl, -⟩ := h.open
  clear h
  go_enter Try.func17, Try.ntmps17
  go_wp2_with fail
  refine (open_any _ _ bs H.out).mono ?_
  rintro e w1 ⟨rb, rfl, hrb, r1, b1⟩
  have H1 := Lib.hid (And.intro r1 b1)
  have z1 := b1.size
  have hlt1 := r1.lt
  clear r1 b1
  go_wp2_with fail
  refine (pick_le _ rb 0 6 H1.out.1 (by omega) (by omega) (by omega)).mono ?_
  rintro e w2 ⟨k, rfl, k0, k1, r2, c2, -⟩
  have b2 := H1.out.2.trans (c2.below z1 (fun k hk he => by subst he; omega))
  have H2 := Lib.hid (And.intro r2 b2)
  have z2 := b2.size
  have hlt2 := r2.lt
  clear r2 b2 c2
  go_wp2_with fail
  refine (pick_le _ rb _ 14 H2.out.1 (by omega) (by omega) (by omega)).mono ?_
  rintro e w3 ⟨k', rfl, k0', k1', r3, c3, -⟩
  have b3 := H2.out.2.trans (c3.below z2 (fun k hk he => by subst he; omega))
  have H3 := Lib.hid (And.intro r3 b3)
  have z3 := b3.size
  have hlt3 := r3.lt
  clear r3 b3 c3
  have hdv : 0 ≤ k' / 13 ∧ k' / 13 ≤ 1 := by omega
  go_wp2_with fail
  refine wp_region_sp (T := (· = rb)) [.int (-10) 10, .eq (.pointer (some ⟨rb, 0, none⟩)), .int 0 255, .lit 4 (-1) 1000001, .lit 7 0 3, .eq (.pointer (some ⟨rb, 0, none⟩)), .int 0 6, .ptr 0 3, .int 0 3, .ptr (-1) 1000001, .int (-1) 1000001, .int (-10) 10, .int (-1) 1000001] (fun k w' => RdLe w' rb (2 + k)) (by kernel_rfl) (by kernel_rfl) ?h0 ?hop ?hend
  case h0 => exact H3.out.1.kept (Below.refl _ _).drew
  case hop =>
    intro i o hi V n w' hn hc hJ hd
    simp only [List.length_cons, List.length_nil] at hn
    have hi' : i = 0 ∨ i = 1 ∨ i = 2 ∨ i = 3 ∨ i = 4 ∨ i = 5 ∨ i = 6 ∨ i = 7 ∨ i = 8 ∨ i = 9 ∨ i = 10 ∨ i = 11 ∨ i = 12 := by
      have := (List.getElem?_eq_some_iff.1 hi).1
      simp at this
      omega
    have hz := hc.size
    rcases hi' with rfl | rfl | rfl | rfl | rfl | rfl | rfl | rfl | rfl | rfl | rfl | rfl | rfl
    all_goals
      simp at hi
      subst hi
      simp [Region.binds, Phi] at hd
    · simp [Frees, frameOf, Phi, go_sem]
      exact ⟨⟨_, rfl, by omega, by omega⟩, Chg.refl _ _, hJ.up (by omega)⟩
    · simp [Frees, frameOf, Phi, go_sem]
      exact ⟨rfl, Chg.refl _ _, hJ.up (by omega)⟩
    · have e1 : V 1 = .pointer (some ⟨rb, 0, none⟩) := hd
      simp [Frees, frameOf, Phi, go_sem, e1]
      refine (pick_le _ rb _ 256 hJ (by omega) (by omega) (by omega)).mono ?_
      rintro e w'' ⟨x, rfl, x0, x1, r, c, -⟩
      exact ⟨_, rfl, ⟨x, rfl, x0, by omega⟩, c, r.up (by omega)⟩
    · obtain ⟨x, hx, x0, x1⟩ := hd
      simp [Frees, frameOf, Phi, go_sem, hx]
      refine ⟨⟨w'.heap.size, rfl, by omega, fun j hj => ?_⟩, (Chg.refl _ _).alloc _, (hJ.kept ((Below.refl _ _).alloc (Nat.le_refl _) _)).up (by omega)⟩
      have hj' : j = 0 ∨ j = 1 ∨ j = 2 ∨ j = 3 := by omega
      rcases hj' with rfl | rfl | rfl | rfl
      all_goals exact ⟨_, lit_cell (Chg.refl (fun _ => False) _) (fun h => h) rfl, by omega, by omega⟩
    · simp [Frees, frameOf, Phi, go_sem]
      refine ⟨⟨w'.heap.size, rfl, by omega, fun j hj => ?_⟩, (Chg.refl _ _).alloc _, (hJ.kept ((Below.refl _ _).alloc (Nat.le_refl _) _)).up (by omega)⟩
      have hj' : j = 0 ∨ j = 1 ∨ j = 2 ∨ j = 3 ∨ j = 4 ∨ j = 5 ∨ j = 6 := by omega
      rcases hj' with rfl | rfl | rfl | rfl | rfl | rfl | rfl
      all_goals exact ⟨_, lit_cell (Chg.refl (fun _ => False) _) (fun h => h) rfl, by omega, by omega⟩
    · simp [Frees, frameOf, Phi, go_sem]
      exact ⟨rfl, Chg.refl _ _, hJ.up (by omega)⟩
    · have e1 : V 5 = .pointer (some ⟨rb, 0, none⟩) := hd.1
      simp [Frees, frameOf, Phi, go_sem, e1]
      refine (pick_le _ rb _ 7 hJ (by omega) (by omega) (by omega)).mono ?_
      rintro e w'' ⟨x, rfl, x0, x1, r, c, -⟩
      exact ⟨_, rfl, ⟨x, rfl, x0, by omega⟩, c, r.up (by omega)⟩
    · obtain ⟨g, e4, g1, g2⟩ := SP.lit_elim hd.1
      obtain ⟨x, e6, x0, x1⟩ := SP.int_elim hd.2
      obtain ⟨j, rfl⟩ := Int.eq_ofNat_of_zero_le x0
      have hj7 : (j : Int) < 7 := by omega
      simp [Frees, frameOf, Phi, go_sem, e4, e6, hj7]
      exact ⟨⟨g, j, rfl, g1, g2 j (by omega)⟩, Chg.refl _ _, hJ.up (by omega)⟩
    · obtain ⟨g, j, e7, g1, x, hx, x0, x1⟩ := SP.ptr_elim hd
      simp [Frees, frameOf, Phi, go_sem, e7, hx]
      exact ⟨⟨x, rfl, x0, x1⟩, Chg.refl _ _, hJ.up (by omega)⟩
    · obtain ⟨g, e4, g1, g2⟩ := SP.lit_elim hd.1
      obtain ⟨x, e6, x0, x1⟩ := SP.int_elim hd.2
      obtain ⟨j, rfl⟩ := Int.eq_ofNat_of_zero_le x0
      have hj7 : (j : Int) < 4 := by omega
      simp [Frees, frameOf, Phi, go_sem, e4, e6, hj7]
      exact ⟨⟨g, j, rfl, g1, g2 j (by omega)⟩, Chg.refl _ _, hJ.up (by omega)⟩
    · obtain ⟨g, j, e7, g1, x, hx, x0, x1⟩ := SP.ptr_elim hd
      simp [Frees, frameOf, Phi, go_sem, e7, hx]
      exact ⟨⟨x, rfl, x0, x1⟩, Chg.refl _ _, hJ.up (by omega)⟩
    · obtain ⟨x, e0, x0, x1⟩ := SP.int_elim hd.1
      simp [Frees, frameOf, Phi, go_sem, e0]
      exact ⟨⟨x, rfl, x0, x1⟩, Chg.refl _ _, hJ.up (by omega)⟩
    · obtain ⟨x, e0, x0, x1⟩ := SP.int_elim hd.1
      simp [Frees, frameOf, Phi, go_sem, e0]
      exact ⟨⟨x, rfl, x0, x1⟩, Chg.refl _ _, hJ.up (by omega)⟩
  case hend =>
    intro V n w' hn hc hJ hφ
    obtain ⟨x, e0, x0, x1⟩ := SP.int_elim (hφ 11 (by decide))
    obtain ⟨y, e10, y0, y1⟩ := SP.int_elim (hφ 12 (by decide))
    have HF := Lib.hid (H3.out.2.trans (hc.below z3 (fun k hk he => by subst he; omega)))
    clear hφ hc hJ
    simp [frameOf, Act.put, e0, e10]
    go_wp2
    go_ret2
    exact ⟨x, y, rfl, by unfold I64; omega, by unfold I64; omega, HF.out⟩
end Go.Proofs.Ytcjnbjbiiadieaa
