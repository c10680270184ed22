/-
  The draws of the laws over extents.
-/
import Derived.Test.YtepgakaccgnebaaNbr
namespace Go.Proofs.Ytepgakaccgnebaa
open Go.RowKit

/-- Extents, out of a code. -/
def ExtD (w : World) (e : Ending) (w' : World) : Prop := ∃ (v : Value) (xs : List (Int × Int)), e = .returned v ∧ xs.length ≤ 9 ∧ (OX w' w.heap.size v xs ∧ v ≠ .slice none 0 0) ∧ Below w.heap.size w w'
def ExtAtD (w : World) (e : Ending) (w' : World) : Prop := ∃ (v : Value) (xs : List (Int × Int)) (n : Int), e = .returned (.tuple #[v, .int .i64 n]) ∧ xs.length ≤ 9 ∧ I64 n ∧ OX w' w.heap.size v xs ∧ Below w.heap.size w w'
def NbrD (w : World) (e : Ending) (w' : World) : Prop := ∃ (v : Value) (xs : List Int), e = .returned v ∧ xs.length ≤ 14 ∧ OI w' w.heap.size v xs ∧ Below w.heap.size w w'

theorem drawExtentsValid (w : World) (v : Value) (bs : List Int) (h : RB w 0 w.heap.size v bs) : Calls Try.prog 16 #[v] w (ExtD w) := by
  have H := Lib.hid h
  obtain ⟨a, cap, b, off, rfl, -⟩ := h.open
  clear h
  go_enter Try.func16, Try.ntmps16
  go_wp2_with fail
  refine (open_any _ _ bs H.out).mono ?_
  rintro e w1 ⟨rb, rfl, hrb, r1, b1⟩
  have H1 := Lib.hid (And.intro r1 b1)
  have z1 := b1.size
  clear r1 b1
  go_wp2_with fail
  refine (l20Extents_any _ rb 0 _ H1.out.1 (by omega) (by omega) (by omega)).mono ?_
  rintro e w2 ⟨v2, xs, rfl, hl, ⟨o2, hnn⟩, r2, c2⟩
  have HF : Hid ((OX w2 w.heap.size v2 xs ∧ v2 ≠ .slice none 0 0) ∧ Below w.heap.size w w2) := ⟨⟨o2.wide z1, hnn⟩, H1.out.2.trans (c2.below z1 (fun k hk he => by subst he; omega))⟩
  clear o2 r2 c2 hnn
  go_wp2_with fail
  go_ret
  exact ⟨v2, xs, rfl, hl, HF.out⟩

theorem drawExtentsList (w : World) (v : Value) (bs : List Int) (h : RB w 0 w.heap.size v bs) : Calls Try.prog 27 #[v] w (ExtD w) := by
  have H := Lib.hid h
  obtain ⟨a, cap, b, off, rfl, -⟩ := h.open
  clear h
  go_enter Try.func27, Try.ntmps27
  go_wp2_with fail
  refine (open_any _ _ bs H.out).mono ?_
  rintro e w1 ⟨rb, rfl, hrb, r1, b1⟩
  have H1 := Lib.hid (And.intro r1 b1)
  have z1 := b1.size
  clear r1 b1
  go_wp2_with fail
  refine (l20Extents_any _ rb 0 _ H1.out.1 (by omega) (by omega) (by omega)).mono ?_
  rintro e w2 ⟨v2, xs, rfl, hl, ⟨o2, hnn⟩, r2, c2⟩
  have HF : Hid ((OX w2 w.heap.size v2 xs ∧ v2 ≠ .slice none 0 0) ∧ Below w.heap.size w w2) := ⟨⟨o2.wide z1, hnn⟩, H1.out.2.trans (c2.below z1 (fun k hk he => by subst he; omega))⟩
  clear o2 r2 c2 hnn
  go_wp2_with fail
  go_ret
  exact ⟨v2, xs, rfl, hl, HF.out⟩

theorem drawExtentsOf (w : World) (v : Value) (bs : List Int) (h : RB w 0 w.heap.size v bs) : Calls Try.prog 34 #[v] w (NbrD w) := by
  have H := Lib.hid h
  obtain ⟨a, cap, b, off, rfl, -⟩ := h.open
  clear h
  go_enter Try.func34, Try.ntmps34
  go_wp2_with fail
  refine (open_any _ _ bs H.out).mono ?_
  rintro e w1 ⟨rb, rfl, hrb, r1, b1⟩
  have H1 := Lib.hid (And.intro r1 b1)
  have z1 := b1.size
  clear r1 b1
  go_wp2_with fail
  refine (l20Numbers_any _ rb 0 _ H1.out.1 (by omega) (by omega) (by omega)).mono ?_
  rintro e w2 ⟨v2, xs, rfl, hl, ⟨o2, -⟩, r2, c2⟩
  have HF : Hid (OI w2 w.heap.size v2 xs ∧ Below w.heap.size w w2) := ⟨⟨own_wide o2.1 z1, o2.2⟩, H1.out.2.trans (c2.below z1 (fun k hk he => by subst he; omega))⟩
  clear o2 r2 c2
  go_wp2_with fail
  go_ret
  exact ⟨v2, xs, rfl, hl, HF.out⟩

set_option maxHeartbeats 400000 in
theorem drawExtentAt (w : World) (v : Value) (bs : List Int) (h : RB w 0 w.heap.size v bs) : Calls Try.prog 20 #[v] w (ExtAtD w) := by
  have H := Lib.hid h
  obtain ⟨a, cap, b, off, rfl, -⟩ := h.open
  clear h
  go_enter Try.func20, Try.ntmps20
  go_wp2_with fail
  refine (open_any _ _ bs H.out).mono ?_
  rintro e w1 ⟨rb, rfl, hrb, r1, b1⟩
  have H1 := Lib.hid (And.intro r1 b1)
  have z1 := b1.size
  clear r1 b1
  go_wp2_with fail
  refine (l20Extents_any _ rb 0 _ H1.out.1 (by omega) (by omega) (by omega)).mono ?_
  rintro e w2 ⟨v2, xs, rfl, hl, ⟨o2, -⟩, r2, c2⟩
  have z2 := c2.size
  have H2 := Lib.hid (And.intro o2 (And.intro r2 (H1.out.2.trans (c2.below z1 (fun k hk he => by subst he; omega)))))
  clear o2 r2 c2
  have hlt := H1.out.1.lt
  go_wp2_with fail
  refine (pick_le _ rb _ 16 H2.out.2.1 (by omega) (by omega) (by omega)).mono ?_
  rintro e w3 ⟨k, rfl, k0, k1, r3, c3, -⟩
  have z3 := c3.size
  have H3 := Lib.hid (And.intro (H2.out.1.chg c3 (fun b hb he => by show ¬ b = rb; omega)) (And.intro r3 (H2.out.2.2.trans (c3.below H2.out.2.2.size (fun k hk he => by subst he; omega)))))
  clear r3 c3
  go_wp2_with fail
  refine (pick_le _ rb _ 14 H3.out.2.1 (by omega) (by omega) (by omega)).mono ?_
  rintro e w4 ⟨k', rfl, k0', k1', r4, c4, -⟩
  have H4 := Lib.hid (And.intro (H3.out.1.chg c4 (fun b hb he => by show ¬ b = rb; omega)) (H3.out.2.2.trans (c4.below H3.out.2.2.size (fun k hk he => by subst he; omega))))
  clear r4 c4
  go_wp2_with fail
  go_ret2
  exact ⟨v2, xs, _, rfl, hl, by unfold I64; omega, H4.out.1.wide z1, H4.out.2⟩

end Go.Proofs.Ytepgakaccgnebaa
