/-
  The draws of small values.
-/
import Derived.Test.YtcjnbjbiiadieaaRd
import Derived.Test.YtcjnbjbiiadieaaSml
namespace Go.Proofs.Ytcjnbjbiiadieaa
open Go.RowKit

def SmallRel (w : World) (rb q : Nat) (v i : Value) (wr : World) : Prop :=
  ∃ (j : Nat) (xs : List Int), i = .int .i64 j ∧ j + xs.length ≤ 4 ∧ (OI wr w.heap.size v xs ∧ v ≠ .slice none 0 0) ∧ RdLe wr rb (q + 1 + xs.length) ∧ Chg (· = rb) w wr

/-- Some values were drawn. -/
def SmallR (w : World) (rb q : Nat) (e : Ending) (w' : World) : Prop :=
  ∃ (v : Value) (xs : List Int), e = .returned v ∧ xs.length ≤ 5 ∧ (OI w' w.heap.size v xs ∧ v ≠ .slice none 0 0) ∧ RdLe w' rb (q + 8) ∧ Chg (· = rb) w w'

set_option maxHeartbeats 1000000 in
theorem l20Small_any (w : World) (rb q : Nat) (m : Int) (hr : RdLe w rb q) (hq : q ≤ 900000) (hm1 : 0 ≤ m) (hm : m ≤ 1000000) :
    Calls Try.prog 44 #[.pointer (some ⟨rb, 0, none⟩), .int .i64 m] w (SmallR w rb q) := by
  have hrl := hr.lt
  have H := Lib.hid hr
  clear hr
  go_enter Try.func44, Try.ntmps44
  go_wp2_with fail
  refine (pick_le _ rb q 5 (H.out.kept ((Below.refl _ _).alloc (Nat.le_refl _) _)) (by omega) (by omega) (by omega)).mono ?_
  rintro e w1 ⟨k, rfl, k0, k1, r1, c1, -⟩
  obtain ⟨n, rfl⟩ := Int.eq_ofNat_of_zero_le k0
  have HS : Hid (SmallRel w rb q (.slice (some ⟨w.heap.size, 0, none⟩) 0 0) (.int .i64 n) w1) := by
    refine ⟨n, [], rfl, by simp; omega, ⟨⟨?_, fun x hx => by simp at hx⟩, by simp⟩, r1, ((Chg.refl _ w).alloc _).trans c1⟩
    exact own_chg (World.ownsRow_lit w #[] 0 (Nat.le_refl _) (by decide) rfl) c1 (fun b hb he => by show ¬ b = rb; omega)
  clear r1 c1
  go_wp2_with fail
  go_loopw [5, 6] (SmallRel w rb q) (fun _ i _ => (intOf i).toNat)
  case atStart => exact HS.out
  case round =>
    obtain ⟨j, xs, rfl, hj, ⟨o1, hnn⟩, r1, c1⟩ := hrel
    have HNN := Lib.hid hnn
    clear hnn
    have O1 := Lib.hid (And.intro o1 (And.intro r1 c1))
    have z1 := c1.size
    clear HS o1 r1 c1
    rcases j with _ | j
    · go_wp2_with fail
      refine (odd_le _ rb _ m O1.out.2.1 (by omega) hm1 hm).mono ?_
      rintro e w2 ⟨b, rfl, r2, c2, -⟩
      have c02 := O1.out.2.2.trans c2
      have o2 := O1.out.1.chg c2 (fun b hb he => by show ¬ b = rb; omega)
      have z2 := c02.size
      have O2 := Lib.hid (And.intro o2 (And.intro r2 c02))
      clear r2 c2 c02 o2
      cases b
      · go_wp2_with fail
        go_ret
        exact ⟨_, xs, rfl, by omega, ⟨O2.out.1, HNN.out⟩, O2.out.2.1.up (by omega), O2.out.2.2⟩
      · go_wp2_with fail
        refine (pick_le _ rb _ 3 (O2.out.2.1.kept ((Below.refl _ _).alloc (Nat.le_refl _) _)) (by omega) (by omega) (by omega)).mono ?_
        rintro e w3 ⟨k, rfl, k0, k1, r3, c3, -⟩
        obtain ⟨n, rfl⟩ := Int.eq_ofNat_of_zero_le k0
        have hk : ∃ x : Int, w3.cell? ⟨w2.heap.size, n, none⟩ = some (.int .i64 x) ∧ -1 ≤ x ∧ x ≤ 16 := by
          have hn : n = 0 ∨ n = 1 ∨ n = 2 := by omega
          rcases hn with rfl | rfl | rfl
          all_goals exact ⟨_, lit_cell c3 (by show ¬ w2.heap.size = rb; omega) rfl, by decide, by decide⟩
        obtain ⟨x, hk, hx0, hx1⟩ := hk
        have c03 := (O2.out.2.2.alloc _).trans c3
        have o3 := (O2.out.1.below ((Below.refl _ _).alloc (Nat.le_refl _) _)).chg c3 (fun b hb he => by show ¬ b = rb; omega)
        have z3 := c03.size
        have O3 := Lib.hid (And.intro o3 (And.intro r3 c03))
        clear r3 c3 c03 o3
        go_wp2_with (at_builtin; refine ap1_int rfl _ _ rfl w.heap.size u5 xs x rfl O3.out.1 rfl (by omega) z3 (by unfold I64; omega) ?_; intro v' w4 o4 c4)
        have HF := Lib.hid (And.intro (O3.out.2.1.chg c4 (fun k hk h => by omega)) (O3.out.2.2.own c4))
        clear c4
        go_ret
        exact ⟨_, xs ++ [x], rfl, by simp; omega, o4, HF.out.1.up (by omega), HF.out.2⟩
    · have hl : xs.length ≤ 3 := by omega
      go_wp2_with fail
      refine (pick_le _ rb _ 16 O1.out.2.1 (by omega) (by omega) (by omega)).mono ?_
      rintro e w2 ⟨k, rfl, k0, k1, r2, c2, -⟩
      have c02 := O1.out.2.2.trans c2
      have o2 := O1.out.1.chg c2 (fun b hb he => by show ¬ b = rb; omega)
      have z2 := c02.size
      have O2 := Lib.hid (And.intro o2 (And.intro r2 c02))
      clear r2 c2 c02 o2
      go_wp2_with (at_builtin; refine ap1_int rfl _ _ rfl w.heap.size u5 xs k rfl O2.out.1 rfl (by omega) z2 (by unfold I64; omega) ?_; intro v' w4 o4 c4)
      have HF : Hid (SmallRel w rb q v' (.int .i64 j) w4) := by
        refine ⟨j, xs ++ [k], rfl, by simp; omega, o4, ?_, O2.out.2.2.own c4⟩
        exact (O2.out.2.1.chg c4 (fun k hk h => by omega)).up (by simp; omega)
      clear o4 c4
      go_roundw
      case rel => first | exact HF.out | exact ⟨_, _, HF.out, rfl, by go_num⟩
      case measure => simp [intOf]; try omega
/-- Values, out of a code. -/
def SmallD (w : World) (e : Ending) (w' : World) : Prop := ∃ (v : Value) (xs : List Int), e = .returned v ∧ xs.length ≤ 5 ∧ (OI w' w.heap.size v xs ∧ v ≠ .slice none 0 0) ∧ Below w.heap.size w w'

theorem drawSmallFits (w : World) (v : Value) (bs : List Int) (h : RB w 0 w.heap.size v bs) : Calls Try.prog 26 #[v] w (SmallD w) := by
  have H := Lib.hid h
  obtain ⟨a, cap, b, off, rfl, -⟩ := h.open
  clear h
  go_enter Try.func26, Try.ntmps26
  go_wp2_with fail
  refine (open_any _ _ bs H.out).mono ?_
  rintro e w1 ⟨rb, rfl, hrb, r1, b1⟩
  have H1 := Lib.hid (And.intro r1 b1)
  have z1 := b1.size
  clear r1 b1
  go_wp2_with fail
  refine (l20Small_any _ rb 0 _ H1.out.1 (by omega) (by omega) (by omega)).mono ?_
  rintro e w2 ⟨v2, xs, rfl, hl, ⟨o2, hnn⟩, r2, c2⟩
  have HF : Hid ((OI w2 w.heap.size v2 xs ∧ v2 ≠ .slice none 0 0) ∧ Below w.heap.size w w2) := ⟨⟨⟨own_wide o2.1 z1, o2.2⟩, hnn⟩, H1.out.2.trans (c2.below z1 (fun k hk he => by subst he; omega))⟩
  clear o2 r2 c2 hnn
  go_wp2_with fail
  go_ret
  exact ⟨v2, xs, rfl, hl, HF.out⟩


theorem drawPackSmall (w : World) (v : Value) (bs : List Int) (h : RB w 0 w.heap.size v bs) : Calls Try.prog 32 #[v] w (SmallD w) := by
  have H := Lib.hid h
  obtain ⟨a, cap, b, off, rfl, -⟩ := h.open
  clear h
  go_enter Try.func32, Try.ntmps32
  go_wp2_with fail
  refine (open_any _ _ bs H.out).mono ?_
  rintro e w1 ⟨rb, rfl, hrb, r1, b1⟩
  have H1 := Lib.hid (And.intro r1 b1)
  have z1 := b1.size
  clear r1 b1
  go_wp2_with fail
  refine (l20Small_any _ rb 0 _ H1.out.1 (by omega) (by omega) (by omega)).mono ?_
  rintro e w2 ⟨v2, xs, rfl, hl, ⟨o2, hnn⟩, r2, c2⟩
  have HF : Hid ((OI w2 w.heap.size v2 xs ∧ v2 ≠ .slice none 0 0) ∧ Below w.heap.size w w2) := ⟨⟨⟨own_wide o2.1 z1, o2.2⟩, hnn⟩, H1.out.2.trans (c2.below z1 (fun k hk he => by subst he; omega))⟩
  clear o2 r2 c2 hnn
  go_wp2_with fail
  go_ret
  exact ⟨v2, xs, rfl, hl, HF.out⟩


theorem pack_bd (xs : List Int) : -1 ≤ pack xs ∧ pack xs ≤ 400000 := by
  unfold pack
  split
  · rename_i hf
    have hl := fits_len hf
    have ha := fits_at hf
    match xs, hl, ha with
    | [], _, _ => simp
    | [a], _, ha => have := ha 0 (by simp); simp [packF] at *; omega
    | [a, b], _, ha => have := ha 0 (by simp); have := ha 1 (by simp); simp [packF] at *; omega
    | [a, b, c], _, ha => have := ha 0 (by simp); have := ha 1 (by simp); have := ha 2 (by simp); simp [packF] at *; omega
    | [a, b, c, d], _, ha => have := ha 0 (by simp); have := ha 1 (by simp); have := ha 2 (by simp); have := ha 3 (by simp); simp [packF] at *; omega
  · omega

/-- A number, out of a code. -/
def NumD (w : World) (e : Ending) (w' : World) : Prop := ∃ n : Int, e = .returned (.int .i64 n) ∧ I64 n ∧ Below w.heap.size w w'

set_option maxHeartbeats 1000000 in
theorem dUnpackSmall (w : World) (v : Value) (bs : List Int) (h : RB w 0 w.heap.size v bs) : Calls Try.prog 38 #[v] w (NumD w) := by
  have H := Lib.hid h
  obtain ⟨a, cap, b, off, rfl, -⟩ := h.open
  clear h
  go_enter Try.func38, Try.ntmps38
  go_wp2_with fail
  refine (open_any _ _ bs H.out).mono ?_
  rintro e w1 ⟨rb, rfl, hrb, r1, b1⟩
  have H1 := Lib.hid (And.intro r1 b1)
  have z1 := b1.size
  clear r1 b1
  go_wp2_with fail
  refine (l20Small_any _ rb 0 _ H1.out.1 (by omega) (by omega) (by omega)).mono ?_
  rintro e w2 ⟨v2, xs, rfl, hl, ⟨o2, hnn⟩, r2, c2⟩
  have c02 := H1.out.2.trans (c2.below z1 (fun k hk he => by subst he; omega))
  have z2 := c02.size
  have H2 := Lib.hid (And.intro o2 (And.intro r2 c02))
  have zz := c2.size
  have hlt := H1.out.1.lt
  clear o2 r2 c2 c02 hnn
  have hp := pack_bd xs
  go_wp2_with fail
  refine (specPack_any v2 xs _ _ _ H2.out.1.ri).mono ?_
  rintro e w' ⟨rfl, rfl⟩
  obtain ⟨n, hn⟩ : ∃ n, n = pack xs := ⟨_, rfl⟩
  rw [← hn] at hp ⊢
  clear hn
  go_wp2_with fail
  refine (pick_le _ rb _ 256 H2.out.2.1 (by omega) (by omega) (by omega)).mono ?_
  rintro e w3 ⟨k, rfl, k0, k1, r3, c3, -⟩
  have b3 := H2.out.2.2.trans (c3.below z2 (fun k hk he => by subst he; omega))
  have z3 := b3.size
  have hlt3 := r3.lt
  have H3 := Lib.hid (And.intro r3 b3)
  clear r3 b3 c3
  go_wp2_with fail
  refine (pick_le _ rb _ 8 (H3.out.1.kept (((Below.refl _ _).alloc (Nat.le_refl _) _).alloc (by simp) _)) (by omega) (by omega) (by omega)).mono ?_
  rintro e w4 ⟨k', rfl, k0', k1', r4, c4, -⟩
  obtain ⟨i, rfl⟩ := Int.eq_ofNat_of_zero_le k0'
  have hj : ∃ j : Nat, w4.cell? ⟨w3.heap.size + 1, i, none⟩ = some (.int .i64 j) ∧ j < 6 := by
    have hi : i = 0 ∨ i = 1 ∨ i = 2 ∨ i = 3 ∨ i = 4 ∨ i = 5 ∨ i = 6 ∨ i = 7 := by omega
    have hz : (w3.alloc (.cells #[.int .i64 n, .int .i64 (n + 1), .int .i64 (n - 16), .int .i64 k, .int .i64 (-1), .int .i64 327680] 3)).heap.size = w3.heap.size + 1 := by simp
    rw [← hz]
    rcases hi with rfl | rfl | rfl | rfl | rfl | rfl | rfl | rfl
    · exact ⟨0, lit_cell c4 (by rw [hz]; show ¬ w3.heap.size + 1 = rb; omega) rfl, by decide⟩
    · exact ⟨0, lit_cell c4 (by rw [hz]; show ¬ w3.heap.size + 1 = rb; omega) rfl, by decide⟩
    · exact ⟨0, lit_cell c4 (by rw [hz]; show ¬ w3.heap.size + 1 = rb; omega) rfl, by decide⟩
    · exact ⟨1, lit_cell c4 (by rw [hz]; show ¬ w3.heap.size + 1 = rb; omega) rfl, by decide⟩
    · exact ⟨2, lit_cell c4 (by rw [hz]; show ¬ w3.heap.size + 1 = rb; omega) rfl, by decide⟩
    · exact ⟨3, lit_cell c4 (by rw [hz]; show ¬ w3.heap.size + 1 = rb; omega) rfl, by decide⟩
    · exact ⟨4, lit_cell c4 (by rw [hz]; show ¬ w3.heap.size + 1 = rb; omega) rfl, by decide⟩
    · exact ⟨5, lit_cell c4 (by rw [hz]; show ¬ w3.heap.size + 1 = rb; omega) rfl, by decide⟩
  obtain ⟨j, hj, hj6⟩ := hj
  have hx : ∃ x : Int, w4.cell? ⟨w3.heap.size, j, none⟩ = some (.int .i64 x) ∧ -20 ≤ x ∧ x ≤ 500000 := by
    have hi : j = 0 ∨ j = 1 ∨ j = 2 ∨ j = 3 ∨ j = 4 ∨ j = 5 := by omega
    rcases hi with rfl | rfl | rfl | rfl | rfl | rfl
    all_goals exact ⟨_, lit_cell2 c4 (by show ¬ w3.heap.size = rb; omega) rfl, by omega, by omega⟩
  obtain ⟨x, hx, hx0, hx1⟩ := hx
  have b4 := H3.out.2.trans (((Below.refl _ _).alloc z3 _).alloc (by simp; omega) _ |>.trans (c4.below (by simp; omega) (fun k hk he => by subst he; omega)))
  have HF := Lib.hid b4
  clear b4 c4 r4
  go_wp2_with fail
  go_ret
  exact ⟨x, rfl, by unfold I64; omega, HF.out⟩
end Go.Proofs.Ytcjnbjbiiadieaa
