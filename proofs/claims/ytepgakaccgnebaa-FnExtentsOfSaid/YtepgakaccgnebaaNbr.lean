/-
  The draws of numbers and of extents.
-/
import Derived.Test.YtepgakaccgnebaaRd
import Derived.Test.YtepgakaccgnebaaExq
namespace Go.Proofs.Ytepgakaccgnebaa
open Go.RowKit

def NbrRel (w : World) (rb q : Nat) (v n i : Value) (wr : World) : Prop :=
  ∃ (j : Nat) (x : Int) (xs : List Int), n = .int .i64 x ∧ i = .int .i64 j ∧ j + xs.length ≤ 13 ∧ 0 ≤ x ∧ x ≤ 60 + xs.length ∧ (OI wr w.heap.size v xs ∧ v ≠ .slice none 0 0) ∧ RdLe wr rb (q + 2 + 2 * xs.length) ∧ Chg (· = rb) w wr

/-- Some numbers were drawn. -/
def NbrR (w : World) (rb q : Nat) (e : Ending) (w' : World) : Prop :=
  ∃ (v : Value) (xs : List Int), e = .returned v ∧ xs.length ≤ 14 ∧ (OI w' w.heap.size v xs ∧ v ≠ .slice none 0 0) ∧ RdLe w' rb (q + 40) ∧ Chg (· = rb) w w'

set_option maxHeartbeats 1000000 in
theorem l20Numbers_any (w : World) (rb q : Nat) (m : Int) (hr : RdLe w rb q) (hq : q ≤ 900000) (hm1 : 0 ≤ m) (hm : m ≤ 1000000) :
    Calls Try.prog 42 #[.pointer (some ⟨rb, 0, none⟩), .int .i64 m] w (NbrR w rb q) := by
  have hrl := hr.lt
  have H := Lib.hid hr
  clear hr
  go_enter Try.func42, Try.ntmps42
  go_wp2_with fail
  refine (pick_le _ rb q 20 (H.out.kept ((Below.refl _ _).alloc (Nat.le_refl _) _)) (by omega) (by omega) (by omega)).mono ?_
  rintro e w0 ⟨x0, rfl, y0, y1, r0, c0, -⟩
  have R0 := Lib.hid (And.intro r0 c0)
  clear r0 c0
  go_wp2_with fail
  refine (pick_le _ rb _ 14 R0.out.1 (by omega) (by omega) (by omega)).mono ?_
  rintro e w1 ⟨k, rfl, k0, k1, r1, c1, -⟩
  obtain ⟨n, rfl⟩ := Int.eq_ofNat_of_zero_le k0
  have HS : Hid (NbrRel w rb q (.slice (some ⟨w.heap.size, 0, none⟩) 0 0) (.int .i64 x0) (.int .i64 n) w1) := by
    have c01 := R0.out.2.trans c1
    refine ⟨n, x0, [], rfl, rfl, by simp; omega, by omega, by simp; omega, ⟨⟨?_, fun x hx => by simp at hx⟩, by simp⟩, r1, ((Chg.refl _ w).alloc _).trans c01⟩
    exact own_chg (World.ownsRow_lit w #[] 0 (Nat.le_refl _) (by decide) rfl) c01 (fun b hb he => by show ¬ b = rb; omega)
  clear r1 c1
  go_wp2_with fail
  go_loopw [5, 6, 7] (NbrRel w rb q) (fun _ _ i _ => (intOf i).toNat)
  case atStart => exact HS.out
  case round =>
    obtain ⟨j, x, xs, rfl, rfl, hj, hx0, hx1, ⟨o1, hnn⟩, r1, c1⟩ := hrel
    have HNN := Lib.hid hnn
    clear hnn
    have O1 := Lib.hid (And.intro o1 (And.intro r1 c1))
    have z1 := c1.size
    clear HS o1 r1 c1
    rcases j with _ | j
    · go_wp2_with fail
      refine (odd_le _ rb _ m O1.out.2.1 (by omega) hm1 hm).mono ?_
      rintro e w2 ⟨b, rfl, r2, c2, -⟩
      have c02 := O1.out.2.2.trans c2
      have o2 := O1.out.1.chg c2 (fun b hb he => by show ¬ b = rb; omega)
      have z2 := c02.size
      have O2 := Lib.hid (And.intro o2 (And.intro r2 c02))
      clear r2 c2 c02 o2
      cases b
      · go_wp2_with fail
        go_ret
        exact ⟨_, xs, rfl, by omega, ⟨O2.out.1, HNN.out⟩, O2.out.2.1.up (by omega), O2.out.2.2⟩
      · go_wp2_with fail
        refine (pick_le _ rb _ 2 (O2.out.2.1.kept ((Below.refl _ _).alloc (Nat.le_refl _) _)) (by omega) (by omega) (by omega)).mono ?_
        rintro e w3 ⟨k, rfl, k0, k1, r3, c3, -⟩
        obtain ⟨n, rfl⟩ := Int.eq_ofNat_of_zero_le k0
        have hk : ∃ x : Int, w3.cell? ⟨w2.heap.size, n, none⟩ = some (.int .i64 x) ∧ -1 ≤ x ∧ x ≤ 1000001 := by
          have hn : n = 0 ∨ n = 1 := by omega
          rcases hn with rfl | rfl
          all_goals exact ⟨_, lit_cell c3 (by show ¬ w2.heap.size = rb; omega) rfl, by decide, by decide⟩
        obtain ⟨x, hk, hx0, hx1⟩ := hk
        have c03 := (O2.out.2.2.alloc _).trans c3
        have o3 := (O2.out.1.below ((Below.refl _ _).alloc (Nat.le_refl _) _)).chg c3 (fun b hb he => by show ¬ b = rb; omega)
        have z3 := c03.size
        have O3 := Lib.hid (And.intro o3 (And.intro r3 c03))
        clear r3 c3 c03 o3
        go_wp2_with (at_builtin; refine ap1_int rfl _ _ rfl w.heap.size u5 xs x rfl O3.out.1 rfl (by omega) z3 (by unfold I64; omega) ?_; intro v' w4 o4 c4)
        have HF := Lib.hid (And.intro (O3.out.2.1.chg c4 (fun k hk h => by omega)) (O3.out.2.2.own c4))
        clear c4
        go_ret
        exact ⟨_, xs ++ [x], rfl, by simp; omega, o4, HF.out.1.up (by omega), HF.out.2⟩
    · have hl : xs.length ≤ 12 := by omega
      go_wp2_with (at_builtin; refine ap1_int rfl _ _ rfl w.heap.size u5 xs x rfl O1.out.1 rfl (by omega) z1 (by unfold I64; omega) ?_; intro v' w2 o2 c2)
      have O2 := Lib.hid (And.intro o2 (And.intro (O1.out.2.1.chg c2 (fun k hk h => by omega)) (O1.out.2.2.own c2)))
      have z2 := O2.out.2.2.size
      clear o2 c2
      go_wp2_with fail
      refine (pick_le _ rb _ 4 O2.out.2.1 (by omega) (by omega) (by omega)).mono ?_
      rintro e w3 ⟨k, rfl, k0, k1, r3, c3, -⟩
      have c03 := O2.out.2.2.trans c3
      have o3 := O2.out.1.1.chg c3 (fun b hb he => by show ¬ b = rb; omega)
      have HN3 := Lib.hid O2.out.1.2
      have O3 := Lib.hid (And.intro o3 (And.intro r3 c03))
      have z3 := c03.size
      clear r3 c3 c03 o3
      obtain ⟨z, hz⟩ : ∃ z, (k == 0) = z := ⟨_, rfl⟩
      cases z
      · have HF : Hid (NbrRel w rb q v' (.int .i64 (x + 1)) (.int .i64 j) w3) :=
          ⟨j, x + 1, xs ++ [x], rfl, rfl, by simp; omega, by omega, by simp; omega, ⟨O3.out.1, HN3.out⟩, O3.out.2.1.up (by simp; omega), O3.out.2.2⟩
        go_wp2_with fail
        go_roundw
        case rel => first | exact HF.out | exact ⟨_, _, _, HF.out, rfl, rfl, by go_num⟩
        case measure => simp [intOf]; try omega
      · go_wp2_with fail
        refine (pick_le _ rb _ 60 O3.out.2.1 (by omega) (by omega) (by omega)).mono ?_
        rintro e w4 ⟨k', rfl, k0', k1', r4, c4, -⟩
        have HF : Hid (NbrRel w rb q v' (.int .i64 k') (.int .i64 j) w4) :=
          ⟨j, k', xs ++ [x], rfl, rfl, by simp; omega, by omega, by simp; omega, ⟨O3.out.1.chg c4 (fun b hb he => by show ¬ b = rb; omega), HN3.out⟩, r4.up (by simp; omega), O3.out.2.2.trans c4⟩
        clear r4 c4
        go_wp2_with fail
        go_roundw
        case rel => first | exact HF.out | exact ⟨_, _, _, HF.out, rfl, rfl, by go_num⟩
        case measure => simp [intOf]; try omega

theorem OX.wide {w : World} {lo lo' : Nat} {v : Value} {xs : List (Int × Int)} (h : OX w lo v xs) (hl : lo' ≤ lo) : OX w lo' v xs := ⟨own_wide h.1 hl, h.2⟩
theorem exOf_le (xs : List Int) : (exOf xs).1.length ≤ 8 := by
  unfold exOf fin
  split
  · rename_i h; exact (exVal_ok h).1
  · simp
/-- Some extents were drawn. -/
def ExtR (w : World) (rb q : Nat) (e : Ending) (w' : World) : Prop :=
  ∃ (v : Value) (xs : List (Int × Int)), e = .returned v ∧ xs.length ≤ 9 ∧ (OX w' w.heap.size v xs ∧ v ≠ .slice none 0 0) ∧ RdLe w' rb (q + 48) ∧ Chg (· = rb) w w'

set_option maxHeartbeats 1000000 in
theorem l20Extents_any (w : World) (rb q : Nat) (m : Int) (hr : RdLe w rb q) (hq : q ≤ 800000) (hm1 : 0 ≤ m) (hm : m ≤ 1000000) :
    Calls Try.prog 38 #[.pointer (some ⟨rb, 0, none⟩), .int .i64 m] w (ExtR w rb q) := by
  have hrl := hr.lt
  have H := Lib.hid hr
  clear hr
  go_enter Try.func38, Try.ntmps38
  go_wp2_with fail
  refine (l20Numbers_any _ rb q 0 H.out (by omega) (by omega) (by omega)).mono ?_
  rintro e w1 ⟨v1, ns, rfl, hn, ⟨o1, -⟩, r1, c1⟩
  have z1 := c1.size
  have O1 := Lib.hid (And.intro o1 (And.intro r1 c1))
  clear o1 r1 c1
  go_wp2_with fail
  refine (specOfN_any v1 ns _ _ _ O1.out.1.ri (by omega)).mono ?_
  rintro e w2 ⟨v2, rfl, ⟨o2, hnn⟩, b2⟩
  have HNN := Lib.hid hnn
  clear hnn
  have hl2 := exOf_le ns
  generalize (exOf ns).1 = xs at o2 hl2
  generalize (exOf ns).2 = ok
  have c2 := O1.out.2.2.trans (below_chg b2 (· = rb))
  have z2 := c2.size
  have O2 := Lib.hid (And.intro (o2.wide z1) (And.intro (O1.out.2.1.kept b2) c2))
  clear o2 b2 c2
  go_wp2_with fail
  refine (odd_le _ rb _ m O2.out.2.1 (by omega) hm1 hm).mono ?_
  rintro e w3 ⟨b, rfl, r3, c3, -⟩
  have c03 := O2.out.2.2.trans c3
  have o3 := O2.out.1.chg c3 (fun b hb he => by show ¬ b = rb; omega)
  have z3 := c03.size
  have O3 := Lib.hid (And.intro o3 (And.intro r3 c03))
  clear r3 c3 c03 o3
  cases b
  · go_wp2_with fail
    go_ret
    exact ⟨_, xs, rfl, by omega, ⟨O3.out.1, HNN.out⟩, O3.out.2.1.up (by omega), O3.out.2.2⟩
  · go_wp2_with fail
    refine (pick_le _ rb _ 4 (O3.out.2.1.kept ((Below.refl _ _).alloc (Nat.le_refl _) _)) (by omega) (by omega) (by omega)).mono ?_
    rintro e w4 ⟨k, rfl, k0, k1, r4, c4, -⟩
    obtain ⟨n, rfl⟩ := Int.eq_ofNat_of_zero_le k0
    have hk : ∃ x y : Int, w4.cell? ⟨w3.heap.size, n * 2, none⟩ = some (.int .i64 x) ∧ w4.cell? ⟨w3.heap.size, n * 2 + 1, none⟩ = some (.int .i64 y) ∧ -1 ≤ x ∧ x ≤ 1000001 ∧ 0 ≤ y ∧ y ≤ 41 := by
      have hn : n = 0 ∨ n = 1 ∨ n = 2 ∨ n = 3 := by omega
      rcases hn with rfl | rfl | rfl | rfl
      all_goals exact ⟨_, _, lit_cell c4 (by show ¬ w3.heap.size = rb; omega) rfl, lit_cell c4 (by show ¬ w3.heap.size = rb; omega) rfl, by decide, by decide, by decide, by decide⟩
    obtain ⟨x, y, hkx, hky, hx0, hx1, hy0, hy1⟩ := hk
    have c04 := (O3.out.2.2.alloc _).trans c4
    have o4 := (O3.out.1.below ((Below.refl _ _).alloc (Nat.le_refl _) _)).chg c4 (fun b hb he => by show ¬ b = rb; omega)
    have z4 := c04.size
    have O4 := Lib.hid (And.intro o4 (And.intro r4 c04))
    clear r4 c4 c04 o4
    go_wp2_with (at_builtin; refine ap1_ext rfl _ _ rfl w.heap.size v2 xs (x, y) rfl O4.out.1 rfl (by omega) z4 ⟨by unfold I64; omega, by unfold I64; omega⟩ ?_; intro v' w5 o5 c5)
    have HF := Lib.hid (And.intro (O4.out.2.1.chg c5 (fun k hk h => by omega)) (O4.out.2.2.own c5))
    clear c5
    go_ret
    exact ⟨_, xs ++ [(x, y)], rfl, by simp; omega, o5, HF.out.1.up (by omega), HF.out.2⟩

end Go.Proofs.Ytepgakaccgnebaa
