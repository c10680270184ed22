/-
  The walk of the law FnFileHoles.
-/
import Derived.Test.YthpcgdkhipcieaaLfFsz
namespace Go.Proofs.Ythpcgdkhipcieaa
open Go.RowKit

theorem implFsz_is (v : Value) (t : List (List Int)) (f : Int) (lo hi : Nat) (w : World) (h : RT w lo hi v t) (x : Int) (hx : fsz t f = x) :
    Calls Try.prog 18 #[.agg #[v], .int .i64 f] w fun e w' => e = .returned (.int .i64 x) ∧ Below w.heap.size w w' := by
  subst hx
  exact implFsz_any v t f lo hi w h
theorem hasInt_is (v : Value) (xs : List Int) (y : Int) (lo hi : Nat) (w : World) (h : RI w lo hi v xs) (hx : xs.length ≤ 1048576) (q : Bool) (hq : hasI xs y = q) :
    Calls Try.prog 41 #[v, .int .i64 y] w fun e w' => e = .returned (.bool q) ∧ w = w' := by
  subst hq
  exact hasInt_any v xs y lo hi w h hx
theorem sameInts_yes (v v2 : Value) (xs : List Int) (lo hi lo2 hi2 : Nat) (w : World) (h : RI w lo hi v xs) (h2 : RI w lo2 hi2 v2 xs) (hx : xs.length ≤ 1048576) :
    Calls Try.prog 40 #[v, v2] w fun e w' => e = .returned (.bool true) ∧ Below w.heap.size w w' := by
  have c := sameInts_any v v2 xs xs lo hi lo2 hi2 w h h2 hx hx
  rw [sameL_self] at c
  exact c
/-- Beside the table a list of numbers stands. -/
def TLi (w0 : World) (B : Nat) (sl : Value) (t : List (List Int)) (v : Value) (xs : List Int) (w : World) : Prop := TLw w0 B sl t w ∧ RI w w0.heap.size w.heap.size v xs
theorem TLi.below {w0 w w' : World} {B : Nat} {sl v : Value} {t : List (List Int)} {xs : List Int} (h : TLi w0 B sl t v xs w) (b : Below w.heap.size w w') : TLi w0 B sl t v xs w' :=
  ⟨h.1.below b, (h.2.below b).wide (Nat.le_refl _) b.size⟩
theorem fsz_le (t : List (List Int)) (f : Int) : fsz t f ≤ 6 := by
  by_cases hn : fsz t f < 0
  · omega
  · obtain ⟨hv, f0, f1⟩ := fsz_ok hn
    obtain ⟨f, rfl⟩ := Int.eq_ofNat_of_zero_le f0
    obtain ⟨m, g1, g2, -⟩ := fsz_nat hv (f := f) (by omega)
    omega

set_option maxHeartbeats 2000000 in
theorem FnFileHoles_walk (w : World) (v : Value) (bs : List Int) (h : RB w 0 w.heap.size v bs) :
    Calls Try.prog 10 #[v] w fun e w' => e = .returned (.bool true) ∧ Below w.heap.size w w' := by
  have HB := Lib.hid h
  obtain ⟨a, cap, b, off, rfl, -⟩ := h.open
  clear h
  by_cases hl : bs.length ≤ 1048576
  · go_enter Try.func10, Try.ntmps10
    go_wp2_with fail
    refine (dFileHoles _ _ bs HB.out).mono ?_
    rintro e w1 ⟨v1, t, f, rfl, ⟨o1, ht⟩, hf, b1⟩
    obtain ⟨a1, cap1, b1', off1, rfl, -⟩ := o1.open
    have H1 := Lib.hid (tlw_new o1 b1)
    clear o1 b1 HB
    go_wp2_with fail
    refine (implHol_any _ t f _ _ _ H1.out.rt).mono ?_
    rintro e w2 ⟨v2, rfl, o2, b2⟩
    have hN0 := fsz_ge t f
    have hN6 := fsz_le t f
    have hx0 := holes_len t f
    have HM := Lib.hid (fun (hv : tabVal t = true) (f0 : 0 ≤ f) (f1 : f < 8) (k : Nat) (hk : (k : Int) < fsz t f) => (by
      obtain ⟨f, rfl⟩ := Int.eq_ofNat_of_zero_le f0
      exact holes_mem hv (by omega) hk : decide ((k : Int) ∈ holes t f) = decide (tget t f k < 0)))
    obtain ⟨xs, hxs⟩ : ∃ xs, xs = holes t f := ⟨_, rfl⟩
    obtain ⟨n, hN⟩ : ∃ n, n = fsz t f := ⟨_, rfl⟩
    rw [← hxs] at o2 hx0
    rw [← hN] at hN0 hN6 hx0
    have HXS := Lib.hid hxs
    have HN := Lib.hid hN
    have hxl : xs.length ≤ 1048576 := by omega
    have hz2 := b2.size
    have hz1 := (H1.out.below b2).bel.size
    have H2 : Hid (TLi w w1.heap.size (.slice a1 t.length cap1) t v2 xs w2) := Lib.hid ⟨H1.out.below b2, o2.ri.wide (by have := H1.out.bel.size; omega) (Nat.le_refl _)⟩
    have d2 := H2.out.1.cell
    obtain ⟨a2, cap2, b2', off2, rfl, q1, q2, -⟩ := H2.out.2.open
    clear b2 H1 o2 hxs hN hz1 hz2
    go_wp2_with fail
    refine (specHol_any _ t f _ _ _ H2.out.1.rt).mono ?_
    rintro e w3 ⟨v3, rfl, o3, b3⟩
    rw [← HXS.out] at o3
    have H3 := Lib.hid (And.intro (H2.out.below b3) o3)
    clear b3 o3 H2 d2
    go_wp2_with fail
    refine (sameInts_yes _ _ xs _ _ _ _ _ H3.out.1.2 H3.out.2.ri hxl).mono ?_
    rintro e w4 ⟨rfl, b4⟩
    have H4 := Lib.hid (H3.out.1.below b4)
    clear b4 H3
    go_wp2_with fail
    go_loopw [6] (fun i wr => ∃ k : Nat, k ≤ 6 ∧ i = .int .i64 k ∧ TLi w w1.heap.size (.slice a1 t.length cap1) t (.slice a2 xs.length cap2) xs wr) (fun i _ => 6 - (intOf i).toNat)
    case atStart => exact ⟨0, by omega, rfl, H4.out⟩
    case round =>
      obtain ⟨k, k1, rfl, hR⟩ := hrel
      have HR := Lib.hid hR
      have c1 := hR.1.cell
      clear hR H4
      go_wp2_with fail
      refine (implFsz_is _ t f _ _ _ HR.out.1.rt n HN.out.symm).mono ?_
      rintro e w5 ⟨rfl, b5⟩
      have H5 := Lib.hid (HR.out.below b5)
      have c5 := H5.out.1.cell
      clear b5 HR c1
      by_cases hk : (k : Int) < n
      · obtain ⟨hv, f0, f1⟩ := fsz_ok (t := t) (f := f) (by rw [← HN.out]; omega)
        have hm := HM.out hv f0 (by omega) k (by rw [← HN.out]; exact hk)
        have HV := Lib.hid hm
        clear hm hv
        go_wp2_with fail
        refine (implGet_any _ t f k _ _ _ H5.out.1.rt).mono ?_
        rintro e w6 ⟨rfl, b6⟩
        have H6 := Lib.hid (H5.out.below b6)
        have hm := HV.out
        generalize tget t f k = y at hm ⊢
        rw [← HXS.out] at hm
        have HM2 := Lib.hid hm
        clear hm b6 H5 c5 HV
        by_cases hy : y < 0
        · go_wp2_with fail
          refine (hasInt_is _ xs k _ _ _ H6.out.2 hxl true (by unfold hasI; rw [HM2.out]; simp [hy])).mono ?_
          rintro e w7 ⟨rfl, rfl⟩
          go_wp2_with fail
          go_roundw
          case rel => exact ⟨k + 1, by omega, by go_num, H6.out⟩
          case measure => simp [intOf]; omega
        · go_wp2_with fail
          refine (hasInt_is _ xs k _ _ _ H6.out.2 hxl false (by unfold hasI; rw [HM2.out]; simp [hy])).mono ?_
          rintro e w7 ⟨rfl, rfl⟩
          go_wp2_with fail
          go_roundw
          case rel => exact ⟨k + 1, by omega, by go_num, H6.out⟩
          case measure => simp [intOf]; omega
      · go_wp2_with fail
        refine (implFsz_is _ t f _ _ _ H5.out.1.rt n HN.out.symm).mono ?_
        rintro e w6 ⟨rfl, b6⟩
        have HF := Lib.hid (H5.out.1.below b6).bel
        clear b6 H5 c5
        have hmx : (xs.length : Int) ≤ max 0 (n - 1) := hx0
        go_wp2_with fail
        all_goals
          refine (alive_any _).mono ?_
          rintro e w' ⟨rfl, rfl⟩
          go_wp2_with fail
          all_goals (go_ret; exact ⟨rfl, HF.out⟩)
  · go_enter Try.func10, Try.ntmps10
    go_wp2_with fail
    all_goals (go_ret; exact ⟨rfl, Below.refl _ _⟩)

end Go.Proofs.Ythpcgdkhipcieaa
