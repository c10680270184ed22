/-
  The walk of the law FnExtentsValid.
-/
import Derived.Test.YtepgakaccgnebaaDrExt
namespace Go.Proofs.Ytepgakaccgnebaa
open Go.RowKit

theorem exVal_cons (xs : List (Int × Int)) : exVal ((1, 0) :: xs) = false := by
  cases hv : exVal ((1, 0) :: xs) with
  | false => rfl
  | true => exact absurd (show exOk (1, 0) = true from (exVal_ok hv).2 0 (by simp)) (by decide)
theorem exVal_drop {xs : List (Int × Int)} (m : Nat) (h : exVal xs = true) : exVal (xs.drop m) = true := by
  simp only [exVal, Bool.and_eq_true, decide_eq_true_eq, List.all_eq_true, List.mem_range] at h ⊢
  refine ⟨by simp; omega, fun k hk => ?_⟩
  simp only [List.length_drop] at hk
  have := h.2 (m + k) (by omega)
  have e : ∀ j, (xs.drop m).getD j (0, 0) = xs.getD (m + j) (0, 0) := fun j => by
    simp only [List.getD_eq_getElem?_getD]; rw [List.getElem?_drop]
  simp only [exAt, exNew] at this ⊢
  by_cases h0 : k = 0
  · subst h0
    rw [e 0]
    simp only [Bool.and_eq_true] at this
    have t := this.1
    rw [Nat.add_zero] at t ⊢
    rw [t]; rfl
  · rw [e k, e (k - 1)]
    have h1 : m + k - 1 = m + (k - 1) := by omega
    have h2 : decide (m + k = 0) = false := by simp; omega
    have h3 : decide (k = 0) = false := by simp [h0]
    rw [h1, h2] at this
    rw [h3]
    exact this
theorem RX.drop {w : World} {lo hi : Nat} {g off cap m : Nat} {xs : List (Int × Int)} (h : RX w lo hi (.slice (some ⟨g, off, none⟩) xs.length cap) xs) (hm : m ≤ xs.length) :
    RX w lo hi (.slice (some ⟨g, off + m * 2, none⟩) (xs.length - m) (cap - m)) (xs.drop m) := by
  have hl : (xs.drop m).length = xs.length - m := by simp
  refine ⟨?_, fun x hx => h.2 x (List.mem_of_mem_drop hx)⟩
  rw [hl]
  obtain ⟨⟨h0, a', cap', b, off', he, h1, h2, h3, h4⟩, -⟩ := h
  simp only [Value.slice.injEq] at he
  obtain ⟨ha, -, rfl⟩ := he
  have e : xc (xs.drop m) = (xc xs).drop (m * 2) := by
    have h1 : xc xs = xc (xs.take m) ++ xc (xs.drop m) := by
      unfold xc; rw [← List.flatMap_append, List.take_append_drop]
    rw [h1, List.drop_left' (by rw [xc_len]; simp; omega)]
  refine ⟨by rw [xc_len, hl], some ⟨g, off + m * 2, none⟩, cap - m, g, off + m * 2, rfl, by omega, by omega, fun hn => ?_, fun j hj => ?_⟩
  · have := h3 (by omega)
    rw [← ha] at this
    simp only [Option.some.injEq, Addr.mk.injEq, and_true] at this
    obtain ⟨⟨rfl, rfl⟩, hlo, hhi⟩ := this
    exact ⟨rfl, hlo, hhi⟩
  · have := h3 (by omega)
    rw [← ha] at this
    simp only [Option.some.injEq, Addr.mk.injEq, and_true] at this
    obtain ⟨⟨rfl, rfl⟩, -, -⟩ := this
    rw [e, List.getElem?_drop, Nat.add_assoc]
    exact h4 (m * 2 + j) (by omega)
theorem rx_nil (w : World) (lo hi : Nat) (a : Option Addr) (cap : Nat) (hc : cap ≤ maxLen) : RX w lo hi (.slice a 0 cap) [] := ⟨⟨by simp [xc], a, cap, 0, 0, rfl, Nat.zero_le _, hc, fun h => by simp at h, fun j hj => by simp at hj⟩, fun _ h => by simp at h⟩
theorem one_xc (xs : List (Int × Int)) : ∀ u ∈ xc xs, u.oneCell' = true := by
  intro u hu
  simp only [xc, List.mem_flatMap] at hu
  obtain ⟨e, -, hu⟩ := hu
  simp at hu
  rcases hu with rfl | rfl <;> rfl

set_option maxHeartbeats 800000 in
theorem FnExtentsValid_walk (w : World) (v : Value) (bs : List Int) (h : RB w 0 w.heap.size v bs) :
    Calls Try.prog 4 #[v] w fun e w' => e = .returned (.bool true) ∧ Below w.heap.size w w' := by
  have H := Lib.hid h
  obtain ⟨a, cap, b, off, rfl, -⟩ := h.open
  clear h
  by_cases hl : bs.length ≤ 1048576
  · go_enter Try.func4, Try.ntmps4
    go_wp2_with fail
    refine (drawExtentsValid _ _ bs H.out).mono ?_
    rintro e w1 ⟨v, xs, rfl, hx, ⟨o1, hnn⟩, b1⟩
    obtain ⟨g, cap1, rfl, g1, g2, g3⟩ := own_shape o1.1 hnn
    have O1 := Lib.hid (And.intro o1 b1)
    clear o1 b1 hnn
    obtain ⟨ok, hok⟩ : ∃ ok, ok = exVal xs := ⟨_, rfl⟩
    have HOK := Lib.hid hok
    clear hok
    go_wp2_with fail
    refine (implExv_any _ xs _ _ _ O1.out.1.rx).mono ?_
    rintro e w2 ⟨rfl, b2⟩
    have O2 := Lib.hid (And.intro (O1.out.1.below b2) (bup O1.out.2 (Nat.le_refl _) b2))
    clear b2
    go_wp2_with fail
    refine (specExv_any _ xs _ _ _ O2.out.1.rx).mono ?_
    rintro e w3 ⟨rfl, b3⟩
    have O3 := Lib.hid (And.intro (O2.out.1.below b3) (bup O2.out.2 (Nat.le_refl _) b3))
    have z3 := O3.out.2.size
    clear b3
    rw [← HOK.out]
    have hbb : (ok != ok) = false := by simp
    have hcells := (O3.out.1.1.alloc (.cells #[.int .i64 1, .int .i64 0] 32)).cells (g := g) rfl
    have hlit := World.ownsRow_lit (base := w.heap.size) (e := 32) (size := 2) w3 #[.int .i64 1, .int .i64 0] 1 z3 (by decide) rfl
    obtain ⟨i0, hi0, hz0, hz1, hz2⟩ := info_parts Try.infoX
    have HI := Lib.hid (And.intro hi0 (And.intro hz0 (And.intro hz1 hz2)))
    clear hi0 hz0 hz1 hz2
    go_wp2_with (at_builtin; refine wpList_append_own _ rfl _ _ 25 rfl w.heap.size 32 i0 (.agg #[.int .i64 0, .int .i64 0]) 2 16 Try.underlying25 HI.out.1 HI.out.2.1 HI.out.2.2.1 HI.out.2.2.2 rfl (by decide) (.slice (some ⟨w3.heap.size, 0, none⟩) 1 1) 1 [.int .i64 1, .int .i64 0] rfl hlit ⟨g, 0, none⟩ xs.length cap1 (xc xs) rfl (xc_len xs) hcells (one_xc xs) (by simp [maxLen]; omega) (by omega) (by simp; omega) ?_; intro v2 w4 o4 c4 _)
    have b4 : Below w3.heap.size w3 w4 := ((Below.refl _ _).alloc (Nat.le_refl _) _).grown c4 (by simp) (fun k hk => by have e : w3.heap.size = k := Option.some.inj hk; omega)
    have r4 : RX w4 w.heap.size w4.heap.size v2 ((1, 0) :: xs) := by
      refine ⟨?_, fun x hx => ?_⟩
      · have := reads_own o4
        rw [Nat.add_comm] at this
        exact this
      · rcases List.mem_cons.1 hx with rfl | hx
        · exact ⟨by unfold I64; omega, by unfold I64; omega⟩
        · exact O3.out.1.2 x hx
    have R4 := Lib.hid (And.intro r4 (And.intro (O3.out.1.below b4) (bup O3.out.2 (Nat.le_refl _) b4)))
    clear b4 r4 o4 c4 hcells hlit
    have c1 := fun wx lo hi h => implExv_any v2 ((1, 0) :: xs) lo hi wx h
    rw [exVal_cons] at c1
    have C1 := Lib.hid c1
    clear c1
    refine (C1.out _ _ _ R4.out.1).mono ?_
    rintro e w5 ⟨rfl, b5⟩
    have O5 := Lib.hid (And.intro (R4.out.2.1.below b5) (bup R4.out.2.2 (Nat.le_refl _) b5))
    clear b5
    cases ok
    · go_wp2_with fail
      refine (alive_any _).mono ?_
      rintro e w' ⟨rfl, rfl⟩
      go_wp2_with fail
      all_goals (go_ret; exact ⟨rfl, O5.out.2⟩)
    · have c2 := fun wx lo hi a n cap h => implExv_any (.slice a n cap) (xs.drop (xs.length / 2)) lo hi wx h
      rw [exVal_drop _ HOK.out.symm] at c2
      have C2 := Lib.hid c2
      clear c2
      have hd : xs.length / 2 ≤ xs.length := Nat.div_le_self _ _
      have hd0 : xs.length / 2 ≤ cap1 := by omega
      by_cases hc0 : cap1 = 0
      · obtain rfl : xs = [] := by cases xs with | nil => rfl | cons _ _ => simp at g3; omega
        subst hc0
        simp only [List.length_nil] at *
        have R5 := Lib.hid (rx_nil w5 0 0 (some ⟨g, 0, none⟩) 0 (by simp [maxLen]))
        go_wp2_with fail
        refine (C2.out _ _ _ _ _ _ R5.out).mono ?_
        rintro e w6 ⟨rfl, b6⟩
        have HF := Lib.hid (bup O5.out.2 (Nat.le_refl _) b6)
        clear b6
        go_wp2_with fail
        refine (alive_any _).mono ?_
        rintro e w' ⟨rfl, rfl⟩
        go_wp2_with fail
        all_goals (go_ret; exact ⟨rfl, HF.out⟩)
      · have hc1 : ¬ cap1 = xs.length / 2 := by omega
        have r5 := O5.out.1.rx.drop hd
        simp only [Nat.zero_add] at r5
        have R5 := Lib.hid r5
        clear r5
        go_wp2_with fail
        refine (C2.out _ _ _ _ _ _ R5.out).mono ?_
        rintro e w6 ⟨rfl, b6⟩
        have HF := Lib.hid (bup O5.out.2 (Nat.le_refl _) b6)
        clear b6
        go_wp2_with fail
        refine (alive_any _).mono ?_
        rintro e w' ⟨rfl, rfl⟩
        go_wp2_with fail
        all_goals (go_ret; exact ⟨rfl, HF.out⟩)
  · go_enter Try.func4, Try.ntmps4
    go_wp2_with fail
    all_goals (go_ret; exact ⟨rfl, Below.refl _ _⟩)

end Go.Proofs.Ytepgakaccgnebaa
