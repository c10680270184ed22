/-
  Words for a law's body that holds tables in boxes; the walk of the law FnTableGet.
-/
import Derived.Test.YthpcgdkhipcieaaDru
import Derived.Test.YthpcgdkhipcieaaTsm
import Derived.Test.YthpcgdkhipcieaaThi
namespace Go.Proofs.Ythpcgdkhipcieaa
open Go.RowKit

/-- Box B holds the table t, which reads in memory that is newer than w0. -/
structure TLw (w0 : World) (B : Nat) (sl : Value) (t : List (List Int)) (w : World) : Prop where
  rt : RT w w0.heap.size w.heap.size sl t
  box : w.heap[B]? = some (.cells #[sl] 27)
  bel : Below w0.heap.size w0 w
theorem TLw.below {w0 w w' : World} {B : Nat} {sl : Value} {t : List (List Int)} (h : TLw w0 B sl t w) (b : Below w.heap.size w w') : TLw w0 B sl t w' :=
  ⟨(h.rt.below b).wide (Nat.le_refl _) b.size, box_keep h.box b, bup2 h.bel b⟩
theorem tlw_new {w0 w1 : World} {sl : Value} {t : List (List Int)} (h : RT w1 w0.heap.size w1.heap.size sl t) (b : Below w0.heap.size w0 w1) : TLw w0 w1.heap.size sl t (w1.alloc (.cells #[sl] 27)) :=
  ⟨(h.below (balloc _ _)).wide (Nat.le_refl _) (balloc _ _).size, heap_alloc_new _ _, bup2 b (balloc _ _)⟩
theorem TLw.cell {w0 w : World} {B : Nat} {sl : Value} {t : List (List Int)} (h : TLw w0 B sl t w) : w.cell? ⟨B, 0, none⟩ = some sl := (one_at h.box).1

set_option maxHeartbeats 2000000 in
theorem FnTableGet_walk (w : World) (v : Value) (bs : List Int) (h : RB w 0 w.heap.size v bs) :
    Calls Try.prog 7 #[v] w fun e w' => e = .returned (.bool true) ∧ Below w.heap.size w w' := by
  have HB := Lib.hid h
  obtain ⟨a, cap, b, off, rfl, -⟩ := h.open
  clear h
  by_cases hl : bs.length ≤ 1048576
  · go_enter Try.func7, Try.ntmps7
    go_wp2_with fail
    refine (dTableGet _ _ bs HB.out).mono ?_
    rintro e w1 ⟨v1, t, f, p, rfl, ⟨o1, ht⟩, ⟨hf, hp⟩, b1⟩
    obtain ⟨a1, cap1, b1', off1, rfl, -⟩ := o1.open
    have H1 := Lib.hid (tlw_new o1 b1)
    clear o1 b1 HB
    go_wp2_with fail
    refine (implGet_any _ t f p _ _ _ H1.out.rt).mono ?_
    rintro e w2 ⟨rfl, b2⟩
    have H2 := Lib.hid (H1.out.below b2)
    have d2 := H2.out.cell
    obtain ⟨n, hN⟩ : ∃ n, n = tget t f p := ⟨_, rfl⟩
    rw [← hN]
    have HN := Lib.hid hN
    clear b2 H1 hN
    go_wp2_with fail
    refine (specGet_any _ t f p _ _ _ H2.out.rt).mono ?_
    rintro e w3 ⟨rfl, b3⟩
    have H3 := Lib.hid (H2.out.below b3)
    have d3 := H3.out.cell
    rw [← HN.out]
    clear b3 H2 d2
    go_wp2_with fail
    refine (implTbv_any _ t _ _ _ H3.out.rt).mono ?_
    rintro e w4 ⟨rfl, b4⟩
    have H4 := Lib.hid (H3.out.below b4)
    have d4 := H4.out.cell
    clear b4 H3 d3
    obtain ⟨ok, hok⟩ : ∃ ok, ok = tabVal t := ⟨_, rfl⟩
    rw [← hok]
    have HOK := Lib.hid hok
    clear hok
    by_cases hin : ok = true ∧ (0 ≤ f ∧ f ≤ 7) ∧ (0 ≤ p ∧ p ≤ 5)
    · obtain ⟨rfl, ⟨f0, f1⟩, p0, p1⟩ := hin
      obtain ⟨f, rfl⟩ := Int.eq_ofNat_of_zero_le f0
      obtain ⟨p, rfl⟩ := Int.eq_ofNat_of_zero_le p0
      have h8 := tab_len HOK.out.symm
      have hft : f < t.length := by omega
      have h6 := tab_row HOK.out.symm hft
      have hpt : p < t[f].length := by omega
      have hn := HN.out.trans (tget_in HOK.out.symm hft hpt)
      obtain ⟨a5, cap5, b5, off5, e5, q1, q2, q3, q4⟩ := H4.out.rt.open
      obtain ⟨u, hu, hr⟩ := q4 f hft
      obtain ⟨a6, cap6, b6, off6, rfl, r1, r2, r3, r4⟩ := hr.open
      have r4' := r4 p hpt
      rw [← hn] at r4'
      obtain rfl := r3 (by omega)
      simp only [Value.slice.injEq, true_and] at e5
      obtain ⟨rfl, rfl⟩ := e5
      obtain rfl := q3 (by omega)
      have HF := Lib.hid H4.out.bel
      rw [h6] at hu
      have hpt6 : p < 6 := by omega
      clear q3 q4 r3 r4 hn H4 HN HOK hr
      go_wp2_with fail
      all_goals (go_ret; exact ⟨rfl, HF.out⟩)
    · have hn : n = -1 := by
        rw [HN.out]
        by_cases hv : tabVal t = true
        · refine tget_out fun hx => hin ⟨HOK.out.trans hv, ⟨hx.1, hx.2.1⟩, hx.2.2⟩
        · exact tget_bad (by simpa using hv)
      subst hn
      have HIN := Lib.hid hin
      have HF := Lib.hid H4.out.bel
      clear hin HN H4
      have key : ok = false ∨ (ok = true ∧ f < 0) ∨ (ok = true ∧ 0 ≤ f ∧ 8 ≤ f) ∨ (ok = true ∧ 0 ≤ f ∧ f < 8 ∧ p < 0) ∨ (ok = true ∧ 0 ≤ f ∧ f < 8 ∧ 0 ≤ p ∧ 5 < p) := by
        have := HIN.out
        cases ok
        · exact .inl rfl
        · have : ¬ ((0 ≤ f ∧ f ≤ 7) ∧ (0 ≤ p ∧ p ≤ 5)) := fun hx => this ⟨rfl, hx⟩
          right
          simp only [true_and]
          omega
      rcases key with rfl | ⟨rfl, k1⟩ | ⟨rfl, k1, k2⟩ | ⟨rfl, k1, k2, k3⟩ | ⟨rfl, k1, k2, k3, k4⟩
      all_goals
        go_wp2_with fail
        all_goals
          refine (alive_any _).mono ?_
          rintro e w' ⟨rfl, rfl⟩
          go_wp2_with fail
          all_goals (go_ret; exact ⟨rfl, HF.out⟩)
  · go_enter Try.func7, Try.ntmps7
    go_wp2_with fail
    all_goals (go_ret; exact ⟨rfl, Below.refl _ _⟩)

end Go.Proofs.Ythpcgdkhipcieaa
