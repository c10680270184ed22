/-
  Texts of this claim, laid together: Dvr.
-/
import Derived.Test.YtjmofmdcegefgaaQ12
namespace Go.Proofs.Ytjmofmdcegefgaa
open Go.RowKit

/-- A fresh page's box. -/
def pbox : Obj := .cells #[.bool false, .int .i64 0, .int .i64 0, .int .i64 0, .int .i64 0] 53

theorem pbox_at {w : World} {B : Nat} (h : w.heap[B]? = some pbox) :
    w.cell? ⟨B, 0, none⟩ = some (.bool false) ∧ w.cell? ⟨B, 1, none⟩ = some (.int .i64 0) ∧ w.cell? ⟨B, 2, none⟩ = some (.int .i64 0) ∧ w.cell? ⟨B, 3, none⟩ = some (.int .i64 0) ∧ w.cell? ⟨B, 4, none⟩ = some (.int .i64 0) ∧
      w.frozen? ⟨B, 0, none⟩ = false ∧ w.frozen? ⟨B, 1, none⟩ = false ∧ w.frozen? ⟨B, 2, none⟩ = false ∧ w.frozen? ⟨B, 3, none⟩ = false ∧ w.frozen? ⟨B, 4, none⟩ = false := by
  unfold pbox at h
  simp [World.cell?, World.frozen?, h]

/-- A page stored into its box. -/
theorem pset_box {w0 w : World} {B : Nat} {p : Pg} (h : w.heap[B]? = some pbox) (hb : Below w0.heap.size w0 w) (hB : w0.heap.size ≤ B) :
    ((((((w.setCell ⟨B, 0, none⟩ (.bool p.full)).setCell ⟨B, 1, none⟩ (.int .i64 p.file)).setCell ⟨B, 2, none⟩ (.int .i64 p.place)).setCell ⟨B, 3, none⟩ (.int .i64 p.value)).setCell ⟨B, 4, none⟩ (.int .i64 p.stamp)).drew).heap[B]? = some (.cells #[.bool p.full, .int .i64 p.file, .int .i64 p.place, .int .i64 p.value, .int .i64 p.stamp] 53) ∧ Below w0.heap.size w0 (((((w.setCell ⟨B, 0, none⟩ (.bool p.full)).setCell ⟨B, 1, none⟩ (.int .i64 p.file)).setCell ⟨B, 2, none⟩ (.int .i64 p.place)).setCell ⟨B, 3, none⟩ (.int .i64 p.value)).setCell ⟨B, 4, none⟩ (.int .i64 p.stamp)).drew := by
  refine ⟨?_, (((((hb.setCell (p := ⟨B, 0, none⟩) hB _).setCell (p := ⟨B, 1, none⟩) hB _).setCell (p := ⟨B, 2, none⟩) hB _).setCell (p := ⟨B, 3, none⟩) hB _).setCell (p := ⟨B, 4, none⟩) hB _).drew⟩
  unfold pbox at h
  have h1 := heap_setCell_same w B 0 _ _ (.bool p.full) h
  have h2 := heap_setCell_same _ B 1 _ _ (.int .i64 p.file) h1
  have h3 := heap_setCell_same _ B 2 _ _ (.int .i64 p.place) h2
  have h4 := heap_setCell_same _ B 3 _ _ (.int .i64 p.value) h3
  have h5 := heap_setCell_same _ B 4 _ _ (.int .i64 p.stamp) h4
  have hd : ∀ x : World, x.drew.heap = x.heap := fun _ => rfl
  rw [hd, h5]
  simp

theorem pset_box' {w0 w : World} {B : Nat} {p : Pg} (h : w.heap[B]? = some pbox) (hb : Below w0.heap.size w0 w) (hB : w0.heap.size ≤ B) :
    (((((w.setCell ⟨B, 0, none⟩ (.bool p.full)).setCell ⟨B, 1, none⟩ (.int .i64 p.file)).setCell ⟨B, 2, none⟩ (.int .i64 p.place)).setCell ⟨B, 3, none⟩ (.int .i64 p.value)).setCell ⟨B, 4, none⟩ (.int .i64 p.stamp)).heap[B]? = some (.cells #[.bool p.full, .int .i64 p.file, .int .i64 p.place, .int .i64 p.value, .int .i64 p.stamp] 53) ∧ Below w0.heap.size w0 (((((w.setCell ⟨B, 0, none⟩ (.bool p.full)).setCell ⟨B, 1, none⟩ (.int .i64 p.file)).setCell ⟨B, 2, none⟩ (.int .i64 p.place)).setCell ⟨B, 3, none⟩ (.int .i64 p.value)).setCell ⟨B, 4, none⟩ (.int .i64 p.stamp)) := by
  refine ⟨?_, (((((hb.setCell (p := ⟨B, 0, none⟩) hB _).setCell (p := ⟨B, 1, none⟩) hB _).setCell (p := ⟨B, 2, none⟩) hB _).setCell (p := ⟨B, 3, none⟩) hB _).setCell (p := ⟨B, 4, none⟩) hB _)⟩
  have h1 := (pset_box (p := p) h hb hB).1
  have hd : ∀ x : World, x.drew.heap = x.heap := fun _ => rfl
  rw [hd] at h1
  exact h1
theorem pset_zero {w0 w : World} {B : Nat} (h : w.heap[B]? = some pbox) (hb : Below w0.heap.size w0 w) (hB : w0.heap.size ≤ B) :
    (((((w.setCell ⟨B, 0, none⟩ (.bool false)).setCell ⟨B, 1, none⟩ (.int .i64 0)).setCell ⟨B, 2, none⟩ (.int .i64 0)).setCell ⟨B, 3, none⟩ (.int .i64 0)).setCell ⟨B, 4, none⟩ (.int .i64 0)).heap[B]? = some (.cells #[.bool pg0.full, .int .i64 pg0.file, .int .i64 pg0.place, .int .i64 pg0.value, .int .i64 pg0.stamp] 53) ∧ Below w0.heap.size w0 (((((w.setCell ⟨B, 0, none⟩ (.bool false)).setCell ⟨B, 1, none⟩ (.int .i64 0)).setCell ⟨B, 2, none⟩ (.int .i64 0)).setCell ⟨B, 3, none⟩ (.int .i64 0)).setCell ⟨B, 4, none⟩ (.int .i64 0)) := by
  refine ⟨?_, (((((hb.setCell (p := ⟨B, 0, none⟩) hB _).setCell (p := ⟨B, 1, none⟩) hB _).setCell (p := ⟨B, 2, none⟩) hB _).setCell (p := ⟨B, 3, none⟩) hB _).setCell (p := ⟨B, 4, none⟩) hB _)⟩
  unfold pbox at h
  have h1 := heap_setCell_same w B 0 _ _ (.bool false) h
  have h2 := heap_setCell_same _ B 1 _ _ (.int .i64 0) h1
  have h3 := heap_setCell_same _ B 2 _ _ (.int .i64 0) h2
  have h4 := heap_setCell_same _ B 3 _ _ (.int .i64 0) h3
  have h5 := heap_setCell_same _ B 4 _ _ (.int .i64 0) h4
  rw [h5]
  simp [pg0]

set_option maxHeartbeats 2000000 in
theorem implRdp_any (v : Value) (d : List Bk) (n : Int) (lo hi : Nat) (w : World) (h : RD w lo hi v d) (hn : I64 n) :
    Calls Try.prog 28 #[v, .int .i64 n] w fun e w' => e = .returned (.tuple #[pgv (rdp d n).1, .bool (rdp d n).2]) ∧ Below w.heap.size w w' := by
  have HB0 := Lib.hid (balloc w pbox)
  have H := Lib.hid (h.below HB0.out)
  have X0 := Lib.hid (heap_alloc_new w pbox)
  obtain ⟨a, cap, b, off, rfl, q1, q2, q3, -⟩ := h.open
  clear h
  by_cases hin : dvOk d = true ∧ 0 ≤ n ∧ n < 4 * (d.length : Int)
  · obtain ⟨hv, n0, n1⟩ := hin
    have HV := Lib.hid hv
    obtain ⟨n, rfl⟩ := Int.eq_ofNat_of_zero_le n0
    obtain ⟨hk, hj, he⟩ := dat_at hv (n := n) (by omega)
    have HL := Lib.hid (dv_len hv)
    rw [rdp_in hv (by omega)]
    have h4 := dv_len4 hv hk
    obtain rfl := q3 (by omega)
    have c1 := fun wx h => implDvv_any (.slice (some ⟨b, off, none⟩) d.length cap) d lo hi wx h
    rw [hv] at c1
    have C1 := Lib.hid c1
    obtain ⟨p, hp⟩ : ∃ p, p = dat d n := ⟨_, rfl⟩
    rw [← hp] at he ⊢
    have HP := Lib.hid he
    clear c1 q3 hp he hv
    unfold pgv
    go_enter Try.func28, Try.ntmps28
    go_wp2_with fail
    refine (C1.out _ H.out).mono ?_
    rintro e w1 ⟨rfl, b1⟩
    obtain ⟨a', cap', b', off', e1, e2, -, -, r1, r2, r3, r4⟩ := (H.out.below b1).at (n / 4) hk
    have h5 := r4 (n % 4) hj
    rw [← HP.out] at h5
    obtain rfl := r3 (by omega)
    rw [h4] at e2 r1
    obtain ⟨g0, g1, g2, g3, g4⟩ := h5
    have HB1 := Lib.hid (And.intro (bup2 HB0.out b1) (box_keep X0.out b1))
    have n2 : ¬ (n : Int) < 0 := by omega
    have n3 : ¬ (d.length : Int) * 4 ≤ (n : Int) := by omega
    have hl12 : d.length ≤ 12 := HL.out.2
    have k1 : (n : Int) / 4 < (d.length : Int) := by omega
    have k2 : (n : Int) % 4 < 4 := by omega
    clear b1 r3 r4 C1
    go_wp2_with fail
    have hb6 := balloc w1 (.cells #[.bool p.full, .int .i64 p.file, .int .i64 p.place, .int .i64 p.value, .int .i64 p.stamp] 53)
    obtain ⟨p0, p1, p2, p3, p4⟩ := five_at (heap_alloc_new w1 (.cells #[.bool p.full, .int .i64 p.file, .int .i64 p.place, .int .i64 p.value, .int .i64 p.stamp] 53))
    obtain ⟨x0, x1, x2, x3, x4, y0, y1, y2, y3, y4⟩ := pbox_at (box_keep HB1.out.2 hb6)
    have z1 := HB1.out.1.size
    have HB6 := Lib.hid (bup2 HB1.out.1 hb6)
    have zB := (Array.getElem?_eq_some_iff.1 HB1.out.2).1
    have hne : w1.heap.size ≠ w.heap.size := by omega
    generalize w1.alloc (.cells #[.bool p.full, .int .i64 p.file, .int .i64 p.place, .int .i64 p.value, .int .i64 p.stamp] 53) = w6 at *
    clear g0 g1 g2 g3 g4 e1 e2
    have HX6 := Lib.hid (box_keep HB1.out.2 hb6)
    clear hb6
    go_region
    obtain ⟨hx7, hb7⟩ := pset_box (p := p) HX6.out HB6.out (Nat.le_refl _)
    generalize (((((w6.setCell ⟨w.heap.size, 0, none⟩ (.bool p.full)).setCell ⟨w.heap.size, 1, none⟩ (.int .i64 p.file)).setCell ⟨w.heap.size, 2, none⟩ (.int .i64 p.place)).setCell ⟨w.heap.size, 3, none⟩ (.int .i64 p.value)).setCell ⟨w.heap.size, 4, none⟩ (.int .i64 p.stamp)).drew = w7 at hx7 hb7 ⊢
    obtain ⟨s0, s1, s2, s3, s4⟩ := five_at hx7
    simp only [Nat.zero_add] at s1 s2 s3 s4
    have HF := Lib.hid hb7
    clear hx7 hb7 HX6 HB6 p0 p1 p2 p3 p4 x0 x1 x2 x3 x4 y0 y1 y2 y3 y4
    go_wp2_with fail
    refine bodyPost_ret (v := .tuple #[.agg #[.bool p.full, .int .i64 p.file, .int .i64 p.place, .int .i64 p.value, .int .i64 p.stamp], .bool p.full]) (by simp [results, Try.results28, go_sem, s0, s1, s2, s3, s4]) rfl ⟨rfl, HF.out⟩
  · rw [rdp_out (d := d) (n := n) (by
      by_cases hv : dvOk d = true
      · by_cases h0 : 0 ≤ n
        · exact .inr (.inr (Int.not_lt.1 fun h => hin ⟨hv, h0, h⟩))
        · exact .inr (.inl (by omega))
      · exact .inl (by simpa using hv))]
    have hz : pgv pg0 = .agg #[.bool pg0.full, .int .i64 pg0.file, .int .i64 pg0.place, .int .i64 pg0.value, .int .i64 pg0.stamp] := rfl
    have c1 := fun wx h => implDvv_any (.slice a d.length cap) d lo hi wx h
    have HIN := Lib.hid hin
    obtain ⟨ok, hok⟩ : ∃ ok, ok = dvOk d := ⟨_, rfl⟩
    rw [← hok] at c1
    have HOK := Lib.hid hok
    have C1 := Lib.hid c1
    have HZ := Lib.hid hz
    clear c1 hok hin hz q3
    go_enter Try.func28, Try.ntmps28
    go_wp2_with fail
    refine (C1.out _ H.out).mono ?_
    rintro e w1 ⟨rfl, b1⟩
    have HB1 := Lib.hid (bup2 HB0.out b1)
    have X1 := Lib.hid (box_keep X0.out b1)
    obtain ⟨x0, x1, x2, x3, x4, y0, y1, y2, y3, y4⟩ := pbox_at X1.out
    have hl12 : ok = true → d.length ≤ 12 := fun h => (dv_len (by rw [← HOK.out]; exact h)).2
    clear b1 C1
    have key : ok = false ∨ (ok = true ∧ decide (n < 0) = true) ∨ (ok = true ∧ decide (n < 0) = false ∧ decide ((d.length : Int) * 4 ≤ n) = true) := by
      have := HIN.out
      have := HOK.out
      cases ok
      · exact .inl rfl
      · right
        by_cases h0 : n < 0
        · exact .inl ⟨rfl, by simpa using h0⟩
        · refine .inr ⟨rfl, by simpa using h0, ?_⟩
          simp only [decide_eq_true_eq]
          by_cases h1 : n < 4 * (d.length : Int)
          · exact absurd ⟨this.symm, by omega, h1⟩ (HIN.out)
          · omega
    rcases key with rfl | ⟨rfl, k1⟩ | ⟨rfl, k1, k2⟩
    all_goals
      try have hl12' : d.length ≤ 12 := hl12 rfl
      clear hl12
      go_wp2_with fail
      obtain ⟨hx7, hb7⟩ := pset_zero X1.out HB1.out (Nat.le_refl _)
      generalize (((((w1.setCell ⟨w.heap.size, 0, none⟩ (.bool false)).setCell ⟨w.heap.size, 1, none⟩ (.int .i64 0)).setCell ⟨w.heap.size, 2, none⟩ (.int .i64 0)).setCell ⟨w.heap.size, 3, none⟩ (.int .i64 0)).setCell ⟨w.heap.size, 4, none⟩ (.int .i64 0)) = w7 at hx7 hb7 ⊢
      obtain ⟨s0, s1, s2, s3, s4⟩ := five_at hx7
      simp only [Nat.zero_add] at s1 s2 s3 s4
      rw [HZ.out]
      refine bodyPost_ret (v := .tuple #[.agg #[.bool pg0.full, .int .i64 pg0.file, .int .i64 pg0.place, .int .i64 pg0.value, .int .i64 pg0.stamp], .bool false]) (by simp [results, Try.results28, go_sem, s0, s1, s2, s3, s4]) rfl ⟨rfl, hb7⟩

set_option maxHeartbeats 2000000 in
theorem specRdp_any (v : Value) (d : List Bk) (n : Int) (lo hi : Nat) (w : World) (h : RD w lo hi v d) (hn : I64 n) :
    Calls Try.prog 62 #[v, .int .i64 n] w fun e w' => e = .returned (.tuple #[pgv (rdp d n).1, .bool (rdp d n).2]) ∧ Below w.heap.size w w' := by
  have HB0 := Lib.hid (balloc w pbox)
  have H := Lib.hid (h.below HB0.out)
  have X0 := Lib.hid (heap_alloc_new w pbox)
  obtain ⟨a, cap, b, off, rfl, q1, q2, q3, -⟩ := h.open
  clear h
  by_cases hin : dvOk d = true ∧ 0 ≤ n ∧ n < 4 * (d.length : Int)
  · obtain ⟨hv, n0, n1⟩ := hin
    have HV := Lib.hid hv
    obtain ⟨n, rfl⟩ := Int.eq_ofNat_of_zero_le n0
    obtain ⟨hk, hj, he⟩ := dat_at hv (n := n) (by omega)
    have HL := Lib.hid (dv_len hv)
    rw [rdp_in hv (by omega)]
    have h4 := dv_len4 hv hk
    obtain rfl := q3 (by omega)
    have c1 := fun wx h => specDvv_any (.slice (some ⟨b, off, none⟩) d.length cap) d lo hi wx h
    rw [hv] at c1
    have C1 := Lib.hid c1
    obtain ⟨p, hp⟩ : ∃ p, p = dat d n := ⟨_, rfl⟩
    rw [← hp] at he ⊢
    have HP := Lib.hid he
    clear c1 q3 hp he hv
    unfold pgv
    go_enter Try.func62, Try.ntmps62
    go_wp2_with fail
    refine (C1.out _ H.out).mono ?_
    rintro e w1 ⟨rfl, b1⟩
    obtain ⟨a', cap', b', off', e1, e2, -, -, r1, r2, r3, r4⟩ := (H.out.below b1).at (n / 4) hk
    have h5 := r4 (n % 4) hj
    rw [← HP.out] at h5
    obtain rfl := r3 (by omega)
    rw [h4] at e2 r1
    obtain ⟨g0, g1, g2, g3, g4⟩ := h5
    have HB1 := Lib.hid (And.intro (bup2 HB0.out b1) (box_keep X0.out b1))
    have HI := Lib.hid (inB_yes (n := (n : Int)) (lo := 0) (hi := 4 * (d.length : Int) - 1) (by omega) (by omega))
    have hl12 : d.length ≤ 12 := HL.out.2
    have k1 : (n : Int) / 4 < (d.length : Int) := by omega
    have k2 : (n : Int) % 4 < 4 := by omega
    clear b1 r3 r4 C1
    go_wp2_with fail
    refine (l1In_any _ _ _ _).mono ?_
    rintro e wq ⟨rfl, rfl⟩
    rw [HI.out]
    go_wp2_with fail
    have hb6 := balloc w1 (.cells #[.bool p.full, .int .i64 p.file, .int .i64 p.place, .int .i64 p.value, .int .i64 p.stamp] 53)
    obtain ⟨p0, p1, p2, p3, p4⟩ := five_at (heap_alloc_new w1 (.cells #[.bool p.full, .int .i64 p.file, .int .i64 p.place, .int .i64 p.value, .int .i64 p.stamp] 53))
    obtain ⟨x0, x1, x2, x3, x4, y0, y1, y2, y3, y4⟩ := pbox_at (box_keep HB1.out.2 hb6)
    have z1 := HB1.out.1.size
    have HB6 := Lib.hid (bup2 HB1.out.1 hb6)
    have zB := (Array.getElem?_eq_some_iff.1 HB1.out.2).1
    have hne : w1.heap.size ≠ w.heap.size := by omega
    generalize w1.alloc (.cells #[.bool p.full, .int .i64 p.file, .int .i64 p.place, .int .i64 p.value, .int .i64 p.stamp] 53) = w6 at *
    clear g0 g1 g2 g3 g4 e1 e2
    have HX6 := Lib.hid (box_keep HB1.out.2 hb6)
    clear hb6
    go_region
    obtain ⟨hx7, hb7⟩ := pset_box (p := p) HX6.out HB6.out (Nat.le_refl _)
    generalize (((((w6.setCell ⟨w.heap.size, 0, none⟩ (.bool p.full)).setCell ⟨w.heap.size, 1, none⟩ (.int .i64 p.file)).setCell ⟨w.heap.size, 2, none⟩ (.int .i64 p.place)).setCell ⟨w.heap.size, 3, none⟩ (.int .i64 p.value)).setCell ⟨w.heap.size, 4, none⟩ (.int .i64 p.stamp)).drew = w7 at hx7 hb7 ⊢
    obtain ⟨s0, s1, s2, s3, s4⟩ := five_at hx7
    simp only [Nat.zero_add] at s1 s2 s3 s4
    have HF := Lib.hid hb7
    clear hx7 hb7 HX6 HB6 p0 p1 p2 p3 p4 x0 x1 x2 x3 x4 y0 y1 y2 y3 y4
    go_wp2_with fail
    refine bodyPost_ret (v := .tuple #[.agg #[.bool p.full, .int .i64 p.file, .int .i64 p.place, .int .i64 p.value, .int .i64 p.stamp], .bool p.full]) (by simp [results, Try.results62, go_sem, s0, s1, s2, s3, s4]) rfl ⟨rfl, HF.out⟩
  · rw [rdp_out (d := d) (n := n) (by
      by_cases hv : dvOk d = true
      · by_cases h0 : 0 ≤ n
        · exact .inr (.inr (Int.not_lt.1 fun h => hin ⟨hv, h0, h⟩))
        · exact .inr (.inl (by omega))
      · exact .inl (by simpa using hv))]
    have hz : pgv pg0 = .agg #[.bool pg0.full, .int .i64 pg0.file, .int .i64 pg0.place, .int .i64 pg0.value, .int .i64 pg0.stamp] := rfl
    have c1 := fun wx h => specDvv_any (.slice a d.length cap) d lo hi wx h
    have HIN := Lib.hid hin
    obtain ⟨ok, hok⟩ : ∃ ok, ok = dvOk d := ⟨_, rfl⟩
    rw [← hok] at c1
    have HOK := Lib.hid hok
    have C1 := Lib.hid c1
    have HZ := Lib.hid hz
    clear c1 hok hin hz q3
    go_enter Try.func62, Try.ntmps62
    go_wp2_with fail
    refine (C1.out _ H.out).mono ?_
    rintro e w1 ⟨rfl, b1⟩
    have HB1 := Lib.hid (bup2 HB0.out b1)
    have X1 := Lib.hid (box_keep X0.out b1)
    obtain ⟨x0, x1, x2, x3, x4, y0, y1, y2, y3, y4⟩ := pbox_at X1.out
    have hl12 : ok = true → d.length ≤ 12 := fun h => (dv_len (by rw [← HOK.out]; exact h)).2
    clear b1 C1
    have key : ok = false ∨ (ok = true ∧ inB n 0 (4 * (d.length : Int) - 1) = false) := by
      have := HIN.out
      have := HOK.out
      cases ok
      · exact .inl rfl
      · right
        refine ⟨rfl, ?_⟩
        cases hi : inB n 0 (4 * (d.length : Int) - 1) with
        | false => rfl
        | true =>
          have := inB_iff.1 hi
          exact absurd ⟨HOK.out.symm, this.1, by omega⟩ HIN.out
    rcases key with rfl | ⟨rfl, k1⟩
    · clear hl12
      go_wp2_with fail
      obtain ⟨hx7, hb7⟩ := pset_zero X1.out HB1.out (Nat.le_refl _)
      generalize (((((w1.setCell ⟨w.heap.size, 0, none⟩ (.bool false)).setCell ⟨w.heap.size, 1, none⟩ (.int .i64 0)).setCell ⟨w.heap.size, 2, none⟩ (.int .i64 0)).setCell ⟨w.heap.size, 3, none⟩ (.int .i64 0)).setCell ⟨w.heap.size, 4, none⟩ (.int .i64 0)) = w7 at hx7 hb7 ⊢
      obtain ⟨s0, s1, s2, s3, s4⟩ := five_at hx7
      simp only [Nat.zero_add] at s1 s2 s3 s4
      rw [HZ.out]
      refine bodyPost_ret (v := .tuple #[.agg #[.bool pg0.full, .int .i64 pg0.file, .int .i64 pg0.place, .int .i64 pg0.value, .int .i64 pg0.stamp], .bool false]) (by simp [results, Try.results62, go_sem, s0, s1, s2, s3, s4]) rfl ⟨rfl, hb7⟩
    · have hl12' : d.length ≤ 12 := hl12 rfl
      have K1 := Lib.hid k1
      clear hl12 k1
      go_wp2_with fail
      refine (l1In_any _ _ _ _).mono ?_
      rintro e wq ⟨rfl, rfl⟩
      rw [K1.out]
      go_wp2_with fail
      obtain ⟨hx7, hb7⟩ := pset_zero X1.out HB1.out (Nat.le_refl _)
      generalize (((((w1.setCell ⟨w.heap.size, 0, none⟩ (.bool false)).setCell ⟨w.heap.size, 1, none⟩ (.int .i64 0)).setCell ⟨w.heap.size, 2, none⟩ (.int .i64 0)).setCell ⟨w.heap.size, 3, none⟩ (.int .i64 0)).setCell ⟨w.heap.size, 4, none⟩ (.int .i64 0)) = w7 at hx7 hb7 ⊢
      obtain ⟨s0, s1, s2, s3, s4⟩ := five_at hx7
      simp only [Nat.zero_add] at s1 s2 s3 s4
      rw [HZ.out]
      refine bodyPost_ret (v := .tuple #[.agg #[.bool pg0.full, .int .i64 pg0.file, .int .i64 pg0.place, .int .i64 pg0.value, .int .i64 pg0.stamp], .bool false]) (by simp [results, Try.results62, go_sem, s0, s1, s2, s3, s4]) rfl ⟨rfl, hb7⟩

set_option maxHeartbeats 2000000 in
theorem implPat_any (v : Value) (d : List Bk) (n : Nat) (lo hi : Nat) (w : World) (h : RD w lo hi v d) (hv : dvOk d = true) (hn : n < 4 * d.length) :
    Calls Try.prog 45 #[v, .int .i64 n] w fun e w' => e = .returned (pgv (dat d n)) ∧ Below w.heap.size w w' := by
  have HB0 := Lib.hid (balloc w pbox)
  have H := Lib.hid (h.below HB0.out)
  obtain ⟨a, cap, b, off, rfl, q1, q2, q3, -⟩ := h.open
  obtain ⟨hk, hj, he⟩ := dat_at hv hn
  have HL := Lib.hid (dv_len hv)
  have h4 := dv_len4 hv hk
  obtain rfl := q3 (by omega)
  obtain ⟨p, hp⟩ : ∃ p, p = dat d n := ⟨_, rfl⟩
  rw [← hp] at he ⊢
  obtain ⟨a', cap', b', off', e1, e2, -, -, r1, r2, r3, r4⟩ := H.out.at (n / 4) hk
  have h5 := r4 (n % 4) hj
  rw [← he] at h5
  obtain rfl := r3 (by omega)
  rw [h4] at e2 r1
  obtain ⟨g0, g1, g2, g3, g4⟩ := h5
  have hl12 : d.length ≤ 12 := HL.out.2
  have k1 : (n : Int) / 4 < (d.length : Int) := by omega
  have k2 : (n : Int) % 4 < 4 := by omega
  clear q3 hp he hv r3 r4 h
  unfold pgv
  unfold pbox at *
  go_enter Try.func45, Try.ntmps45
  go_wp2_with fail
  obtain ⟨s0, s1, s2, s3, s4⟩ := five_at (heap_alloc_new w (.cells #[.bool p.full, .int .i64 p.file, .int .i64 p.place, .int .i64 p.value, .int .i64 p.stamp] 53))
  simp only [Nat.zero_add] at s1 s2 s3 s4
  refine bodyPost_ret (v := .agg #[.bool p.full, .int .i64 p.file, .int .i64 p.place, .int .i64 p.value, .int .i64 p.stamp]) (by simp [results, Try.results45, go_sem, s0, s1, s2, s3, s4]) rfl ⟨rfl, balloc _ _⟩

end Go.Proofs.Ytjmofmdcegefgaa

