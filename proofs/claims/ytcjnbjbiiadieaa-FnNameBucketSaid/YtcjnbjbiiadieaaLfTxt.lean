/-
  The walks of the laws FnTextValid and FnNameBucket.
-/
import Derived.Test.YtcjnbjbiiadieaaTxt
import Derived.Test.YtcjnbjbiiadieaaDrTxt
namespace Go.Proofs.Ytcjnbjbiiadieaa
open Go.RowKit

theorem txt_snoc (l : List UInt8) : txt (l ++ [49]) = false := by
  simp only [txt, List.all_append, List.all_cons, List.all_nil]
  have : letter 49 = false := by decide
  simp [this]
theorem txt_head {l : List UInt8} (h : txt l = true) : txt (l.take 1) = true := by
  simp only [txt, Bool.and_eq_true, decide_eq_true_eq, List.all_eq_true] at h ⊢
  obtain ⟨⟨h1, h2⟩, h3⟩ := h
  refine ⟨⟨by simp; omega, by simp; omega⟩, fun x hx => h3 x (List.mem_of_mem_take hx)⟩
theorem txt_size {s : ByteArray} (h : txt s.data.toList = true) : 1 ≤ s.size := by
  simp only [txt, Bool.and_eq_true, decide_eq_true_eq] at h
  simpa using h.1.1
theorem bucket_bd (l : List UInt8) : -1 ≤ bucket l ∧ bucket l < 3 ∧ (0 ≤ bucket l ↔ txt l = true) := by
  unfold bucket
  split
  · rename_i h; simp [h]; omega
  · rename_i h; simp [h]

set_option maxHeartbeats 400000 in
theorem FnTextValid_walk (w : World) (v : Value) (bs : List Int) (h : RB w 0 w.heap.size v bs) :
    Calls Try.prog 6 #[v] w fun e w' => e = .returned (.bool true) ∧ Below w.heap.size w w' := by
  have H := Lib.hid h
  obtain ⟨a, cap, b, off, rfl, -⟩ := h.open
  clear h
  by_cases hl : bs.length ≤ 1048576
  · go_enter Try.func6, Try.ntmps6
    go_wp2_with fail
    refine (drawTextValid _ _ bs H.out).mono ?_
    rintro e w1 ⟨s, rfl, hs, b1⟩
    have B1 := Lib.hid b1
    clear b1
    go_wp2_with fail
    refine (implText_any s (by omega) _).mono ?_
    rintro e w' ⟨rfl, rfl⟩
    go_wp2_with fail
    refine (specText_any s (by omega) _).mono ?_
    rintro e w' ⟨rfl, rfl⟩
    have e1 : txt (s ++ ⟨#[49]⟩).data.toList = false := by
      have : (s ++ ⟨#[49]⟩ : ByteArray).data.toList = s.data.toList ++ [49] := by simp [ByteArray.data_append]
      rw [this]; exact txt_snoc _
    have hone : (⟨#[49]⟩ : ByteArray).size = 1 := rfl
    have c1 := fun wx => implText_any (s ++ ⟨#[49]⟩) (by rw [ByteArray.size_append, hone]; omega) wx
    clear hone
    rw [e1] at c1
    have C1 := Lib.hid c1
    clear c1 e1
    by_cases ht : txt s.data.toList = true
    · have hz := txt_size ht
      have e2 : txt (s.extract 0 1).data.toList = true := by
        have : (s.extract 0 1).data.toList = s.data.toList.take 1 := by
          rw [ByteArray.data_extract]; simp [List.extract]
        rw [this]; exact txt_head ht
      have c2 := fun wx => implText_any (s.extract 0 1) (by simp; omega) wx
      rw [e2] at c2
      have C2 := Lib.hid c2
      clear c2 e2
      go_wp2_with fail
      refine (C1.out _).mono ?_
      rintro e w' ⟨rfl, rfl⟩
      go_wp2_with fail
      refine (C2.out _).mono ?_
      rintro e w' ⟨rfl, rfl⟩
      go_wp2_with fail
      refine (alive_any _).mono ?_
      rintro e w' ⟨rfl, rfl⟩
      go_wp2_with fail
      all_goals (go_ret; exact ⟨rfl, B1.out⟩)
    · have ht' : txt s.data.toList = false := by simpa using ht
      go_wp2_with fail
      refine (C1.out _).mono ?_
      rintro e w' ⟨rfl, rfl⟩
      go_wp2_with fail
      refine (alive_any _).mono ?_
      rintro e w' ⟨rfl, rfl⟩
      go_wp2_with fail
      all_goals (go_ret; exact ⟨rfl, B1.out⟩)
  · go_enter Try.func6, Try.ntmps6
    go_wp2_with fail
    all_goals (go_ret; exact ⟨rfl, Below.refl _ _⟩)

set_option maxHeartbeats 400000 in
theorem FnNameBucket_walk (w : World) (v : Value) (bs : List Int) (h : RB w 0 w.heap.size v bs) :
    Calls Try.prog 10 #[v] w fun e w' => e = .returned (.bool true) ∧ Below w.heap.size w w' := by
  have H := Lib.hid h
  obtain ⟨a, cap, b, off, rfl, -⟩ := h.open
  clear h
  by_cases hl : bs.length ≤ 1048576
  · go_enter Try.func10, Try.ntmps10
    go_wp2_with fail
    refine (drawNameBucket _ _ bs H.out).mono ?_
    rintro e w1 ⟨s, rfl, hs, b1⟩
    have B1 := Lib.hid b1
    clear b1
    go_wp2_with fail
    refine (implBucket_any s (by omega) _).mono ?_
    rintro e w' ⟨rfl, rfl⟩
    go_wp2_with fail
    refine (specBucket_any s (by omega) _).mono ?_
    rintro e w' ⟨rfl, rfl⟩
    have hb := bucket_bd s.data.toList
    by_cases ht : txt s.data.toList = true
    · have h0 := hb.2.2.2 ht
      have h1 := hb.2.1
      have h2 := hb.1
      clear hb
      generalize bucket s.data.toList = n at h0 h1 h2 ⊢
      go_wp2_with fail
      refine (implText_any s (by omega) _).mono ?_
      rintro e w' ⟨rfl, rfl⟩
      go_wp2_with fail
      refine (alive_any _).mono ?_
      rintro e w' ⟨rfl, rfl⟩
      go_wp2_with fail
      all_goals (go_ret; exact ⟨rfl, B1.out⟩)
    · have ht' : txt s.data.toList = false := by simpa using ht
      have h0 : bucket s.data.toList < 0 := by
        rcases Int.lt_or_le (bucket s.data.toList) 0 with h | h
        · exact h
        · exact absurd (hb.2.2.1 h) ht
      have h1 := hb.1
      have h2 := hb.2.1
      have h3 : decide (0 ≤ bucket s.data.toList) = false := by simp; omega
      clear hb ht
      generalize bucket s.data.toList = n at h0 h1 h2 h3 ⊢
      go_wp2_with fail
      refine (implText_any s (by omega) _).mono ?_
      rintro e w' ⟨rfl, rfl⟩
      go_wp2_with fail
      refine (alive_any _).mono ?_
      rintro e w' ⟨rfl, rfl⟩
      go_wp2_with fail
      all_goals (go_ret; exact ⟨rfl, B1.out⟩)
  · go_enter Try.func10, Try.ntmps10
    go_wp2_with fail
    all_goals (go_ret; exact ⟨rfl, Below.refl _ _⟩)

end Go.Proofs.Ytcjnbjbiiadieaa
