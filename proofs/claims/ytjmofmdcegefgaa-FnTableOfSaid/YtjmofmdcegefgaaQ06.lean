/-
  Texts of this claim, laid together: Tbg.
-/
import Derived.Test.YtjmofmdcegefgaaQ05
namespace Go.Proofs.Ytjmofmdcegefgaa
open Go.RowKit

theorem tget_in {t : List (List Int)} {f p : Nat} (hv : tabVal t = true) (hf : f < t.length) (hp : p < t[f].length) : tget t f p = t[f][p] := by
  have h8 := tab_len hv
  have h6 := tab_row hv hf
  rw [tget, if_pos ⟨hv, by simp only [inFP, Bool.and_eq_true, inB_iff]; omega⟩, Int.toNat_natCast, Int.toNat_natCast, tat_eq hf hp]
theorem tget_bad {t : List (List Int)} {f p : Int} (hv : tabVal t = false) : tget t f p = -1 := by rw [tget, if_neg (by rw [hv]; simp)]
theorem tget_out {t : List (List Int)} {f p : Int} (h : ¬ (0 ≤ f ∧ f ≤ 7 ∧ 0 ≤ p ∧ p ≤ 5)) : tget t f p = -1 := by
  rw [tget, if_neg (by simp only [inFP, Bool.and_eq_true, inB_iff]; omega)]
theorem fsz_in {t : List (List Int)} {f : Nat} (hv : tabVal t = true) (hf : f < t.length) : fsz t f = rsz t[f] := by
  have h8 := tab_len hv
  rw [fsz, if_pos ⟨hv, inB_yes (by omega) (by omega)⟩, Int.toNat_natCast, getD_at hf]
theorem fsz_bad {t : List (List Int)} {f : Int} (hv : tabVal t = false) : fsz t f = -1 := by rw [fsz, if_neg (by rw [hv]; simp)]
theorem fsz_out {t : List (List Int)} {f : Int} (h : ¬ (0 ≤ f ∧ f ≤ 7)) : fsz t f = -1 := by
  rw [fsz, if_neg (by rw [inB_iff]; omega)]

set_option maxHeartbeats 1000000 in
theorem implGet_any (v : Value) (t : List (List Int)) (f p : Int) (lo hi : Nat) (w : World) (h : RT w lo hi v t) :
    Calls Try.prog 29 #[.agg #[v], .int .i64 f, .int .i64 p] w fun e w' => e = .returned (.int .i64 (tget t f p)) ∧ Below w.heap.size w w' := by
  obtain ⟨a, cap, b, off, rfl, q1, q2, q3, q4⟩ := h.open
  have hb0 : Below w.heap.size w (w.alloc (.cells #[.slice a t.length cap] 26)) := (Below.refl _ _).alloc (Nat.le_refl _) _
  have HT := Lib.hid (h.below hb0)
  have HB0 := Lib.hid hb0
  have Q4 := Lib.hid q4
  clear h q4 hb0
  by_cases hv : tabVal t = true
  · by_cases hfp : 0 ≤ f ∧ f ≤ 7 ∧ 0 ≤ p ∧ p ≤ 5
    · obtain ⟨hf0, hf1, hp0, hp1⟩ := hfp
      obtain ⟨f, rfl⟩ := Int.eq_ofNat_of_zero_le hf0
      obtain ⟨p, rfl⟩ := Int.eq_ofNat_of_zero_le hp0
      have h8 := tab_len hv
      have hlt : f < t.length := by omega
      have hpl : p < t[f].length := by rw [tab_row hv hlt]; omega
      rw [tget_in hv hlt hpl]
      obtain ⟨u, hcu, hu⟩ := Q4.out f hlt
      obtain ⟨a2, cap2, b2, off2, rfl, s1, s2, s3, s4⟩ := hu.open
      obtain rfl := q3 (by omega)
      obtain rfl := s3 (by omega)
      have HC := Lib.hid (And.intro hcu (s4 p hpl))
      have HBX := Lib.hid (one_at (heap_alloc_new w (.cells #[.slice (some ⟨b, off, none⟩) t.length cap] 26)))
      have HV := Lib.hid hv
      have hd0 : (0 : Int) ≤ (f : Int) := by omega
      clear h8 hu hcu s4 q3 s3 hv
      go_enter Try.func29, Try.ntmps29
      go_wp2_with fail
      refine (implTbv_any _ t lo hi _ HT.out).mono ?_
      rintro e w1 ⟨rfl, b1⟩
      have HB1 := Lib.hid (HB0.out.trans (b1.mono (by simp)))
      have hbx := cell_later b1 HBX.out.1
      have c1 := cell_later HB1.out HC.out.1
      have c2 := cell_later HB1.out HC.out.2
      have hv' : tabVal t = true := HV.out
      clear b1
      go_wp2_with fail
      go_ret
      exact ⟨rfl, HB1.out⟩
    · rw [tget_out hfp]
      have HV := Lib.hid hv
      clear hv
      rcases (show f < 0 ∨ (0 ≤ f ∧ 7 < f) ∨ (0 ≤ f ∧ f ≤ 7 ∧ p < 0) ∨ (0 ≤ f ∧ f ≤ 7 ∧ 0 ≤ p ∧ 5 < p) from by omega) with h1 | ⟨h1, h2⟩ | ⟨h1, h2, h3⟩ | ⟨h1, h2, h3, h4⟩
      all_goals
        clear hfp
        go_enter Try.func29, Try.ntmps29
        go_wp2_with fail
        refine (implTbv_any _ t lo hi _ HT.out).mono ?_
        rintro e w1 ⟨rfl, b1⟩
        have HB1 := Lib.hid (HB0.out.trans (b1.mono (by simp)))
        have hv' : tabVal t = true := HV.out
        clear b1
        go_wp2_with fail
        all_goals (go_ret; exact ⟨rfl, HB1.out⟩)
  · have hv2 : tabVal t = false := by simpa using hv
    rw [tget_bad hv2]
    have HV := Lib.hid hv2
    clear hv hv2
    go_enter Try.func29, Try.ntmps29
    go_wp2_with fail
    refine (implTbv_any _ t lo hi _ HT.out).mono ?_
    rintro e w1 ⟨rfl, b1⟩
    have HB1 := Lib.hid (HB0.out.trans (b1.mono (by simp)))
    have hv' : tabVal t = false := HV.out
    clear b1
    go_wp2_with fail
    all_goals (go_ret; exact ⟨rfl, HB1.out⟩)



set_option maxHeartbeats 1000000 in
theorem implFsz_any (v : Value) (t : List (List Int)) (f : Int) (lo hi : Nat) (w : World) (h : RT w lo hi v t) :
    Calls Try.prog 36 #[.agg #[v], .int .i64 f] w fun e w' => e = .returned (.int .i64 (fsz t f)) ∧ Below w.heap.size w w' := by
  obtain ⟨a, cap, b, off, rfl, q1, q2, q3, q4⟩ := h.open
  have hb0 : Below w.heap.size w (w.alloc (.cells #[.slice a t.length cap] 26)) := (Below.refl _ _).alloc (Nat.le_refl _) _
  have HT := Lib.hid (h.below hb0)
  have HB0 := Lib.hid hb0
  have Q4 := Lib.hid q4
  clear h q4 hb0
  by_cases hv : tabVal t = true
  · by_cases hf : 0 ≤ f ∧ f ≤ 7
    · obtain ⟨hf0, hf1⟩ := hf
      obtain ⟨f, rfl⟩ := Int.eq_ofNat_of_zero_le hf0
      have h8 := tab_len hv
      have hlt : f < t.length := by omega
      have h6 := tab_row hv hlt
      rw [fsz_in hv hlt]
      obtain ⟨u, hcu, hu⟩ := Q4.out f hlt
      obtain ⟨a2, cap2, b2, off2, rfl, s1, s2, s3, s4⟩ := hu.open
      obtain rfl := q3 (by omega)
      obtain rfl := s3 (by omega)
      have HC := Lib.hid hcu
      have S4 := Lib.hid s4
      have HBX := Lib.hid (one_at (heap_alloc_new w (.cells #[.slice (some ⟨b, off, none⟩) t.length cap] 26)))
      have HV := Lib.hid hv
      have H6 := Lib.hid h6
      generalize hR : rsz t[f] = R
      have HR := Lib.hid hR
      have HL6 : t[f].length ≤ 6 := by omega
      have hd0 : (0 : Int) ≤ (f : Int) := by omega
      clear h8 h6 hu hcu s4 q3 s3 hv hR
      go_enter Try.func36, Try.ntmps36
      go_wp2_with fail
      refine (implTbv_any _ t lo hi _ HT.out).mono ?_
      rintro e w1 ⟨rfl, b1⟩
      have HB1 := Lib.hid (HB0.out.trans (b1.mono (by simp)))
      have hbx := cell_later b1 HBX.out.1
      have c1 := cell_later HB1.out HC.out
      have hv' : tabVal t = true := HV.out
      clear b1
      go_wp2_with fail
      go_loop [5, 6, 7, 25] (fun s _ _ i => ∃ p : Nat, p ≤ t[f].length ∧ i = .int .i64 p ∧ s = .int .i64 (rsz (t[f].take p))) (fun _ _ _ i => t[f].length - (intOf i).toNat)
      case atStart => exact ⟨0, Nat.zero_le _, rfl, rfl⟩
      case round =>
        obtain ⟨p, hp, rfl, rfl⟩ := hrel
        by_cases hpl : p < t[f].length
        · have c2 := cell_later HB1.out (S4.out p hpl)
          have HS := Lib.hid (rsz_take hpl)
          by_cases h0 : 0 ≤ t[f][p]
          · go_wp2_with fail
            go_round
            case rel => exact ⟨p + 1, by omega, by go_num, by rw [HS.out, if_pos h0]; go_num⟩
            case measure => simp [intOf]; omega
          · have hd : decide (0 ≤ t[f][p]) = false := by simp; omega
            go_wp2_with fail
            go_round
            case rel => exact ⟨p + 1, by omega, by go_num, by rw [HS.out, if_neg h0]⟩
            case measure => simp [intOf]; omega
        · have HT := Lib.hid (show rsz (t[f].take p) = R by rw [List.take_of_length_le (by omega)]; exact HR.out)
          go_wp2_with fail
          go_ret
          exact ⟨ret_int (by rw [HT.out]), HB1.out⟩
    · rw [fsz_out hf]
      have HV := Lib.hid hv
      clear hv
      rcases (show f < 0 ∨ (0 ≤ f ∧ 7 < f) from by omega) with h1 | ⟨h1, h2⟩
      all_goals
        clear hf
        go_enter Try.func36, Try.ntmps36
        go_wp2_with fail
        refine (implTbv_any _ t lo hi _ HT.out).mono ?_
        rintro e w1 ⟨rfl, b1⟩
        have HB1 := Lib.hid (HB0.out.trans (b1.mono (by simp)))
        have hv' : tabVal t = true := HV.out
        clear b1
        go_wp2_with fail
        all_goals (go_ret; exact ⟨rfl, HB1.out⟩)
  · have hv2 : tabVal t = false := by simpa using hv
    rw [fsz_bad hv2]
    have HV := Lib.hid hv2
    clear hv hv2
    go_enter Try.func36, Try.ntmps36
    go_wp2_with fail
    refine (implTbv_any _ t lo hi _ HT.out).mono ?_
    rintro e w1 ⟨rfl, b1⟩
    have HB1 := Lib.hid (HB0.out.trans (b1.mono (by simp)))
    have hv' : tabVal t = false := HV.out
    clear b1
    go_wp2_with fail
    all_goals (go_ret; exact ⟨rfl, HB1.out⟩)

set_option maxHeartbeats 1000000 in
theorem specFsz_any (v : Value) (t : List (List Int)) (f : Int) (lo hi : Nat) (w : World) (h : RT w lo hi v t) :
    Calls Try.prog 65 #[.agg #[v], .int .i64 f] w fun e w' => e = .returned (.int .i64 (fsz t f)) ∧ Below w.heap.size w w' := by
  obtain ⟨a, cap, b, off, rfl, q1, q2, q3, q4⟩ := h.open
  have hb0 : Below w.heap.size w (w.alloc (.cells #[.slice a t.length cap] 26)) := (Below.refl _ _).alloc (Nat.le_refl _) _
  have HT := Lib.hid (h.below hb0)
  have HB0 := Lib.hid hb0
  have Q4 := Lib.hid q4
  clear h q4 hb0
  by_cases hv : tabVal t = true
  · by_cases hf : 0 ≤ f ∧ f ≤ 7
    · obtain ⟨hf0, hf1⟩ := hf
      obtain ⟨f, rfl⟩ := Int.eq_ofNat_of_zero_le hf0
      have h8 := tab_len hv
      have hlt : f < t.length := by omega
      have h6 := tab_row hv hlt
      rw [fsz_in hv hlt]
      obtain ⟨u, hcu, hu⟩ := Q4.out f hlt
      obtain ⟨a2, cap2, b2, off2, rfl, s1, s2, s3, s4⟩ := hu.open
      obtain rfl := q3 (by omega)
      obtain rfl := s3 (by omega)
      have HC := Lib.hid hcu
      have S4 := Lib.hid s4
      have HBX := Lib.hid (one_at (heap_alloc_new w (.cells #[.slice (some ⟨b, off, none⟩) t.length cap] 26)))
      have HV := Lib.hid hv
      have H6 := Lib.hid h6
      generalize hR : rsz t[f] = R
      have HR := Lib.hid (show rsz (t[f].take 6) = R by rw [List.take_of_length_le (by omega)]; exact hR)
      have hi1 := inB_yes (n := (f : Int)) (lo := 0) (hi := 7) (by omega) (by omega)
      clear h8 h6 hu hcu s4 q3 s3 hv hR
      go_enter Try.func65, Try.ntmps65
      go_wp2_with fail
      refine (specTbv_any _ t lo hi _ HT.out).mono ?_
      rintro e w1 ⟨rfl, b1⟩
      have HB1 := Lib.hid (HB0.out.trans (b1.mono (by simp)))
      have hbx := cell_later b1 HBX.out.1
      have c1 := cell_later HB1.out HC.out
      have hv' : tabVal t = true := HV.out
      clear b1
      go_wp2_with (go_at_call 56; refine (l1In_any _ _ _ _).mono ?_; rintro e w' ⟨rfl, rfl⟩)
      go_loop [5] (fun i => ∃ p : Nat, p ≤ 6 ∧ i = .int .i64 ((p : Int) - 1) ∧ Hid (rsz (t[f].take p) = R)) (fun i => (intOf i + 1).toNat)
      case atStart => exact ⟨6, Nat.le_refl _, rfl, HR⟩
      case round =>
        obtain ⟨p, hp, rfl, H0⟩ := hrel
        clear HR
        rcases p with _ | p
        · have HT := Lib.hid (show R = 0 by rw [← H0.out]; rfl)
          go_wp2_with fail
          go_ret
          exact ⟨ret_int (by rw [HT.out]; rfl), HB1.out⟩
        · have hpl : p < t[f].length := by have := H6.out; omega
          have c2 := cell_later HB1.out (S4.out p hpl)
          have HS := Lib.hid ((rsz_take hpl).symm.trans H0.out)
          have e1 : (((p + 1 : Nat) : Int) - 1) = (p : Int) := by omega
          rw [e1]
          clear e1
          by_cases h0 : 0 ≤ t[f][p]
          · have HF := Lib.hid (show R = p + 1 by rw [← HS.out, if_pos h0])
            go_wp2_with fail
            go_ret
            exact ⟨ret_int (by rw [HF.out]; go_num), HB1.out⟩
          · have hd : decide (0 ≤ t[f][p]) = false := by simp; omega
            have HF := Lib.hid (show rsz (t[f].take p) = R by rw [← HS.out, if_neg h0])
            go_wp2_with fail
            go_round
            case rel => exact ⟨p, by omega, rfl, HF⟩
            case measure => simp [intOf] <;> omega
    · rw [fsz_out hf]
      have HV := Lib.hid hv
      have hi1 : inB f 0 7 = false := inB_no (by omega)
      clear hv hf
      go_enter Try.func65, Try.ntmps65
      go_wp2_with fail
      refine (specTbv_any _ t lo hi _ HT.out).mono ?_
      rintro e w1 ⟨rfl, b1⟩
      have HB1 := Lib.hid (HB0.out.trans (b1.mono (by simp)))
      have hv' : tabVal t = true := HV.out
      clear b1
      go_wp2_with (go_at_call 56; refine (l1In_any _ _ _ _).mono ?_; rintro e w' ⟨rfl, rfl⟩)
      all_goals (go_ret; exact ⟨rfl, HB1.out⟩)
  · have hv2 : tabVal t = false := by simpa using hv
    rw [fsz_bad hv2]
    have HV := Lib.hid hv2
    clear hv hv2
    go_enter Try.func65, Try.ntmps65
    go_wp2_with fail
    refine (specTbv_any _ t lo hi _ HT.out).mono ?_
    rintro e w1 ⟨rfl, b1⟩
    have HB1 := Lib.hid (HB0.out.trans (b1.mono (by simp)))
    have hv' : tabVal t = false := HV.out
    clear b1
    go_wp2_with fail
    all_goals (go_ret; exact ⟨rfl, HB1.out⟩)

end Go.Proofs.Ytjmofmdcegefgaa

