/-
  The walks over one text: TextValid and NameBucket, of the program and of the reference.
-/
import Derived.Test.YthhganlnljoinaaNum
namespace Go.Proofs.Ythhganlnljoinaa
open Go.RowKit

theorem txt_long {l : List UInt8} (h : ¬ (1 ≤ l.length ∧ l.length ≤ 8)) : txt l = false := by
  have : (decide (1 ≤ l.length) && decide (l.length ≤ 8)) = false := by simp only [Bool.and_eq_false_iff, decide_eq_false_iff_not]; omega
  simp [txt, this]
theorem txt_mid {l : List UInt8} (h1 : 1 ≤ l.length) (h2 : l.length ≤ 8) : txt l = l.all letter := by simp [txt, h1, h2]
theorem letter_no {c : UInt8} (h : (c.toNat : Int) < 97 ∨ 122 < (c.toNat : Int)) : letter c = false := by
  simp only [letter, Bool.and_eq_false_iff, decide_eq_false_iff_not]; omega
theorem letter_yes {c : UInt8} (h : 97 ≤ (c.toNat : Int)) (h' : (c.toNat : Int) ≤ 122) : letter c = true := by
  simp only [letter, Bool.and_eq_true, decide_eq_true_eq]; omega

set_option maxHeartbeats 400000 in
theorem implText_any (s : ByteArray) (hs : s.size ≤ 9223372036854775807) (w : World) :
    Calls Try.prog 34 #[.string s] w fun e w' => e = .returned (.bool (txt s.data.toList)) ∧ w = w' := by
  by_cases h0 : 1 ≤ s.size ∧ s.size ≤ 8
  · obtain ⟨h1, h2⟩ := h0
    rw [txt_mid (by simpa using h1) (by simpa using h2)]
    generalize hR : s.data.toList.all letter = R
    have HR : Hid (R = (s.data.toList.drop 0).all letter) := Lib.hid hR.symm
    clear hR
    go_enter Try.func34, Try.ntmps34
    go_wp2
    go_loop [3, 14] (fun _ i => ∃ k : Nat, k ≤ s.size ∧ i = .int .i64 k ∧ Hid (R = (s.data.toList.drop k).all letter)) (fun _ i => s.size - (intOf i).toNat)
    case atStart => exact ⟨0, Nat.zero_le _, rfl, HR⟩
    case round =>
      obtain ⟨k, hk, rfl, H⟩ := hrel
      clear HR
      by_cases hlt : k < s.size
      · have H2 : Hid (R = (letter s[k] && (s.data.toList.drop (k + 1)).all letter)) := H.out.trans (all_drop letter s.data.toList k (by simpa using hlt))
        clear H
        go_wp2
        all_goals first
          | (go_round
             case rel => exact ⟨k + 1, by omega, by go_num, Lib.hid (by rw [H2.out, letter_yes (by omega) (by omega)]; rfl)⟩
             case measure => simp [intOf]; omega)
          | (go_ret; exact ⟨ret_bool (by rw [H2.out, letter_no (by omega)]; rfl), rfl⟩)
      · go_wp2
        go_ret
        exact ⟨ret_bool (by rw [H.out, all_end _ _ _ (by simpa using hlt)]), rfl⟩
  · rw [txt_long (by simpa using h0)]
    rcases (show s.size < 1 ∨ (1 ≤ s.size ∧ 8 < s.size) from by omega) with h1 | ⟨h1, h2⟩
    all_goals
      clear h0
      go_enter Try.func34, Try.ntmps34
      go_wp2
      all_goals (go_ret; exact ⟨rfl, rfl⟩)

set_option maxHeartbeats 400000 in
theorem specText_any (s : ByteArray) (hs : s.size ≤ 9223372036854775807) (w : World) :
    Calls Try.prog 45 #[.string s] w fun e w' => e = .returned (.bool (txt s.data.toList)) ∧ w = w' := by
  have hin : txt s.data.toList = (inB (s.size : Int) 1 8 && s.data.toList.all letter) := by
    by_cases h0 : 1 ≤ s.size ∧ s.size ≤ 8
    · rw [inB_yes (by omega) (by omega), txt_mid (by simpa using h0.1) (by simpa using h0.2)]; rfl
    · rw [inB_no (by omega), txt_long (by simpa using h0)]; rfl
  rw [hin]
  generalize hR : (inB (s.size : Int) 1 8 && s.data.toList.all letter) = R
  have HR : Hid (R = (inB (s.size : Int) 1 8 && (s.data.toList.drop 0).all letter)) := Lib.hid hR.symm
  clear hR hin
  go_enter Try.func45, Try.ntmps45
  go_wp2
  go_loop [3] (fun i => ∃ k : Nat, k ≤ s.size ∧ i = .int .i64 k ∧ Hid (R = (inB (s.size : Int) 1 8 && (s.data.toList.drop k).all letter))) (fun i => s.size - (intOf i).toNat)
  case atStart => exact ⟨0, Nat.zero_le _, rfl, HR⟩
  case round =>
    obtain ⟨k, hk, rfl, H⟩ := hrel
    clear HR
    by_cases hlt : k < s.size
    · have H2 : Hid (R = (inB (s.size : Int) 1 8 && (letter s[k] && (s.data.toList.drop (k + 1)).all letter))) := by
        have := all_drop letter s.data.toList k (by simpa using hlt)
        exact Lib.hid (H.out.trans (by rw [this]; rfl))
      clear H
      go_wp2
      all_goals first
        | (go_round
           case rel => exact ⟨k + 1, by omega, by go_num, Lib.hid (by rw [H2.out, letter_yes (by omega) (by omega)]; rfl)⟩
           case measure => simp [intOf]; omega)
        | (go_ret; exact ⟨ret_bool (by rw [H2.out, letter_no (by omega)]; simp), rfl⟩)
    · go_wp2_with (go_at_call 33; refine (l1In_any _ _ _ _).mono ?_; rintro e w' ⟨rfl, rfl⟩)
      go_ret
      exact ⟨ret_bool (by rw [H.out, all_end _ _ _ (by simpa using hlt)]; simp), rfl⟩

theorem hashF_bd (h : Int) (c : UInt8) : 0 ≤ hashF h c ∧ hashF h c < 1009 := by unfold hashF; omega

set_option maxHeartbeats 400000 in
theorem implBucket_any (s : ByteArray) (hs : s.size ≤ 9223372036854775807) (w : World) :
    Calls Try.prog 36 #[.string s] w fun e w' => e = .returned (.int .i64 (bucket s.data.toList)) ∧ w = w' := by
  by_cases ht : txt s.data.toList = true
  · rw [bucket, if_pos ht]
    generalize hR : s.data.toList.foldl hashF 7 = R
    have HR : Hid (R = (s.data.toList.drop 0).foldl hashF 7) := Lib.hid hR.symm
    clear hR
    go_enter Try.func36, Try.ntmps36
    go_wp2_with (go_at_call 34; refine (implText_any s hs _).mono ?_; rintro e w' ⟨rfl, rfl⟩)
    go_loop [3, 4, 10] (fun h _ i => ∃ (k : Nat) (x : Int), k ≤ s.size ∧ i = .int .i64 k ∧ h = .int .i64 x ∧ 0 ≤ x ∧ x < 1009 ∧ Hid (R = (s.data.toList.drop k).foldl hashF x)) (fun _ _ i => s.size - (intOf i).toNat)
    case atStart => exact ⟨0, 7, Nat.zero_le _, rfl, rfl, by omega, by omega, HR⟩
    case round =>
      obtain ⟨k, x, hk, rfl, rfl, hx0, hx1, H⟩ := hrel
      clear HR
      by_cases hlt : k < s.size
      · have H2 : Hid (R = (s.data.toList.drop (k + 1)).foldl hashF (hashF x s[k])) := H.out.trans (foldl_drop hashF x s.data.toList k (by simpa using hlt))
        have hb := hashF_bd x s[k]
        have hc : (s[k].toNat : Int) ≤ 255 := by have := s[k].toNat_lt; omega
        clear H
        go_wp2
        go_round
        case rel => exact ⟨k + 1, hashF x s[k], by omega, by go_num, rfl, hb.1, hb.2, H2⟩
        case measure => simp [intOf]; omega
      · have H2 : Hid (R = x) := H.out.trans (foldl_end _ _ _ _ (by simpa using hlt))
        go_wp2
        go_ret
        exact ⟨ret_int (by rw [H2.out]), rfl⟩
  · have ht' : txt s.data.toList = false := by simpa using ht
    rw [bucket, if_neg ht]
    go_enter Try.func36, Try.ntmps36
    go_wp2_with (go_at_call 34; refine (implText_any s hs _).mono ?_; rintro e w' ⟨rfl, rfl⟩)
    go_ret
    exact ⟨rfl, rfl⟩

set_option maxHeartbeats 400000 in
theorem specBucket_any (s : ByteArray) (hs : s.size ≤ 9223372036854775807) (w : World) :
    Calls Try.prog 32 #[.string s] w fun e w' => e = .returned (.int .i64 (bucket s.data.toList)) ∧ w = w' := by
  by_cases ht : txt s.data.toList = true
  · rw [bucket, if_pos ht]
    generalize hR : s.data.toList.foldl hashF 7 = R
    have HR : Hid (R = (s.data.toList.drop 0).foldl hashF 7) := Lib.hid hR.symm
    clear hR
    go_enter Try.func32, Try.ntmps32
    go_wp2_with (go_at_call 45; refine (specText_any s hs _).mono ?_; rintro e w' ⟨rfl, rfl⟩)
    go_loop [3, 4] (fun h i => ∃ (k : Nat) (x : Int), k ≤ s.size ∧ i = .int .i64 k ∧ h = .int .i64 x ∧ 0 ≤ x ∧ x < 1009 ∧ Hid (R = (s.data.toList.drop k).foldl hashF x)) (fun _ i => s.size - (intOf i).toNat)
    case atStart => exact ⟨0, 7, Nat.zero_le _, rfl, rfl, by omega, by omega, HR⟩
    case round =>
      obtain ⟨k, x, hk, rfl, rfl, hx0, hx1, H⟩ := hrel
      clear HR
      by_cases hlt : k < s.size
      · have H2 : Hid (R = (s.data.toList.drop (k + 1)).foldl hashF (hashF x s[k])) := H.out.trans (foldl_drop hashF x s.data.toList k (by simpa using hlt))
        have hb := hashF_bd x s[k]
        have hc : (s[k].toNat : Int) ≤ 255 := by have := s[k].toNat_lt; omega
        clear H
        go_wp2
        go_round
        case rel => exact ⟨k + 1, hashF x s[k], by omega, by go_num, rfl, hb.1, hb.2, H2⟩
        case measure => simp [intOf]; omega
      · have H2 : Hid (R = x) := H.out.trans (foldl_end _ _ _ _ (by simpa using hlt))
        go_wp2
        go_ret
        exact ⟨ret_int (by rw [H2.out]), rfl⟩
  · have ht' : txt s.data.toList = false := by simpa using ht
    rw [bucket, if_neg ht]
    go_enter Try.func32, Try.ntmps32
    go_wp2_with (go_at_call 45; refine (specText_any s hs _).mono ?_; rintro e w' ⟨rfl, rfl⟩)
    go_ret
    exact ⟨rfl, rfl⟩

end Go.Proofs.Ythhganlnljoinaa
