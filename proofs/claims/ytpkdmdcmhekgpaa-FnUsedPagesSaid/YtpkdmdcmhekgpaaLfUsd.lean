/-
  The walk of the law FnUsedPages.
-/
import Derived.Test.YtpkdmdcmhekgpaaDrt
import Derived.Test.YtpkdmdcmhekgpaaUpw
import Derived.Test.YtpkdmdcmhekgpaaThi
namespace Go.Proofs.Ytpkdmdcmhekgpaa
open Go.RowKit

/-- Box B holds the table t, which reads in memory that is newer than w0. -/
structure TLw (w0 : World) (B : Nat) (sl : Value) (t : List (List Int)) (w : World) : Prop where
  rt : RT w w0.heap.size w.heap.size sl t
  box : w.heap[B]? = some (.cells #[sl] 28)
  bel : Below w0.heap.size w0 w
theorem TLw.below {w0 w w' : World} {B : Nat} {sl : Value} {t : List (List Int)} (h : TLw w0 B sl t w) (b : Below w.heap.size w w') : TLw w0 B sl t w' :=
  ⟨(h.rt.below b).wide (Nat.le_refl _) b.size, box_keep h.box b, bup2 h.bel b⟩
theorem tlw_new {w0 w1 : World} {sl : Value} {t : List (List Int)} (h : RT w1 w0.heap.size w1.heap.size sl t) (b : Below w0.heap.size w0 w1) : TLw w0 w1.heap.size sl t (w1.alloc (.cells #[sl] 28)) :=
  ⟨(h.below (balloc _ _)).wide (Nat.le_refl _) (balloc _ _).size, heap_alloc_new _ _, bup2 b (balloc _ _)⟩
theorem TLw.cell {w0 w : World} {B : Nat} {sl : Value} {t : List (List Int)} (h : TLw w0 B sl t w) : w.cell? ⟨B, 0, none⟩ = some sl := (one_at h.box).1
def TLi (w0 : World) (B : Nat) (sl : Value) (t : List (List Int)) (v : Value) (xs : List Int) (w : World) : Prop := TLw w0 B sl t w ∧ RI w w0.heap.size w.heap.size v xs
theorem TLi.below {w0 w w' : World} {B : Nat} {sl v : Value} {t : List (List Int)} {xs : List Int} (h : TLi w0 B sl t v xs w) (b : Below w.heap.size w w') : TLi w0 B sl t v xs w' :=
  ⟨h.1.below b, (h.2.below b).wide (Nat.le_refl _) b.size⟩

/-- How many pages stand ahead of file f, place p. -/
def ucnt (t : List (List Int)) (f p : Nat) : Nat := if tabVal t = true then (gat (pre t f p)).length else 0
theorem ucnt_zero (t : List (List Int)) : ucnt t 0 0 = 0 := by unfold ucnt; rw [pre_zero]; simp [gat]
theorem ucnt_row (t : List (List Int)) {f : Nat} (hf : f < 8) : ucnt t f 6 = ucnt t (f + 1) 0 := by
  unfold ucnt
  by_cases hv : tabVal t = true
  · have h8 := tab_len hv
    have hft : f < t.length := by omega
    rw [if_pos hv, if_pos hv, pre_row hft 6 (by rw [tab_row hv hft]; exact Nat.le_refl _), pre_zero]
  · rw [if_neg hv, if_neg hv]
theorem ucnt_end (t : List (List Int)) : ucnt t 8 0 = (used t).length := by
  unfold ucnt
  by_cases hv : tabVal t = true
  · have h8 := tab_len hv
    rw [if_pos hv, pre_zero, List.take_of_length_le (by omega), ← used_srt hv, srt_len]
  · rw [if_neg hv, used_no (by simpa using hv)]; rfl
theorem ucnt_le (t : List (List Int)) (f p : Nat) (hf : f < 8) : ucnt t f p ≤ 48 := by
  unfold ucnt
  by_cases hv : tabVal t = true
  · rw [if_pos hv]
    have h8 := tab_len hv
    obtain ⟨r, hr⟩ := pre_flat t (f := f) (p := p) (by omega)
    have := flat48 hv
    have := gat_len (pre t f p)
    rw [hr, List.length_append] at *
    omega
  · rw [if_neg hv]; omega
theorem ucnt_step (t : List (List Int)) {f p : Nat} (hf : f < 8) (hp : p < 6) : (0 ≤ tget t f p → ucnt t f (p + 1) = ucnt t f p + 1 ∧ tget t f p ∈ used t) ∧ (tget t f p < 0 → ucnt t f (p + 1) = ucnt t f p) := by
  by_cases hv : tabVal t = true
  · have h8 := tab_len hv
    have hft : f < t.length := by omega
    have hpt : p < t[f].length := by rw [tab_row hv hft]; exact hp
    unfold ucnt
    rw [if_pos hv, if_pos hv, pre_succ hft hpt, gat_snoc, tget_in hv hft hpt]
    refine ⟨fun h0 => ⟨by rw [if_pos h0]; simp, ?_⟩, fun h0 => by rw [if_neg (by omega)]⟩
    have := tab_at hv hft hpt
    rw [used_yes hv, mem_usedN]
    exact ⟨⟨h0, by omega⟩, List.mem_flatten.2 ⟨t[f], List.getElem_mem hft, List.getElem_mem hpt⟩⟩
  · have hv' : tabVal t = false := by simpa using hv
    rw [tget_bad hv']
    unfold ucnt
    rw [if_neg hv, if_neg hv]
    exact ⟨fun h => by omega, fun _ => rfl⟩
theorem used_asc {t : List (List Int)} {j : Nat} {x y : Int} (h1 : (used t)[j]? = some x) (h2 : (used t)[j + 1]? = some y) : x < y := by
  obtain ⟨l1, rfl⟩ := List.getElem?_eq_some_iff.1 h1
  obtain ⟨l2, rfl⟩ := List.getElem?_eq_some_iff.1 h2
  by_cases hv : tabVal t = true
  · have hp : (used t).Pairwise fun x y => x < y := by rw [used_yes hv]; exact usedN_lt t 48
    exact List.pairwise_iff_getElem.1 hp j (j + 1) l1 l2 (by omega)
  · rw [used_no (by simpa using hv)] at l1; simp at l1

theorem implGet_is (v : Value) (t : List (List Int)) (f p : Int) (lo hi : Nat) (w : World) (h : RT w lo hi v t) (x : Int) (hx : tget t f p = x) :
    Calls Try.prog 16 #[.agg #[v], .int .i64 f, .int .i64 p] w fun e w' => e = .returned (.int .i64 x) ∧ Below w.heap.size w w' := by
  subst hx
  exact implGet_any v t f p lo hi w h
theorem hasInt_is (v : Value) (xs : List Int) (y : Int) (lo hi : Nat) (w : World) (h : RI w lo hi v xs) (hx : xs.length ≤ 1048576) (q : Bool) (hq : hasI xs y = q) :
    Calls Try.prog 17 #[v, .int .i64 y] w fun e w' => e = .returned (.bool q) ∧ w = w' := by
  subst hq
  exact hasInt_any v xs y lo hi w h hx
theorem sameInts_yes (v v2 : Value) (xs : List Int) (lo hi lo2 hi2 : Nat) (w : World) (h : RI w lo hi v xs) (h2 : RI w lo2 hi2 v2 xs) (hx : xs.length ≤ 1048576) :
    Calls Try.prog 15 #[v, v2] w fun e w' => e = .returned (.bool true) ∧ Below w.heap.size w w' := by
  have c := sameInts_any v v2 xs xs lo hi lo2 hi2 w h h2 hx hx
  rw [sameL_self] at c
  exact c

set_option maxHeartbeats 4000000 in
theorem FnUsedPages_walk (w : World) (v : Value) (bs : List Int) (h : RB w 0 w.heap.size v bs) :
    Calls Try.prog 4 #[v] w fun e w' => e = .returned (.bool true) ∧ Below w.heap.size w w' := by
  have HB := Lib.hid h
  obtain ⟨a, cap, b, off, rfl, -⟩ := h.open
  clear h
  by_cases hl : bs.length ≤ 1048576
  · go_enter Try.func4, Try.ntmps4
    go_wp2_with fail
    refine (dUsedPages _ _ bs HB.out).mono ?_
    rintro e w1 ⟨v1, t, rfl, ⟨o1, ht⟩, b1⟩
    obtain ⟨a1, cap1, b1', off1, rfl, -⟩ := o1.open
    have H1 := Lib.hid (tlw_new o1 b1)
    clear o1 b1 HB
    go_wp2_with fail
    refine (implUsed_any _ t _ _ _ H1.out.rt).mono ?_
    rintro e w2 ⟨v2, rfl, o2, b2⟩
    have hx0 := used_len t
    have HM := Lib.hid (And.intro (@ucnt_step t) (And.intro (ucnt_end t) (@used_asc t)))
    obtain ⟨xs, hxs⟩ : ∃ xs, xs = used t := ⟨_, rfl⟩
    rw [← hxs] at o2 hx0
    have HXS := Lib.hid hxs
    replace HM := HM.out
    rw [← hxs] at HM
    replace HM := Lib.hid HM
    have hxl : xs.length ≤ 1048576 := by omega
    have H2 : Hid (TLi w w1.heap.size (.slice a1 t.length cap1) t v2 xs w2) := Lib.hid ⟨H1.out.below b2, o2.ri.wide (by have := H1.out.bel.size; omega) (Nat.le_refl _)⟩
    have d2 := H2.out.1.cell
    obtain ⟨a2, cap2, b2', off2, rfl, q1, q2, -⟩ := H2.out.2.open
    clear b2 H1 o2 hxs
    go_wp2_with fail
    refine (specUsed_any _ t _ _ _ H2.out.1.rt).mono ?_
    rintro e w3 ⟨v3, rfl, o3, b3⟩
    rw [← HXS.out] at o3
    have H3 := Lib.hid (And.intro (H2.out.below b3) o3)
    clear b3 o3 H2 d2
    go_wp2_with fail
    refine (sameInts_yes _ _ xs _ _ _ _ _ H3.out.1.2 H3.out.2.ri hxl).mono ?_
    rintro e w4 ⟨rfl, b4⟩
    have H4 := Lib.hid (H3.out.1.below b4)
    clear b4 H3
    go_wp2_with fail
    go_loopw [5, 6, 7, 8] (fun m i _ _ wr => ∃ f : Nat, f ≤ 8 ∧ i = .int .i64 f ∧ m = .int .i64 (ucnt t f 0 : Nat) ∧ TLi w w1.heap.size (.slice a1 t.length cap1) t (.slice a2 xs.length cap2) xs wr) (fun _ i _ _ _ => 8 - (intOf i).toNat)
    case atStart => exact ⟨0, by omega, rfl, by rw [ucnt_zero]; rfl, H4.out⟩
    case round =>
      obtain ⟨f, hf, rfl, rfl, hR⟩ := hrel
      obtain ⟨wo, rfl⟩ : ∃ wo : World, wo = wr := ⟨_, rfl⟩
      have HR := Lib.hid hR
      clear hR H4
      by_cases hf8 : f < 8
      · have hfi : decide ((f : Int) < 8) = true := by simp; omega
        go_wp2_with fail
        go_loopw [5, 7, 8] (fun m i _ wr => ∃ p : Nat, p ≤ 6 ∧ i = .int .i64 p ∧ m = .int .i64 (ucnt t f p : Nat) ∧ TLi w w1.heap.size (.slice a1 t.length cap1) t (.slice a2 xs.length cap2) xs wr) (fun _ i _ _ => 6 - (intOf i).toNat)
        case atStart => exact ⟨0, by omega, rfl, rfl, HR.out⟩
        case round =>
          obtain ⟨p, hp, rfl, rfl, hR⟩ := hrel
          have HQ := Lib.hid hR
          have d1 := hR.1.cell
          clear hR HR
          by_cases hp6 : p < 6
          · have hpi : decide ((p : Int) ≤ 5) = true := by simp; omega
            have hst := HM.out.1 hf8 hp6
            have hle := ucnt_le t f p hf8
            obtain ⟨y, hy⟩ : ∃ y, y = tget t f p := ⟨_, rfl⟩
            rw [← hy] at hst
            have HY := Lib.hid hy.symm
            have HS := Lib.hid hst
            generalize ucnt t f p = m at hle HS ⊢
            clear hst hy
            go_wp2_with fail
            refine (implGet_is _ t f p _ _ _ HQ.out.1.rt y HY.out).mono ?_
            rintro e w5 ⟨rfl, b5⟩
            have H5 := Lib.hid (HQ.out.below b5)
            clear b5 HQ d1
            by_cases hy0 : 0 ≤ y
            · obtain ⟨e1, e2⟩ := HS.out.1 hy0
              have HE := Lib.hid e1
              have HI := Lib.hid e2
              clear e1 e2
              go_wp2_with fail
              refine (hasInt_is _ xs y _ _ _ H5.out.2 hxl true (by unfold hasI; rw [decide_eq_true_eq]; exact HI.out)).mono ?_
              rintro e w7 ⟨rfl, rfl⟩
              go_wp2_with fail
              go_roundw
              case rel => exact ⟨p + 1, by omega, by go_num, by rw [HE.out]; go_num, H5.out⟩
              case measure => simp [intOf]; omega
            · have HE := Lib.hid (HS.out.2 (by omega))
              have hy1 : decide (0 ≤ y) = false := by simpa using hy0
              go_wp2_with fail
              go_roundw
              case rel => exact ⟨p + 1, by omega, by go_num, by rw [HE.out], H5.out⟩
              case measure => simp [intOf]; omega
          · obtain rfl : p = 6 := by omega
            have HE := Lib.hid (ucnt_row t hf8)
            go_wp2_with fail
            go_roundw
            case rel => exact ⟨f + 1, by omega, by go_num, by rw [HE.out], HQ.out⟩
            case measure => simp [intOf]; omega
      · obtain rfl : f = 8 := by omega
        have hend := HM.out.2.1
        rw [hend]
        clear hend
        go_wp2_with fail
        go_loopw [9] (fun i wr => ∃ j : Nat, i = .int .i64 (j + 1 : Nat) ∧ j ≤ 48 ∧ TLi w w1.heap.size (.slice a1 t.length cap1) t (.slice a2 xs.length cap2) xs wr) (fun i _ => 60 - (intOf i).toNat)
        case atStart => exact ⟨0, rfl, by omega, HR.out⟩
        case round =>
          obtain ⟨j, rfl, hj48, hR⟩ := hrel
          have HQ := Lib.hid hR
          obtain ⟨a5, cap5, b5, off5, e5, -, -, s3, s4⟩ := hR.2.open
          clear hR HR
          by_cases hj : j + 1 < xs.length
          · obtain rfl := s3 (by omega)
            simp only [Value.slice.injEq, true_and] at e5
            obtain ⟨rfl, rfl⟩ := e5
            have c1 := s4 (j + 1) hj
            have c2 := s4 j (by omega)
            have hasc : xs[j] < xs[j + 1] := HM.out.2.2 (List.getElem?_eq_getElem (show j < xs.length by omega)) (List.getElem?_eq_getElem hj)
            have ha : ¬ xs[j + 1] ≤ xs[j] := by omega
            generalize xs[j + 1] = y1 at c1 hasc ha
            generalize xs[j] = y0 at c2 hasc ha
            have hda : decide (y1 ≤ y0) = false := by simpa using ha
            have hi1 : ((j : Int) + 1 - 1) = j := by omega
            have hi2 : (j : Int) + 1 < (xs.length : Int) := by omega
            have hi3 : (j : Int) < (xs.length : Int) := by omega
            clear s3 s4 hasc ha
            go_wp2_with fail
            go_quiet (fail)
            go_wp2_with fail
            go_roundw
            case rel => exact ⟨j + 1, by go_num, by omega, HQ.out.below (bdN _ _)⟩
            case measure => simp [intOf]; omega
          · have hj2 : ¬ (j : Int) + 1 < (xs.length : Int) := by omega
            have HF := Lib.hid HQ.out.1.bel
            clear s3 s4 e5
            go_wp2_with fail
            refine (alive_any _).mono ?_
            rintro e w' ⟨rfl, rfl⟩
            go_wp2_with fail
            all_goals (go_ret; exact ⟨rfl, HF.out⟩)
  · go_enter Try.func4, Try.ntmps4
    go_wp2_with fail
    all_goals (go_ret; exact ⟨rfl, Below.refl _ _⟩)

end Go.Proofs.Ytpkdmdcmhekgpaa
