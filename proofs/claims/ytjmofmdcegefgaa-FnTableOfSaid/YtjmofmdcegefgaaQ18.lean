/-
  Texts of this claim, laid together: Upw.
-/
import Derived.Test.YtjmofmdcegefgaaQ05
import Derived.Test.YtjmofmdcegefgaaQ07
import Derived.Test.YtjmofmdcegefgaaQ15
namespace Go.Proofs.Ytjmofmdcegefgaa
open Go.RowKit

/-- The state of the walks: the table's box, what is gathered. -/
def UpR (w : World) (B : Nat) (sl v : Value) (xs : List Int) (wr : World) : Prop := OI wr (w.heap.size + 1) v xs ∧ Below w.heap.size w wr ∧ wr.heap[B]? = some (.cells #[sl] 26) ∧ w.heap.size + 1 ≤ wr.heap.size
theorem UpR.app {w wr w' : World} {sl v v' : Value} {xs ys : List Int} (h : UpR w w.heap.size sl v xs wr) (o : OI w' (w.heap.size + 1) v' ys) (c : Chg (fun k => w.heap.size + 1 ≤ k) wr w') : UpR w w.heap.size sl v' ys w' :=
  ⟨o, h.2.1.trans (c.below h.2.1.size (fun k hk he => by omega)), box_chg h.2.2.1 c (by omega), Nat.le_trans h.2.2.2 c.size⟩

set_option maxHeartbeats 2000000 in
theorem implUsed_any (v : Value) (t : List (List Int)) (lo hi : Nat) (w : World) (h : RT w lo hi v t) : Calls Try.prog 39 #[.agg #[v]] w (NewI (used t) w) := by
  obtain ⟨a, cap, b, off, rfl, q1, q2, q3, q4⟩ := h.open
  have hb0 := balloc w (.cells #[.slice a t.length cap] 26)
  have X0 := Lib.hid (heap_alloc_new w (.cells #[.slice a t.length cap] 26))
  have HA := Lib.hid (h.below hb0)
  have HB0 := Lib.hid hb0
  have Q4 := Lib.hid q4
  clear h q4 hb0
  cases hv : tabVal t
  · have HU := Lib.hid (used_no hv)
    have c1 := fun wx h => implTbv_any (.slice a t.length cap) t lo hi wx h
    rw [hv] at c1
    have C1 := Lib.hid c1
    clear c1 hv
    go_enter Try.func39, Try.ntmps39
    go_wp2_with fail
    refine (C1.out _ HA.out).mono ?_
    rintro e w1 ⟨rfl, b1⟩
    have HF := Lib.hid (bup2 HB0.out b1)
    clear b1
    go_wp2_with fail
    go_ret
    exact ⟨_, rfl, by rw [HU.out]; exact oi_nil _ _, HF.out⟩
  · have h8 := tab_len hv
    have HV := Lib.hid hv
    obtain rfl := q3 (by omega)
    have c1 := fun wx h => implTbv_any (.slice (some ⟨b, off, none⟩) t.length cap) t lo hi wx h
    rw [hv] at c1
    have C1 := Lib.hid c1
    have H8 := Lib.hid h8
    rw [h8] at q1
    have hs8 : Value.slice (some ⟨b, off, none⟩) t.length cap = .slice (some ⟨b, off, none⟩) 8 cap := by rw [h8]
    rw [hs8] at C1 X0 HA HB0 ⊢
    clear c1 hv h8 q3 hs8
    go_enter Try.func39, Try.ntmps39
    go_wp2_with fail
    refine (C1.out _ HA.out).mono ?_
    rintro e w1 ⟨rfl, b1⟩
    have HS : Hid (UpR w w.heap.size (.slice (some ⟨b, off, none⟩) 8 cap) (.slice none 0 0) [] w1) := Lib.hid ⟨oi_nil _ _, bup2 HB0.out b1, box_keep X0.out b1, by have := b1.size; simp at this; omega⟩
    obtain ⟨d1, -⟩ := one_at HS.out.2.2.1
    clear b1 C1 X0 HB0 HA
    go_wp2_with fail
    go_loopw [3, 5, 7, 14] (fun u _ _ i wr => ∃ f : Nat, f ≤ 8 ∧ i = .int .i64 f ∧ UpR w w.heap.size (.slice (some ⟨b, off, none⟩) 8 cap) u (gat (pre t f 0)) wr) (fun _ _ _ i _ => 8 - (intOf i).toNat)
    case atStart => exact ⟨0, by omega, rfl, by rw [pre_zero]; exact HS.out⟩
    case round =>
      obtain ⟨f, hf, rfl, hR⟩ := hrel
      obtain ⟨wo, rfl⟩ : ∃ wo : World, wo = wr := ⟨_, rfl⟩
      have HR := Lib.hid hR
      clear hR HS d1
      by_cases hf8 : f < 8
      · have hft : f < t.length := by rw [H8.out]; exact hf8
        obtain ⟨u, hcu, hu⟩ := Q4.out f hft
        obtain ⟨a2, cap2, b2, off2, rfl, r1, r2, r3, r4⟩ := hu.open
        have h6 := tab_row HV.out hft
        obtain rfl := r3 (by omega)
        have H6 := Lib.hid h6
        have R4 := Lib.hid r4
        rw [h6] at hcu r1
        have c1 := cell_later HR.out.2.1 hcu
        have hfi : (f : Int) < 8 := by omega
        clear hcu hu h6 r3 r4
        go_wp2_with fail
        go_loopw [3, 7, 20] (fun u _ i wr => ∃ p : Nat, p ≤ 6 ∧ i = .int .i64 p ∧ UpR w w.heap.size (.slice (some ⟨b, off, none⟩) 8 cap) u (gat (pre t f p)) wr) (fun _ _ i _ => 6 - (intOf i).toNat)
        case atStart => exact ⟨0, by omega, rfl, HR.out⟩
        case round =>
          obtain ⟨p, hp, rfl, hR⟩ := hrel
          have HQ := Lib.hid hR
          have zq := hR.2.2.2
          clear hR HR c1
          by_cases hp6 : p < 6
          · have hpt : p < t[f].length := by rw [H6.out]; exact hp6
            have hpi : (p : Int) < 6 := by omega
            have c2 := cell_later HQ.out.2.1 (R4.out p hpt)
            have hx := tab_at HV.out hft hpt
            have hg := gat_snoc (pre t f p) t[f][p]
            rw [← pre_succ hft hpt] at hg
            have hlen := gat_len (pre t f p)
            obtain ⟨r, hr⟩ := pre_flat t (p := p) hft
            have hl48 : (pre t f p).length ≤ 48 := by have := flat48 HV.out; rw [hr, List.length_append] at this; omega
            have hl3 : (gat (pre t f p)).length ≤ 48 := by omega
            obtain ⟨x, hxe⟩ : ∃ x, x = t[f][p] := ⟨_, rfl⟩
            rw [← hxe] at c2 hx hg
            have HG := Lib.hid hg
            clear hg hxe hlen hr hl48
            by_cases hx0 : 0 ≤ x
            · go_wp2_with (at_builtin; refine ap1_int rfl _ _ rfl (w.heap.size + 1) u3 (gat (pre t f p)) x rfl HQ.out.1 rfl (by omega) zq (by unfold I64; omega) ?_; intro v' w4 o4 c4; have HF := Lib.hid (HQ.out.app o4.1 c4); clear o4 c4)
              have HF2 := HF.out
              rw [show gat (pre t f p) ++ [x] = gat (pre t f (p + 1)) from by rw [HG.out, if_pos hx0]] at HF2
              have HF3 := Lib.hid HF2
              clear HF2 HF
              go_roundw
              case rel => exact ⟨p + 1, by omega, by go_num, HF3.out⟩
              case measure => simp [intOf]; omega
            · have HF2 := HQ.out
              rw [show gat (pre t f p) = gat (pre t f (p + 1)) from by rw [HG.out, if_neg hx0]] at HF2
              have HF3 := Lib.hid HF2
              have hx1 : ¬ 0 ≤ x := hx0
              clear HF2
              go_wp2_with fail
              go_roundw
              case rel => exact ⟨p + 1, by omega, by go_num, HF3.out⟩
              case measure => simp [intOf]; omega
          · obtain rfl : p = 6 := by omega
            have HF2 := HQ.out
            rw [pre_row hft 6 (by rw [H6.out]; exact Nat.le_refl _), ← pre_zero] at HF2
            have HF3 := Lib.hid HF2
            clear HF2
            go_wp2_with fail
            go_roundw
            case rel => exact ⟨f + 1, by omega, by go_num, HF3.out⟩
            case measure => simp [intOf]; omega
      · obtain rfl : f = 8 := by omega
        have HF2 := HR.out
        rw [pre_zero, List.take_of_length_le (by rw [H8.out]; exact Nat.le_refl _)] at HF2
        have HF3 := Lib.hid HF2
        have hgl : (gat t.flatten).length ≤ 1048576 := by have := gat_len t.flatten; have := flat48 HV.out; omega
        clear HF2 HR
        go_wp2_with fail
        refine (sort_any _ _ _ _ HF3.out.1 hgl).mono ?_
        rintro e w5 ⟨rfl, o5, c5⟩
        rw [used_srt HV.out] at o5
        have HF := Lib.hid (HF3.out.app o5 (c5.mono fun k _ hk => (HF3.out.1.lt k hk).1))
        clear o5 c5
        go_wp2_with fail
        go_ret
        exact ⟨_, rfl, ⟨own_wide HF.out.1.1 (by omega), HF.out.1.2⟩, HF.out.2.1⟩

theorem UpR.keep {w wr w' : World} {sl v : Value} {xs : List Int} (h : UpR w w.heap.size sl v xs wr) (c : Below wr.heap.size wr w') : UpR w w.heap.size sl v xs w' :=
  ⟨h.1.below c, bup2 h.2.1 c, box_keep h.2.2.1 c, Nat.le_trans h.2.2.2 c.size⟩

set_option maxHeartbeats 2000000 in
theorem specUsed_any (v : Value) (t : List (List Int)) (lo hi : Nat) (w : World) (h : RT w lo hi v t) : Calls Try.prog 66 #[.agg #[v]] w (NewI (used t) w) := by
  obtain ⟨a, cap, b, off, rfl, q1, q2, q3, q4⟩ := h.open
  have hb0 := balloc w (.cells #[.slice a t.length cap] 26)
  have e1 : (w.alloc (.cells #[.slice a t.length cap] 26)).heap.size = w.heap.size + 1 := by simp
  have HS : Hid (UpR w w.heap.size (.slice a t.length cap) (.slice (some ⟨w.heap.size + 1, 0, none⟩) 0 0) [] ((w.alloc (.cells #[.slice a t.length cap] 26)).alloc (.cells #[] 3))) :=
    Lib.hid ⟨oi_empty _ _ _ (by omega) e1, bup2 hb0 (balloc _ _), box_keep (heap_alloc_new _ _) (balloc _ _), by simp⟩
  have HT := Lib.hid h
  have Q4 := Lib.hid q4
  clear q4 hb0 h
  cases hv : tabVal t
  · have HU := Lib.hid (used_no hv)
    have c1 := fun lo hi wx h => implTbv_any (.slice a t.length cap) t lo hi wx h
    have c2 := fun wx h => specTbv_any (.slice a t.length cap) t lo hi wx h
    rw [hv] at c2
    have C2 := Lib.hid c2
    obtain ⟨d1, -⟩ := one_at HS.out.2.2.1
    clear c1 c2 hv
    go_enter Try.func66, Try.ntmps66
    go_wp2_with fail
    refine wp_loop_rounds 1 ?_
    rw [rounds_succ]
    go_wp2_with fail
    refine (C2.out _ (HT.out.below (two_below w _ _))).mono ?_
    rintro e w1 ⟨rfl, b1⟩
    have HF := Lib.hid (HS.out.keep b1)
    clear b1
    go_wp2_with fail
    go_ret
    exact ⟨_, rfl, by rw [HU.out]; exact ⟨own_wide HF.out.1.1 (by omega), HF.out.1.2⟩, HF.out.2.1⟩
  · have h8 := tab_len hv
    have HV := Lib.hid hv
    obtain rfl := q3 (by omega)
    have c2 := fun wx h => specTbv_any (.slice (some ⟨b, off, none⟩) t.length cap) t lo hi wx h
    rw [hv] at c2
    have H8 := Lib.hid h8
    rw [h8] at q1
    have hs8 : Value.slice (some ⟨b, off, none⟩) t.length cap = .slice (some ⟨b, off, none⟩) 8 cap := by rw [h8]
    rw [hs8] at c2 HS HT ⊢
    have C2 := Lib.hid c2
    clear c2 hv h8 q3 hs8
    go_enter Try.func66, Try.ntmps66
    go_wp2_with fail
    go_loopw [3, 4, 5, 6] (fun u i _ _ wr => ∃ n : Nat, n ≤ 48 ∧ i = .int .i64 n ∧ UpR w w.heap.size (.slice (some ⟨b, off, none⟩) 8 cap) u (usedN t n) wr) (fun _ i _ _ _ => 48 - (intOf i).toNat)
    case atStart => exact ⟨0, by omega, rfl, HS.out⟩
    case round =>
      obtain ⟨n, hn, rfl, hR⟩ := hrel
      obtain ⟨wo, rfl⟩ : ∃ wo : World, wo = wr := ⟨_, rfl⟩
      have HR := Lib.hid hR
      obtain ⟨d1, -⟩ := one_at hR.2.2.1
      clear hR HS
      by_cases hn48 : n < 48
      · have hni : decide ((n : Int) < 48) = true := by simp; omega
        go_wp2_with fail
        refine (C2.out _ (HT.out.below HR.out.2.1)).mono ?_
        rintro e w1 ⟨rfl, b1⟩
        have HR1 := Lib.hid (HR.out.keep b1)
        clear b1 HR d1
        go_wp2_with fail
        go_loopw [3, 5, 6] (fun u i _ wr => ∃ f : Nat, f ≤ 8 ∧ i = .int .i64 f ∧ UpR w w.heap.size (.slice (some ⟨b, off, none⟩) 8 cap) u (mid t n f 0) wr) (fun _ i _ _ => 8 - (intOf i).toNat)
        case atStart => exact ⟨0, by omega, rfl, by rw [mid_start]; exact HR1.out⟩
        case round =>
          obtain ⟨f, hf, rfl, hR⟩ := hrel
          obtain ⟨wm, rfl⟩ : ∃ wm : World, wm = wr := ⟨_, rfl⟩
          have HM := Lib.hid hR
          clear hR HR1
          by_cases hf8 : f < 8
          · have hft : f < t.length := by rw [H8.out]; exact hf8
            obtain ⟨u, hcu, hu⟩ := Q4.out f hft
            obtain ⟨a2, cap2, b2, off2, rfl, r1, r2, r3, r4⟩ := hu.open
            have h6 := tab_row HV.out hft
            obtain rfl := r3 (by omega)
            have H6 := Lib.hid h6
            have R4 := Lib.hid r4
            rw [h6] at hcu r1
            have HCU := Lib.hid hcu
            have hfi : decide ((f : Int) < 8) = true := by simp; omega
            clear hcu hu h6 r3 r4
            go_wp2_with fail
            go_loopw [3, 6] (fun u i wr => ∃ p : Nat, p ≤ 6 ∧ i = .int .i64 p ∧ UpR w w.heap.size (.slice (some ⟨b, off, none⟩) 8 cap) u (mid t n f p) wr) (fun _ i _ => 6 - (intOf i).toNat)
            case atStart => exact ⟨0, by omega, rfl, HM.out⟩
            case round =>
              obtain ⟨p, hp, rfl, hR⟩ := hrel
              have HQ := Lib.hid hR
              have zq := hR.2.2.2
              obtain ⟨d1, -⟩ := one_at hR.2.2.1
              clear hR HM
              by_cases hp6 : p < 6
              · have hpt : p < t[f].length := by rw [H6.out]; exact hp6
                have hpi : decide ((p : Int) ≤ 5) = true := by simp; omega
                have hp6i : (p : Int) < 6 := by omega
                have hf8i : (f : Int) < 8 := by omega
                have c1 := cell_later HQ.out.2.1 HCU.out
                have c2 := cell_later HQ.out.2.1 (R4.out p hpt)
                have hml := mid_len t n f p
                by_cases he : t[f][p] = n
                · rw [he] at c2
                  have HG := Lib.hid (mid_hit HV.out hft hpt he)
                  clear he
                  go_wp2_with (at_builtin; refine ap1_int rfl _ _ rfl (w.heap.size + 1) u3 (mid t n f p) n rfl HQ.out.1 rfl (by omega) zq (by unfold I64; omega) ?_; intro v' w4 o4 c4; have HF := Lib.hid (HQ.out.app o4.1 c4); clear o4 c4)
                  have HF2 := HF.out
                  rw [← HG.out] at HF2
                  have HF3 := Lib.hid HF2
                  clear HF2 HF
                  go_roundw
                  case rel => exact ⟨p + 1, by omega, by go_num, HF3.out⟩
                  case measure => simp [intOf]; omega
                · have hb1 : (t[f][p] == (n : Int)) = false := by simpa using he
                  have HG := Lib.hid (mid_no hft hpt he)
                  have HF2 := HQ.out
                  rw [← HG.out] at HF2
                  have HF3 := Lib.hid HF2
                  clear HF2 he
                  go_wp2_with fail
                  go_roundw
                  case rel => exact ⟨p + 1, by omega, by go_num, HF3.out⟩
                  case measure => simp [intOf]; omega
              · obtain rfl : p = 6 := by omega
                have HF2 := HQ.out
                rw [mid_row hft 6 (by rw [H6.out]; exact Nat.le_refl _)] at HF2
                have HF3 := Lib.hid HF2
                clear HF2
                go_wp2_with fail
                go_roundw
                case rel => exact ⟨f + 1, by omega, by go_num, HF3.out⟩
                case measure => simp [intOf]; omega
          · obtain rfl : f = 8 := by omega
            have HF2 := HM.out
            rw [mid_end n 8 (by rw [H8.out]; exact Nat.le_refl _)] at HF2
            have HF3 := Lib.hid HF2
            clear HF2
            go_wp2_with fail
            go_roundw
            case rel => exact ⟨n + 1, by omega, by go_num, HF3.out⟩
            case measure => simp [intOf]; omega
      · obtain rfl : n = 48 := by omega
        have HF2 := HR.out
        rw [← used_yes HV.out] at HF2
        have HF := Lib.hid HF2
        clear HF2
        go_wp2_with fail
        go_ret
        exact ⟨_, rfl, ⟨own_wide HF.out.1.1 (by omega), HF.out.1.2⟩, HF.out.2.1⟩

end Go.Proofs.Ytjmofmdcegefgaa

