/-
  Texts of this claim, laid together: Frw, Gvw.
-/
import Derived.Test.YtjmofmdcegefgaaQ11
import Derived.Test.YtjmofmdcegefgaaQ15
import Derived.Test.YtjmofmdcegefgaaQ16
namespace Go.Proofs.Ytjmofmdcegefgaa
open Go.RowKit

theorem nfull_step {l : List Pg} {k : Nat} (hk : k < l.length) : nfull (l.take (k + 1)) = nfull (l.take k) + if l[k].full = true then 1 else 0 := by
  rw [nfull_take hk]
  cases l[k].full <;> simp
theorem nfull_take_le (l : List Pg) (k : Nat) : nfull (l.take k) ≤ k := by
  have := nfull_le (l.take k)
  rw [List.length_take] at this
  omega

theorem RB1.keep {w w' : World} {lo hi : Nat} {v : Value} {b : Bk} (h : RB1 w lo hi v b) (hk : Below w.heap.size w w') : RB1 w' lo hi v b := by
  obtain ⟨s, rfl, h1, h2⟩ := h
  exact ⟨s, rfl, h1, h2.below hk⟩

set_option maxHeartbeats 1000000 in
theorem written_any (v : Value) (b : Bk) (lo hi : Nat) (w : World) (h : RB1 w lo hi v b) (hx : b.pages.length ≤ 1048576) :
    Calls Try.prog 46 #[v] w fun e w' => e = .returned (.int .i64 (nfull b.pages)) ∧ Below w.heap.size w w' := by
  obtain ⟨s, rfl, hw, hp⟩ := h
  obtain ⟨a, cap, b0, off, rfl, q1, q2, q3, q4⟩ := hp.open
  have HB0 := Lib.hid (balloc w (.cells #[.int .i64 b.wear, .slice a b.pages.length cap] 44))
  have Q4 := Lib.hid q4
  clear hp q4
  go_enter Try.func46, Try.ntmps46
  go_wp2_with fail
  go_loopw [3, 9] (fun c i wr => ∃ k : Nat, k ≤ b.pages.length ∧ i = .int .i64 k ∧ c = .int .i64 (nfull (b.pages.take k)) ∧ Below w.heap.size w wr) (fun _ i _ => b.pages.length - (intOf i).toNat)
  case atStart => exact ⟨0, Nat.zero_le _, rfl, rfl, HB0.out⟩
  case round =>
    obtain ⟨k, hk, rfl, rfl, hbr⟩ := hrel
    have HB := Lib.hid hbr
    clear hbr
    have hnl := nfull_take_le b.pages k
    by_cases hlt : k < b.pages.length
    · obtain rfl := q3 (by omega)
      have hki : (k : Int) < (b.pages.length : Int) := by omega
      obtain ⟨e0, e1, e2, e3, e4⟩ := (Q4.out k hlt).below HB.out
      have hst := nfull_step hlt
      generalize b.pages[k] = p at e0 e1 e2 e3 e4 hst
      have HB6 := Lib.hid (bup2 HB.out (balloc wr (.cells #[.bool p.full, .int .i64 p.file, .int .i64 p.place, .int .i64 p.value, .int .i64 p.stamp] 53)))
      cases hf : p.full
      all_goals
        rw [hf] at e0 hst HB6
        simp only [if_true, Bool.false_eq_true, if_false, Nat.add_zero] at hst
        have HST := Lib.hid hst
        clear q3 hst hf
        go_wp2_with fail
        go_roundw
        case rel => exact ⟨k + 1, by omega, by go_num, by rw [HST.out]; try go_num, HB6.out⟩
        case measure => simp [intOf]; omega
    · have hki : ¬ (k : Int) < (b.pages.length : Int) := by omega
      have hall : b.pages.take k = b.pages := List.take_of_length_le (by omega)
      rw [hall]
      go_wp2_with fail
      go_ret
      exact ⟨rfl, HB.out⟩

set_option maxHeartbeats 1000000 in
theorem implFre_any (v : Value) (d : List Bk) (lo hi : Nat) (w : World) (h : RD w lo hi v d) :
    Calls Try.prog 14 #[v] w fun e w' => e = .returned (.int .i64 (frees d)) ∧ Below w.heap.size w w' := by
  obtain ⟨a, cap, b, off, rfl, q1, q2, q3, -⟩ := h.open
  have H := Lib.hid h
  clear h
  cases hv : dvOk d
  · rw [frees_no hv]
    have c1 := fun wx h => implDvv_any (.slice a d.length cap) d lo hi wx h
    rw [hv] at c1
    have C1 := Lib.hid c1
    clear c1 hv
    go_enter Try.func14, Try.ntmps14
    go_wp2_with fail
    refine (C1.out _ H.out).mono ?_
    rintro e w1 ⟨rfl, b1⟩
    go_wp2_with fail
    all_goals (go_ret; exact ⟨rfl, b1⟩)
  · have HV := Lib.hid hv
    have hl12 := (dv_len hv).2
    rw [frees_frN hv]
    have c1 := fun wx h => implDvv_any (.slice a d.length cap) d lo hi wx h
    rw [hv] at c1
    have C1 := Lib.hid c1
    clear c1 hv
    go_enter Try.func14, Try.ntmps14
    go_wp2_with fail
    refine (C1.out _ H.out).mono ?_
    rintro e w1 ⟨rfl, b1⟩
    have HB1 := Lib.hid b1
    clear b1 C1
    go_wp2_with fail
    go_loopw [3, 11] (fun c i wr => ∃ k : Nat, k ≤ d.length ∧ i = .int .i64 k ∧ c = .int .i64 (frN d k) ∧ Below w.heap.size w wr) (fun _ i _ => d.length - (intOf i).toNat)
    case atStart => exact ⟨0, Nat.zero_le _, rfl, by rw [frN_zero]; rfl, HB1.out⟩
    case round =>
      obtain ⟨k, hk, rfl, rfl, hbr⟩ := hrel
      have HB := Lib.hid hbr
      clear hbr HB1
      have hfr := frN_le k hk
      by_cases hlt : k < d.length
      · obtain rfl := q3 (by omega)
        have hki : (k : Int) < (d.length : Int) := by omega
        obtain ⟨a', cap', b', off', c1, c2, hp, hw, r1, r2, -⟩ := (H.out.below HB.out).at k hlt
        have h4 := dv_len4 HV.out hlt
        have hst := frN_succ hlt
        have hn4 := nfull_le d[k].pages
        have HP := Lib.hid (RB1.mk'' hp hw)
        have HST := Lib.hid hst
        clear q3 hp hst
        generalize d[k] = bk at c1 c2 HP h4 HST hn4 hw r1
        have hx4 : bk.pages.length ≤ 1048576 := by omega
        have hn5 : nfull bk.pages ≤ 4 := by omega
        clear h4 hn4
        have hb6 := balloc wr (.cells #[.int .i64 bk.wear, .slice a' bk.pages.length cap'] 44)
        have HB6 := Lib.hid (And.intro (bup2 HB.out hb6) hb6)
        clear hb6
        go_wp2_with fail
        refine (written_any _ bk _ _ _ (HP.out.keep HB6.out.2) hx4).mono ?_
        rintro e w2 ⟨rfl, b2⟩
        have HB2 := Lib.hid (bup2 HB6.out.1 b2)
        clear b2
        go_wp2_with fail
        go_roundw
        case rel => exact ⟨k + 1, by omega, by go_num, by rw [HST.out]; try go_num, HB2.out⟩
        case measure => simp [intOf]; omega
      · have hki : ¬ (k : Int) < (d.length : Int) := by omega
        obtain rfl : k = d.length := by omega
        go_wp2_with fail
        go_ret
        exact ⟨rfl, HB.out⟩

set_option maxHeartbeats 1000000 in
theorem specFre_any (v : Value) (d : List Bk) (lo hi : Nat) (w : World) (h : RD w lo hi v d) :
    Calls Try.prog 43 #[v] w fun e w' => e = .returned (.int .i64 (frees d)) ∧ Below w.heap.size w w' := by
  obtain ⟨a, cap, b, off, rfl, q1, q2, q3, -⟩ := h.open
  have H := Lib.hid h
  clear h
  cases hv : dvOk d
  · rw [frees_no hv]
    have c1 := fun wx h => specDvv_any (.slice a d.length cap) d lo hi wx h
    rw [hv] at c1
    have C1 := Lib.hid c1
    clear c1 hv
    go_enter Try.func43, Try.ntmps43
    go_wp2_with fail
    refine (C1.out _ H.out).mono ?_
    rintro e w1 ⟨rfl, b1⟩
    go_wp2_with fail
    all_goals (go_ret; exact ⟨rfl, b1⟩)
  · have HV := Lib.hid hv
    have hl12 := (dv_len hv).2
    rw [frees_all hv]
    have c1 := fun wx h => specDvv_any (.slice a d.length cap) d lo hi wx h
    rw [hv] at c1
    have C1 := Lib.hid c1
    have C2 := Lib.hid (fun n wx h hn => specRdp_any (.slice a d.length cap) d n lo hi wx h hn)
    clear c1 hv q3
    go_enter Try.func43, Try.ntmps43
    go_wp2_with fail
    refine (C1.out _ H.out).mono ?_
    rintro e w1 ⟨rfl, b1⟩
    have HB1 := Lib.hid b1
    clear b1 C1
    go_wp2_with fail
    go_loopw [3, 4, 5, 6] (fun c i _ _ wr => ∃ k : Nat, k ≤ 4 * d.length ∧ i = .int .i64 k ∧ c = .int .i64 (nfree ((dpg d).take k)) ∧ Below w.heap.size w wr) (fun _ i _ _ _ => 4 * d.length - (intOf i).toNat)
    case atStart => exact ⟨0, Nat.zero_le _, rfl, rfl, HB1.out⟩
    case round =>
      obtain ⟨k, hk, rfl, rfl, hbr⟩ := hrel
      have HB := Lib.hid hbr
      clear hbr HB1
      have hfr := nfree_take_le (dpg d) k
      by_cases hlt : k < 4 * d.length
      · have hki : (k : Int) < 4 * (d.length : Int) := by omega
        have hst := nfree_step HV.out hlt
        have c2 := fun wx h => C2.out (k : Int) wx h (by unfold I64; omega)
        rw [rdp_in HV.out hlt] at c2
        obtain ⟨p, hp⟩ : ∃ p, p = dat d k := ⟨_, rfl⟩
        rw [← hp] at c2 hst
        obtain ⟨f, fi, pl, va, st⟩ := p
        cases f
        all_goals
          simp only [if_true, Bool.false_eq_true, if_false, Nat.add_zero] at hst
          have HST := Lib.hid hst
          have C3 := Lib.hid c2
          clear hst c2 hp
          go_wp2_with fail
          refine (C3.out _ (H.out.below HB.out)).mono ?_
          rintro e w2 ⟨rfl, b2⟩
          unfold pgv
          have HB2 := Lib.hid (bup2 HB.out b2)
          clear b2 C3
          go_wp2_with fail
          go_roundw
          case rel => exact ⟨k + 1, by omega, by go_num, by rw [HST.out]; try go_num, by first | exact bup2 HB2.out (balloc _ _) | exact HB2.out⟩
          case measure => simp [intOf]; omega
      · have hki : ¬ (k : Int) < 4 * (d.length : Int) := by omega
        obtain rfl : k = 4 * d.length := by omega
        go_wp2_with fail
        go_ret
        exact ⟨rfl, HB.out⟩

end Go.Proofs.Ytjmofmdcegefgaa

namespace Go.Proofs.Ytjmofmdcegefgaa
open Go.RowKit

set_option maxHeartbeats 1000000 in
theorem mayClean_any (v : Value) (b : Bk) (u : Int) (lo hi : Nat) (w : World) (h : RB1 w lo hi v b) (hx : b.pages.length ≤ 1048576) :
    Calls Try.prog 49 #[v, .int .i64 u] w fun e w' => e = .returned (.bool (decide (nfull b.pages = 4) && decide (u < 4))) ∧ Below w.heap.size w w' := by
  obtain ⟨s, rfl, hw, hp⟩ := h
  obtain ⟨a, cap, b0, off, rfl, -⟩ := hp.open
  have HB0 := Lib.hid (balloc w (.cells #[.int .i64 b.wear, .slice a b.pages.length cap] 44))
  have HP := Lib.hid (RB1.keep (RB1.mk'' hp hw) HB0.out)
  clear hp
  by_cases h4 : nfull b.pages = 4
  · have hb : ((nfull b.pages : Int) == 4) = true := by simp; omega
    have hd : decide (nfull b.pages = 4) = true := by simpa using h4
    rw [hd]
    clear h4 hd
    go_enter Try.func49, Try.ntmps49
    go_wp2_with fail
    refine (written_any _ b _ _ _ HP.out hx).mono ?_
    rintro e w1 ⟨rfl, b1⟩
    have HF := Lib.hid (bup2 HB0.out b1)
    clear b1
    go_wp2_with fail
    all_goals (go_ret; exact ⟨by simp, HF.out⟩)
  · have hb : ((nfull b.pages : Int) == 4) = false := by simp; omega
    have hd : decide (nfull b.pages = 4) = false := by simpa using h4
    rw [hd]
    clear h4 hd
    go_enter Try.func49, Try.ntmps49
    go_wp2_with fail
    refine (written_any _ b _ _ _ HP.out hx).mono ?_
    rintro e w1 ⟨rfl, b1⟩
    have HF := Lib.hid (bup2 HB0.out b1)
    clear b1
    go_wp2_with fail
    all_goals (go_ret; exact ⟨by simp, HF.out⟩)

set_option maxHeartbeats 1000000 in
theorem specNext_any (v : Value) (b : Bk) (lo hi : Nat) (w : World) (h : RB1 w lo hi v b) (hk : bkOk b = true) :
    Calls Try.prog 73 #[v] w fun e w' => e = .returned (.int .i64 (bnext b)) ∧ Below w.heap.size w w' := by
  obtain ⟨s, rfl, hw, hp⟩ := h
  obtain ⟨a, cap, b0, off, rfl, q1, q2, q3, q4⟩ := hp.open
  have h4 := (bkOk_iff.1 hk).2.1
  have HB0 := Lib.hid (balloc w (.cells #[.int .i64 b.wear, .slice a b.pages.length cap] 44))
  have X0 := Lib.hid (heap_alloc_new w (.cells #[.int .i64 b.wear, .slice a b.pages.length cap] 44))
  have HP := Lib.hid (RB1.mk'' hp hw)
  have Q4 := Lib.hid q4
  have c1 := fun wx h => specBkv_any (.agg #[.int .i64 b.wear, .slice a b.pages.length cap]) b lo hi wx h
  rw [hk] at c1
  have C1 := Lib.hid c1
  have HK := Lib.hid hk
  have hx : b.pages.length ≤ 1048576 := by omega
  clear hp q4 c1 hk h4
  go_enter Try.func73, Try.ntmps73
  go_wp2_with fail
  go_loopw [3] (fun i wr => ∃ k : Nat, k ≤ b.pages.length ∧ i = .int .i64 k ∧ (∀ j (hj : j < k) (hb : j < b.pages.length), b.pages[j].full = true) ∧ Below w.heap.size w wr ∧ wr.heap[w.heap.size]? = some (.cells #[.int .i64 b.wear, .slice a b.pages.length cap] 44)) (fun i _ => b.pages.length - (intOf i).toNat)
  case atStart => exact ⟨0, Nat.zero_le _, rfl, fun j hj => by omega, HB0.out, X0.out⟩
  case round =>
    obtain ⟨k, hk, rfl, hall, hbr, hbx⟩ := hrel
    have HR := Lib.hid (And.intro hall (And.intro hbr hbx))
    obtain ⟨⟨d1, d2⟩, -⟩ := two_at hbx
    clear hall hbr hbx
    by_cases hlt : k < b.pages.length
    · obtain rfl := q3 (by omega)
      have hki : (k : Int) < (b.pages.length : Int) := by omega
      go_wp2_with fail
      refine (C1.out _ (RB1.keep HP.out HR.out.2.1)).mono ?_
      rintro e w1 ⟨rfl, b1⟩
      have HR1 := Lib.hid (And.intro (bup2 HR.out.2.1 b1) (box_keep HR.out.2.2 b1))
      obtain ⟨⟨d3, d4⟩, -⟩ := two_at HR1.out.2
      obtain ⟨e0, -⟩ := (Q4.out k hlt).below HR1.out.1
      clear b1 d1 d2 q3
      cases hf : b.pages[k].full
      · have hn := bnext_at HK.out hlt (fun j hj => HR.out.1 j hj (by omega)) hf
        have HN := Lib.hid hn
        rw [hf] at e0
        clear hn hf
        go_wp2_with fail
        go_ret
        exact ⟨by rw [HN.out]; rfl, HR1.out.1⟩
      · have hn : ∀ j (hj : j < k + 1) (hb : j < b.pages.length), b.pages[j].full = true := fun j hj hb => by
          by_cases e : j = k
          · subst e; exact hf
          · exact HR.out.1 j (by omega) hb
        have HN := Lib.hid hn
        rw [hf] at e0
        clear hn hf
        go_wp2_with fail
        go_roundw
        case rel => exact ⟨k + 1, by omega, by go_num, HN.out, HR1.out.1, HR1.out.2⟩
        case measure => simp [intOf]; omega
    · have hki : ¬ (k : Int) < (b.pages.length : Int) := by omega
      have hn := bnext_full (b := b) (fun j hj => HR.out.1 j (by omega) hj)
      have HN := Lib.hid hn
      clear hn
      go_wp2_with fail
      go_ret
      exact ⟨by rw [HN.out]; rfl, HR.out.2.1⟩

theorem may_next {b : Bk} (hk : bkOk b = true) : decide (nfull b.pages = 4) = decide (bnext b < 0) := by
  have h1 := nfull_all hk
  have h2 := bnext_le b
  by_cases h : nfull b.pages = 4
  · have := h1.1 h
    simp [h]; omega
  · have : ¬ bnext b = -1 := fun e => h (h1.2 e)
    simp [h]; omega

set_option maxHeartbeats 2000000 in
set_option maxRecDepth 4000 in
theorem specMay_any (v vc : Value) (d : List Bk) (cs : List Int) (h : Hd) (n : Nat) (lo hi lo2 hi2 : Nat) (w : World) (hd : RD w lo hi v d) (hc : RI w lo2 hi2 vc cs) (hv : dvOk d = true) (hn : n < d.length) (hn2 : n < cs.length) (hcl : cs.length ≤ 1048576) :
    Calls Try.prog 52 #[v, vc, hdv h, .int .i64 n] w fun e w' => e = .returned (.bool (may d cs h n)) ∧ Below w.heap.size w w' := by
  obtain ⟨a, cap, b, off, rfl, q1, q2, q3, -⟩ := hd.open
  obtain ⟨a2, cap2, b2, off2, rfl, r1, r2, r3, r4⟩ := hc.open
  obtain rfl := q3 (by omega)
  obtain rfl := r3 (by omega)
  have HB0 := Lib.hid (balloc w (hbox h))
  have X0 := Lib.hid (heap_alloc_new w (hbox h))
  have hl12 := (dv_len hv).2
  have hni : (n : Int) < (d.length : Int) := by omega
  have hni2 : (n : Int) < (cs.length : Int) := by omega
  obtain ⟨a', cap', b', off', c1, c2, hp, hw, -⟩ := (hd.below HB0.out).at n hn
  have hk := dv_blk hv hn
  have HN := Lib.hid (fun wx (hq : RB1 wx lo hi (.agg #[.int .i64 d[n].wear, .slice a' d[n].pages.length cap']) d[n]) => specNext_any _ d[n] lo hi wx hq hk)
  have hm : may d cs h n = (decide (bnext d[n] < 0) && decide (cs[n] < 4) && !isHd h n) := by
    unfold may
    rw [getDb_in hn, getD_in hn2, may_next hk]
  rw [hm]
  have HP := Lib.hid (RB1.mk'' hp hw)
  have hc4 := r4 n hn2
  have hxi := hc.2 _ (List.getElem_mem hn2)
  generalize cs[n] = x at hc4 hxi ⊢
  have HC4 := Lib.hid hc4
  obtain ⟨A, B, C⟩ := h
  unfold hdv
  unfold hbox at HB0 X0 HP c1 c2
  unfold isHd
  simp only at X0 HB0 HP c1 c2 ⊢
  generalize hbn : bnext d[n] = y at HN ⊢
  generalize d[n] = bk at c1 c2 HP HN hw
  clear hp hk hm hd hc q3 r3 r4 hc4 hv hw hbn
  by_cases hy : y < 0
  · have hyd : decide (y < 0) = true := by simpa using hy
    rw [hyd]
    by_cases hx : x < 4
    · have hxd : decide (x < 4) = true := by simpa using hx
      rw [hxd]
      cases hA : ((n : Int) == A)
      · have hA2 : ((n : Int) != A) = true := by simp [bne, hA]
        cases hB : ((n : Int) == B)
        · have hB2 : ((n : Int) != B) = true := by simp [bne, hB]
          cases hC : ((n : Int) == C)
          · have hC2 : ((n : Int) != C) = true := by simp [bne, hC]
            go_enter Try.func52, Try.ntmps52
            go_wp2_with fail
            refine (HN.out _ HP.out).mono ?_
            rintro e w1 ⟨rfl, b1⟩
            have HF := Lib.hid (bup2 HB0.out b1)
            have d1 := cell_later HF.out HC4.out
            obtain ⟨⟨d2, d3, d4⟩, -⟩ := three_at (box_keep X0.out b1)
            clear b1
            go_wp2_with fail
            all_goals (go_ret; exact ⟨by simp, HF.out⟩)
          · have hC2 : ((n : Int) != C) = false := by simp [bne, hC]
            go_enter Try.func52, Try.ntmps52
            go_wp2_with fail
            refine (HN.out _ HP.out).mono ?_
            rintro e w1 ⟨rfl, b1⟩
            have HF := Lib.hid (bup2 HB0.out b1)
            have d1 := cell_later HF.out HC4.out
            obtain ⟨⟨d2, d3, d4⟩, -⟩ := three_at (box_keep X0.out b1)
            clear b1
            go_wp2_with fail
            all_goals (go_ret; exact ⟨by simp, HF.out⟩)
        · have hB2 : ((n : Int) != B) = false := by simp [bne, hB]
          go_enter Try.func52, Try.ntmps52
          go_wp2_with fail
          refine (HN.out _ HP.out).mono ?_
          rintro e w1 ⟨rfl, b1⟩
          have HF := Lib.hid (bup2 HB0.out b1)
          have d1 := cell_later HF.out HC4.out
          obtain ⟨⟨d2, d3, d4⟩, -⟩ := three_at (box_keep X0.out b1)
          clear b1
          go_wp2_with fail
          all_goals (go_ret; exact ⟨by simp, HF.out⟩)
      · have hA2 : ((n : Int) != A) = false := by simp [bne, hA]
        go_enter Try.func52, Try.ntmps52
        go_wp2_with fail
        refine (HN.out _ HP.out).mono ?_
        rintro e w1 ⟨rfl, b1⟩
        have HF := Lib.hid (bup2 HB0.out b1)
        have d1 := cell_later HF.out HC4.out
        obtain ⟨⟨d2, d3, d4⟩, -⟩ := three_at (box_keep X0.out b1)
        clear b1
        go_wp2_with fail
        all_goals (go_ret; exact ⟨by simp, HF.out⟩)
    · have hxd : decide (x < 4) = false := by simpa using hx
      rw [hxd]
      go_enter Try.func52, Try.ntmps52
      go_wp2_with fail
      refine (HN.out _ HP.out).mono ?_
      rintro e w1 ⟨rfl, b1⟩
      have HF := Lib.hid (bup2 HB0.out b1)
      have d1 := cell_later HF.out HC4.out
      clear b1
      go_wp2_with fail
      all_goals (go_ret; exact ⟨by simp, HF.out⟩)
  · have hyd : decide (y < 0) = false := by simpa using hy
    rw [hyd]
    go_enter Try.func52, Try.ntmps52
    go_wp2_with fail
    refine (HN.out _ HP.out).mono ?_
    rintro e w1 ⟨rfl, b1⟩
    have HF := Lib.hid (bup2 HB0.out b1)
    clear b1
    go_wp2_with fail
    all_goals (go_ret; exact ⟨by simp, HF.out⟩)

end Go.Proofs.Ytjmofmdcegefgaa

