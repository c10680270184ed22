/-
  The walks of FreePages, both ways.
-/
import Derived.Test.YtfcfifjfmflicaaBcp
import Derived.Test.YtfcfifjfmflicaaDvr
import Derived.Test.YtfcfifjfmflicaaDvh
namespace Go.Proofs.Ytfcfifjfmflicaa
open Go.RowKit

theorem nfull_step {l : List Pg} {k : Nat} (hk : k < l.length) : nfull (l.take (k + 1)) = nfull (l.take k) + if l[k].full = true then 1 else 0 := by
  rw [nfull_take hk]
  cases l[k].full <;> simp
theorem nfull_take_le (l : List Pg) (k : Nat) : nfull (l.take k) ≤ k := by
  have := nfull_le (l.take k)
  rw [List.length_take] at this
  omega

theorem RB1.keep {w w' : World} {lo hi : Nat} {v : Value} {b : Bk} (h : RB1 w lo hi v b) (hk : Below w.heap.size w w') : RB1 w' lo hi v b := by
  obtain ⟨s, rfl, h1, h2⟩ := h
  exact ⟨s, rfl, h1, h2.below hk⟩

set_option maxHeartbeats 1000000 in
theorem written_any (v : Value) (b : Bk) (lo hi : Nat) (w : World) (h : RB1 w lo hi v b) (hx : b.pages.length ≤ 1048576) :
    Calls Try.prog 33 #[v] w fun e w' => e = .returned (.int .i64 (nfull b.pages)) ∧ Below w.heap.size w w' := by
  obtain ⟨s, rfl, hw, hp⟩ := h
  obtain ⟨a, cap, b0, off, rfl, q1, q2, q3, q4⟩ := hp.open
  have HB0 := Lib.hid (balloc w (.cells #[.int .i64 b.wear, .slice a b.pages.length cap] 53))
  have Q4 := Lib.hid q4
  clear hp q4
  go_enter Try.func33, Try.ntmps33
  go_wp2_with fail
  go_loopw [3, 9] (fun c i wr => ∃ k : Nat, k ≤ b.pages.length ∧ i = .int .i64 k ∧ c = .int .i64 (nfull (b.pages.take k)) ∧ Below w.heap.size w wr) (fun _ i _ => b.pages.length - (intOf i).toNat)
  case atStart => exact ⟨0, Nat.zero_le _, rfl, rfl, HB0.out⟩
  case round =>
    obtain ⟨k, hk, rfl, rfl, hbr⟩ := hrel
    have HB := Lib.hid hbr
    clear hbr
    have hnl := nfull_take_le b.pages k
    by_cases hlt : k < b.pages.length
    · obtain rfl := q3 (by omega)
      have hki : (k : Int) < (b.pages.length : Int) := by omega
      obtain ⟨e0, e1, e2, e3, e4⟩ := (Q4.out k hlt).below HB.out
      have hst := nfull_step hlt
      generalize b.pages[k] = p at e0 e1 e2 e3 e4 hst
      have HB6 := Lib.hid (bup2 HB.out (balloc wr (.cells #[.bool p.full, .int .i64 p.file, .int .i64 p.place, .int .i64 p.value, .int .i64 p.stamp] 61)))
      cases hf : p.full
      all_goals
        rw [hf] at e0 hst HB6
        simp only [if_true, Bool.false_eq_true, if_false, Nat.add_zero] at hst
        have HST := Lib.hid hst
        clear q3 hst hf
        go_wp2_with fail
        go_roundw
        case rel => exact ⟨k + 1, by omega, by go_num, by rw [HST.out]; try go_num, HB6.out⟩
        case measure => simp [intOf]; omega
    · have hki : ¬ (k : Int) < (b.pages.length : Int) := by omega
      have hall : b.pages.take k = b.pages := List.take_of_length_le (by omega)
      rw [hall]
      go_wp2_with fail
      go_ret
      exact ⟨rfl, HB.out⟩

set_option maxHeartbeats 1000000 in
theorem implFre_any (v : Value) (d : List Bk) (lo hi : Nat) (w : World) (h : RD w lo hi v d) :
    Calls Try.prog 16 #[v] w fun e w' => e = .returned (.int .i64 (frees d)) ∧ Below w.heap.size w w' := by
  obtain ⟨a, cap, b, off, rfl, q1, q2, q3, -⟩ := h.open
  have H := Lib.hid h
  clear h
  cases hv : dvOk d
  · rw [frees_no hv]
    have c1 := fun wx h => implDvv_any (.slice a d.length cap) d lo hi wx h
    rw [hv] at c1
    have C1 := Lib.hid c1
    clear c1 hv
    go_enter Try.func16, Try.ntmps16
    go_wp2_with fail
    refine (C1.out _ H.out).mono ?_
    rintro e w1 ⟨rfl, b1⟩
    go_wp2_with fail
    all_goals (go_ret; exact ⟨rfl, b1⟩)
  · have HV := Lib.hid hv
    have hl12 := (dv_len hv).2
    rw [frees_frN hv]
    have c1 := fun wx h => implDvv_any (.slice a d.length cap) d lo hi wx h
    rw [hv] at c1
    have C1 := Lib.hid c1
    clear c1 hv
    go_enter Try.func16, Try.ntmps16
    go_wp2_with fail
    refine (C1.out _ H.out).mono ?_
    rintro e w1 ⟨rfl, b1⟩
    have HB1 := Lib.hid b1
    clear b1 C1
    go_wp2_with fail
    go_loopw [3, 11] (fun c i wr => ∃ k : Nat, k ≤ d.length ∧ i = .int .i64 k ∧ c = .int .i64 (frN d k) ∧ Below w.heap.size w wr) (fun _ i _ => d.length - (intOf i).toNat)
    case atStart => exact ⟨0, Nat.zero_le _, rfl, by rw [frN_zero]; rfl, HB1.out⟩
    case round =>
      obtain ⟨k, hk, rfl, rfl, hbr⟩ := hrel
      have HB := Lib.hid hbr
      clear hbr HB1
      have hfr := frN_le k hk
      by_cases hlt : k < d.length
      · obtain rfl := q3 (by omega)
        have hki : (k : Int) < (d.length : Int) := by omega
        obtain ⟨a', cap', b', off', c1, c2, hp, hw, r1, r2, -⟩ := (H.out.below HB.out).at k hlt
        have h4 := dv_len4 HV.out hlt
        have hst := frN_succ hlt
        have hn4 := nfull_le d[k].pages
        have HP := Lib.hid (RB1.mk'' hp hw)
        have HST := Lib.hid hst
        clear q3 hp hst
        generalize d[k] = bk at c1 c2 HP h4 HST hn4 hw r1
        have hx4 : bk.pages.length ≤ 1048576 := by omega
        have hn5 : nfull bk.pages ≤ 4 := by omega
        clear h4 hn4
        have hb6 := balloc wr (.cells #[.int .i64 bk.wear, .slice a' bk.pages.length cap'] 53)
        have HB6 := Lib.hid (And.intro (bup2 HB.out hb6) hb6)
        clear hb6
        go_wp2_with fail
        refine (written_any _ bk _ _ _ (HP.out.keep HB6.out.2) hx4).mono ?_
        rintro e w2 ⟨rfl, b2⟩
        have HB2 := Lib.hid (bup2 HB6.out.1 b2)
        clear b2
        go_wp2_with fail
        go_roundw
        case rel => exact ⟨k + 1, by omega, by go_num, by rw [HST.out]; try go_num, HB2.out⟩
        case measure => simp [intOf]; omega
      · have hki : ¬ (k : Int) < (d.length : Int) := by omega
        obtain rfl : k = d.length := by omega
        go_wp2_with fail
        go_ret
        exact ⟨rfl, HB.out⟩

set_option maxHeartbeats 1000000 in
theorem specFre_any (v : Value) (d : List Bk) (lo hi : Nat) (w : World) (h : RD w lo hi v d) :
    Calls Try.prog 21 #[v] w fun e w' => e = .returned (.int .i64 (frees d)) ∧ Below w.heap.size w w' := by
  obtain ⟨a, cap, b, off, rfl, q1, q2, q3, -⟩ := h.open
  have H := Lib.hid h
  clear h
  cases hv : dvOk d
  · rw [frees_no hv]
    have c1 := fun wx h => specDvv_any (.slice a d.length cap) d lo hi wx h
    rw [hv] at c1
    have C1 := Lib.hid c1
    clear c1 hv
    go_enter Try.func21, Try.ntmps21
    go_wp2_with fail
    refine (C1.out _ H.out).mono ?_
    rintro e w1 ⟨rfl, b1⟩
    go_wp2_with fail
    all_goals (go_ret; exact ⟨rfl, b1⟩)
  · have HV := Lib.hid hv
    have hl12 := (dv_len hv).2
    rw [frees_all hv]
    have c1 := fun wx h => specDvv_any (.slice a d.length cap) d lo hi wx h
    rw [hv] at c1
    have C1 := Lib.hid c1
    have C2 := Lib.hid (fun n wx h hn => specRdp_any (.slice a d.length cap) d n lo hi wx h hn)
    clear c1 hv q3
    go_enter Try.func21, Try.ntmps21
    go_wp2_with fail
    refine (C1.out _ H.out).mono ?_
    rintro e w1 ⟨rfl, b1⟩
    have HB1 := Lib.hid b1
    clear b1 C1
    go_wp2_with fail
    go_loopw [3, 4, 5, 6] (fun c i _ _ wr => ∃ k : Nat, k ≤ 4 * d.length ∧ i = .int .i64 k ∧ c = .int .i64 (nfree ((dpg d).take k)) ∧ Below w.heap.size w wr) (fun _ i _ _ _ => 4 * d.length - (intOf i).toNat)
    case atStart => exact ⟨0, Nat.zero_le _, rfl, rfl, HB1.out⟩
    case round =>
      obtain ⟨k, hk, rfl, rfl, hbr⟩ := hrel
      have HB := Lib.hid hbr
      clear hbr HB1
      have hfr := nfree_take_le (dpg d) k
      by_cases hlt : k < 4 * d.length
      · have hki : (k : Int) < 4 * (d.length : Int) := by omega
        have hst := nfree_step HV.out hlt
        have c2 := fun wx h => C2.out (k : Int) wx h (by unfold I64; omega)
        rw [rdp_in HV.out hlt] at c2
        obtain ⟨p, hp⟩ : ∃ p, p = dat d k := ⟨_, rfl⟩
        rw [← hp] at c2 hst
        obtain ⟨f, fi, pl, va, st⟩ := p
        cases f
        all_goals
          simp only [if_true, Bool.false_eq_true, if_false, Nat.add_zero] at hst
          have HST := Lib.hid hst
          have C3 := Lib.hid c2
          clear hst c2 hp
          go_wp2_with fail
          refine (C3.out _ (H.out.below HB.out)).mono ?_
          rintro e w2 ⟨rfl, b2⟩
          unfold pgv
          have HB2 := Lib.hid (bup2 HB.out b2)
          clear b2 C3
          go_wp2_with fail
          go_roundw
          case rel => exact ⟨k + 1, by omega, by go_num, by rw [HST.out]; try go_num, by first | exact bup2 HB2.out (balloc _ _) | exact HB2.out⟩
          case measure => simp [intOf]; omega
      · have hki : ¬ (k : Int) < 4 * (d.length : Int) := by omega
        obtain rfl : k = 4 * d.length := by omega
        go_wp2_with fail
        go_ret
        exact ⟨rfl, HB.out⟩

end Go.Proofs.Ytfcfifjfmflicaa
