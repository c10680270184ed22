/-
  The walks of the laws' helpers over devices: sz, eq.
-/
import Derived.Test.YtpfekeflkmafcaaDvh
import Derived.Test.YtpfekeflkmafcaaTbc
namespace Go.Proofs.Ytpfekeflkmafcaa
open Go.RowKit

theorem szPageS_any (v : Value) (ps : List Pg) (lo hi : Nat) (left : Nat) (w : World) (h : RP w lo hi v ps) (hl : left ≤ 1048576) :
    Calls Try.prog 43 #[v, .int .i64 left] w fun e w' => e = .returned (.int .i64 (if ps.length ≤ left then (left : Int) - ps.length else -1)) ∧ w = w' := by
  obtain ⟨a, cap, b, off, rfl, q1, q2, -, -⟩ := h.open
  clear h
  by_cases hx : ps.length ≤ left
  · rw [if_pos hx]
    go_enter Try.func43, Try.ntmps43
    go_wp2
    all_goals (go_ret; exact ⟨rfl, rfl⟩)
  · rw [if_neg hx]
    go_enter Try.func43, Try.ntmps43
    go_wp2
    all_goals (go_ret; exact ⟨rfl, rfl⟩)

theorem szBlock_any (v : Value) (b : Bk) (lo hi : Nat) (left : Nat) (w : World) (h : RB1 w lo hi v b) (hl : left ≤ 1048576) :
    Calls Try.prog 23 #[v, .int .i64 left] w fun e w' => e = .returned (.int .i64 (if b.pages.length ≤ left then (left : Int) - b.pages.length else -1)) ∧ Below w.heap.size w w' := by
  obtain ⟨s, rfl, hw, hp⟩ := h
  have HP := Lib.hid hp
  obtain ⟨a, cap, b0, off, rfl, -⟩ := hp.open
  have HB := Lib.hid (balloc w (.cells #[.int .i64 b.wear, .slice a b.pages.length cap] 53))
  clear hp
  by_cases hx : b.pages.length ≤ left
  · rw [if_pos hx]
    have HC := Lib.hid (fun w h => szPageS_any (.slice a b.pages.length cap) b.pages lo hi left w h hl)
    rw [if_pos hx] at HC
    go_enter Try.func23, Try.ntmps23
    go_wp2_with fail
    refine (HC.out _ (HP.out.below HB.out)).mono ?_
    rintro e w2 ⟨rfl, rfl⟩
    go_wp2_with fail
    all_goals (go_ret; exact ⟨rfl, HB.out⟩)
  · rw [if_neg hx]
    have HC := Lib.hid (fun w h => szPageS_any (.slice a b.pages.length cap) b.pages lo hi left w h hl)
    rw [if_neg hx] at HC
    go_enter Try.func23, Try.ntmps23
    go_wp2_with fail
    refine (HC.out _ (HP.out.below HB.out)).mono ?_
    rintro e w2 ⟨rfl, rfl⟩
    go_wp2_with fail
    all_goals (go_ret; exact ⟨rfl, HB.out⟩)

def bsum (d : List Bk) : Nat := (d.map fun b => b.pages.length).sum
theorem bsum_drop (d : List Bk) (k : Nat) (hk : k < d.length) : bsum (d.drop k) = d[k].pages.length + bsum (d.drop (k + 1)) := by
  unfold bsum
  rw [drop_cons d k hk, List.map_cons, List.sum_cons]
theorem bsum_end (d : List Bk) (k : Nat) (hk : ¬ k < d.length) : bsum (d.drop k) = 0 := by
  unfold bsum
  rw [List.drop_of_length_le (by omega)]; rfl

set_option maxHeartbeats 1000000 in
theorem szBlockS_any (v : Value) (d : List Bk) (lo hi : Nat) (left : Nat) (w : World) (h : RD w lo hi v d) (hleft : left ≤ 1048576) :
    Calls Try.prog 5 #[v, .int .i64 left] w fun e w' => e = .returned (.int .i64 (if dsz d ≤ left then (left : Int) - dsz d else -1)) ∧ Below w.heap.size w w' := by
  have H := Lib.hid h
  obtain ⟨a, cap, b, off, rfl, q1, q2, q3, -⟩ := h.open
  clear h
  by_cases hx : d.length ≤ left
  · generalize hR : (if dsz d ≤ left then (left : Int) - dsz d else -1) = R
    have HR : Hid (R = if bsum (d.drop 0) ≤ left - d.length then ((left - d.length : Nat) : Int) - bsum (d.drop 0) else -1) := Lib.hid (by
      rw [← hR, List.drop_zero]
      unfold dsz bsum
      split
      · rw [if_pos (by omega)]; omega
      · rw [if_neg (by omega)])
    clear hR
    go_enter Try.func5, Try.ntmps5
    go_wp2
    go_loopw [1, 5] (fun l i wr => ∃ (k m : Nat), k ≤ d.length ∧ m ≤ 1048576 ∧ i = .int .i64 k ∧ l = .int .i64 m ∧ Hid (R = if bsum (d.drop k) ≤ m then (m : Int) - bsum (d.drop k) else -1) ∧ Below w.heap.size w wr) (fun _ i _ => d.length - (intOf i).toNat)
    case atStart => exact ⟨0, left - d.length, Nat.zero_le _, by omega, rfl, by rw [show ((left - d.length : Nat) : Int) = (left : Int) - (d.length : Int) by omega], HR, Below.refl _ _⟩
    case round =>
      obtain ⟨k, m, hk, hm, rfl, rfl, H0, hbr⟩ := hrel
      have HBR := Lib.hid hbr
      clear HR hbr
      by_cases hlt : k < d.length
      · obtain rfl := q3 (by omega)
        have hki : (k : Int) < (d.length : Int) := by omega
        obtain ⟨a', cap', b', off', c1, c2, hp, hw, r1, r2, -⟩ := (H.out.below HBR.out).at k hlt
        have H1 : Hid (R = if d[k].pages.length + bsum (d.drop (k + 1)) ≤ m then (m : Int) - (d[k].pages.length + bsum (d.drop (k + 1)) : Nat) else -1) := Lib.hid (by rw [H0.out, bsum_drop d k hlt])
        have hc := szBlock_any (.agg #[.int .i64 d[k].wear, .slice a' d[k].pages.length cap']) d[k] lo hi m wr (RB1.mk'' hp hw) hm
        clear q3 H0 hp
        by_cases hle : d[k].pages.length ≤ m
        · rw [if_pos hle] at hc
          have HC := Lib.hid hc
          clear hc
          go_wp2_with fail
          refine HC.out.mono ?_
          rintro e w2 ⟨rfl, b2⟩
          have HB2 := Lib.hid (bup2 HBR.out b2)
          clear b2
          go_wp2_with fail
          go_roundw
          case rel => exact ⟨k + 1, m - d[k].pages.length, by omega, by omega, by go_num, by rw [show ((m - d[k].pages.length : Nat) : Int) = (m : Int) - d[k].pages.length by omega], Lib.hid (by
            rw [H1.out]
            split
            · rw [if_pos (by omega)]; omega
            · rw [if_neg (by omega)]), HB2.out⟩
          case measure => simp [intOf]; omega
        · rw [if_neg hle] at hc
          have HC := Lib.hid hc
          clear hc
          go_wp2_with fail
          refine HC.out.mono ?_
          rintro e w2 ⟨rfl, b2⟩
          have HB2 := Lib.hid (bup2 HBR.out b2)
          clear b2
          go_wp2_with fail
          go_ret
          exact ⟨ret_int (by rw [H1.out, if_neg (by omega)]), HB2.out⟩
      · have hki : ¬ (k : Int) < (d.length : Int) := by omega
        go_wp2_with fail
        go_ret
        exact ⟨ret_int (by rw [H0.out, bsum_end _ _ hlt]; simp), HBR.out⟩
  · have hn : ¬ dsz d ≤ left := by unfold dsz; omega
    rw [if_neg hn]
    go_enter Try.func5, Try.ntmps5
    go_wp2
    all_goals (go_ret; exact ⟨rfl, Below.refl _ _⟩)

set_option maxHeartbeats 1000000 in
theorem eqPage_any (p : Pg) (w : World) : Calls Try.prog 60 #[pgv p, pgv p] w fun e w' => e = .returned (.bool true) ∧ Below w.heap.size w w' := by
  obtain ⟨f, fi, pl, va, st⟩ := p
  have HB := Lib.hid (two_below w (.cells #[.bool f, .int .i64 fi, .int .i64 pl, .int .i64 va, .int .i64 st] 40) (.cells #[.bool f, .int .i64 fi, .int .i64 pl, .int .i64 va, .int .i64 st] 40))
  unfold pgv
  have h1 : (f != f) = false := by simp
  go_enter Try.func60, Try.ntmps60
  go_wp2_with fail
  all_goals (go_ret; exact ⟨rfl, HB.out⟩)

set_option maxHeartbeats 1000000 in
theorem eqPageS_any (v v2 : Value) (ps : List Pg) (lo hi lo2 hi2 : Nat) (w : World) (h : RP w lo hi v ps) (h2 : RP w lo2 hi2 v2 ps) (hx : ps.length ≤ 1048576) :
    Calls Try.prog 48 #[v, v2] w fun e w' => e = .returned (.bool true) ∧ Below w.heap.size w w' := by
  obtain ⟨a, cap, b, off, rfl, q1, q2, q3, q4⟩ := h.open
  obtain ⟨a', cap', b', off', rfl, r1, r2, r3, r4⟩ := h2.open
  have Q4 := Lib.hid q4
  have R4 := Lib.hid r4
  clear h h2 q4 r4
  go_enter Try.func48, Try.ntmps48
  go_wp2
  go_loopw [5] (fun i wr => ∃ k : Nat, k ≤ ps.length ∧ i = .int .i64 k ∧ Below w.heap.size w wr) (fun i _ => ps.length - (intOf i).toNat)
  case atStart => exact ⟨0, Nat.zero_le _, rfl, Below.refl _ _⟩
  case round =>
    obtain ⟨k, hk, rfl, hbr⟩ := hrel
    have HB := Lib.hid hbr
    clear hbr
    by_cases hlt : k < ps.length
    · obtain rfl := q3 (by omega)
      obtain rfl := r3 (by omega)
      have hki : (k : Int) < (ps.length : Int) := by omega
      obtain ⟨e0, e1, e2, e3, e4⟩ := (Q4.out k hlt).below HB.out
      obtain ⟨f0, f1, f2, f3, f4⟩ := (R4.out k hlt).below HB.out
      generalize ps[k] = p at e0 e1 e2 e3 e4 f0 f1 f2 f3 f4
      clear q3 r3
      go_wp2
      go_region_held3 (fun w' => w'.cell? ⟨b, off + k * 5, none⟩ = some (.bool p.full) ∧ w'.cell? ⟨b, off + k * 5 + 1, none⟩ = some (.int .i64 p.file) ∧ w'.cell? ⟨b, off + k * 5 + 2, none⟩ = some (.int .i64 p.place) ∧ w'.cell? ⟨b, off + k * 5 + 3, none⟩ = some (.int .i64 p.value) ∧ w'.cell? ⟨b, off + k * 5 + 4, none⟩ = some (.int .i64 p.stamp) ∧ w'.cell? ⟨b', off' + k * 5, none⟩ = some (.bool p.full) ∧ w'.cell? ⟨b', off' + k * 5 + 1, none⟩ = some (.int .i64 p.file) ∧ w'.cell? ⟨b', off' + k * 5 + 2, none⟩ = some (.int .i64 p.place) ∧ w'.cell? ⟨b', off' + k * 5 + 3, none⟩ = some (.int .i64 p.value) ∧ w'.cell? ⟨b', off' + k * 5 + 4, none⟩ = some (.int .i64 p.stamp))
        (first | exact ⟨e0, e1, e2, e3, e4, f0, f1, f2, f3, f4⟩ | exact ⟨cell_later (w := wr.drew) (by assumption) e0, cell_later (w := wr.drew) (by assumption) e1, cell_later (w := wr.drew) (by assumption) e2, cell_later (w := wr.drew) (by assumption) e3, cell_later (w := wr.drew) (by assumption) e4, cell_later (w := wr.drew) (by assumption) f0, cell_later (w := wr.drew) (by assumption) f1, cell_later (w := wr.drew) (by assumption) f2, cell_later (w := wr.drew) (by assumption) f3, cell_later (w := wr.drew) (by assumption) f4⟩)
        (first | (go_at_call 60; refine (eqPage_any p _).mono ?_; rintro e w2 ⟨rfl, b2⟩))
      have b2' : Below wr.drew.heap.size wr.drew w2 := by assumption
      have HF := Lib.hid (bup2 HB.out.drew b2')
      clear b2' e0 e1 e2 e3 e4 f0 f1 f2 f3 f4
      go_wp2
      go_roundw
      case rel => exact ⟨k + 1, by omega, by go_num, HF.out⟩
      case measure => simp [intOf]; omega
    · have hki : ¬ (k : Int) < (ps.length : Int) := by omega
      go_wp2
      go_ret
      exact ⟨rfl, HB.out⟩

set_option maxHeartbeats 1000000 in
theorem eqBlock_any (v v2 : Value) (b : Bk) (lo hi lo2 hi2 : Nat) (w : World) (h : RB1 w lo hi v b) (h2 : RB1 w lo2 hi2 v2 b) (hx : b.pages.length ≤ 1048576) :
    Calls Try.prog 31 #[v, v2] w fun e w' => e = .returned (.bool true) ∧ Below w.heap.size w w' := by
  obtain ⟨s, rfl, hw, hp⟩ := h
  obtain ⟨s2, rfl, -, hp2⟩ := h2
  have HP := Lib.hid (And.intro hp hp2)
  obtain ⟨a, cap, b0, off, rfl, -⟩ := hp.open
  obtain ⟨a2, cap2, b2, off2, rfl, -⟩ := hp2.open
  have HB := Lib.hid (two_below w (.cells #[.int .i64 b.wear, .slice a b.pages.length cap] 57) (.cells #[.int .i64 b.wear, .slice a2 b.pages.length cap2] 57))
  clear hp hp2
  go_enter Try.func31, Try.ntmps31
  go_wp2_with fail
  refine (eqPageS_any _ _ b.pages _ _ _ _ _ (HP.out.1.below HB.out) (HP.out.2.below HB.out) hx).mono ?_
  rintro e w3 ⟨rfl, b3⟩
  have HF := Lib.hid (bup2 HB.out b3)
  clear b3
  go_wp2_with fail
  all_goals (go_ret; exact ⟨rfl, HF.out⟩)

set_option maxHeartbeats 1000000 in
theorem eqBlockS_any (v v2 : Value) (d : List Bk) (lo hi lo2 hi2 : Nat) (w : World) (h : RD w lo hi v d) (h2 : RD w lo2 hi2 v2 d) (hx : dsz d ≤ 1048576) :
    Calls Try.prog 10 #[v, v2] w fun e w' => e = .returned (.bool true) ∧ Below w.heap.size w w' := by
  have H := Lib.hid (And.intro h h2)
  obtain ⟨a, cap, b, off, rfl, q1, q2, q3, -⟩ := h.open
  obtain ⟨a', cap', b', off', rfl, r1, r2, r3, -⟩ := h2.open
  obtain ⟨hx1, hx2⟩ := dsz_row hx
  have HX := Lib.hid hx2
  clear h h2 hx hx2
  go_enter Try.func10, Try.ntmps10
  go_wp2
  go_loopw [5] (fun i wr => ∃ k : Nat, k ≤ d.length ∧ i = .int .i64 k ∧ Below w.heap.size w wr) (fun i _ => d.length - (intOf i).toNat)
  case atStart => exact ⟨0, Nat.zero_le _, rfl, Below.refl _ _⟩
  case round =>
    obtain ⟨k, hk, rfl, hbr⟩ := hrel
    have HB := Lib.hid hbr
    clear hbr
    by_cases hlt : k < d.length
    · obtain rfl := q3 (by omega)
      obtain rfl := r3 (by omega)
      have hki : (k : Int) < (d.length : Int) := by omega
      obtain ⟨a1, cap1, b1, off1, c1, c2, hp1, hw, -⟩ := (H.out.1.below HB.out).at k hlt
      obtain ⟨a2, cap2, b2, off2, d1, d2, hp2, -⟩ := (H.out.2.below HB.out).at k hlt
      have hxk := HX.out k hlt
      have HU := Lib.hid (And.intro (RB1.mk'' (hp1.below (bdrew wr)) hw) (RB1.mk'' (hp2.below (bdrew wr)) hw))
      clear q3 r3 hp1 hp2
      generalize d[k] = bk at c1 c2 d1 d2 HU hxk hw
      go_wp2
      go_region_held3 (fun w' => w'.cell? ⟨b, off + k * 2, none⟩ = some (.int .i64 bk.wear) ∧ w'.cell? ⟨b, off + k * 2 + 1, none⟩ = some (.slice a1 bk.pages.length cap1) ∧ w'.cell? ⟨b', off' + k * 2, none⟩ = some (.int .i64 bk.wear) ∧ w'.cell? ⟨b', off' + k * 2 + 1, none⟩ = some (.slice a2 bk.pages.length cap2))
        (first | exact ⟨c1, c2, d1, d2⟩ | exact ⟨cell_later (w := wr.drew) (by assumption) c1, cell_later (w := wr.drew) (by assumption) c2, cell_later (w := wr.drew) (by assumption) d1, cell_later (w := wr.drew) (by assumption) d2⟩)
        (first | (go_at_call 31; refine (eqBlock_any _ _ bk _ _ _ _ _ HU.out.1 HU.out.2 hxk).mono ?_; rintro e w2 ⟨rfl, b2⟩))
      have b2' : Below wr.drew.heap.size wr.drew w2 := by assumption
      have HF := Lib.hid (bup2 HB.out.drew b2')
      clear b2' c1 c2 d1 d2
      go_wp2
      go_roundw
      case rel => exact ⟨k + 1, by omega, by go_num, HF.out⟩
      case measure => simp [intOf]; omega
    · have hki : ¬ (k : Int) < (d.length : Int) := by omega
      go_wp2
      go_ret
      exact ⟨rfl, HB.out⟩

end Go.Proofs.Ytpfekeflkmafcaa
