/-
  The walks of FileHoles.
-/
import Derived.Test.YthpcgdkhipcieaaTbg
import Derived.Test.YthpcgdkhipcieaaTbh
namespace Go.Proofs.Ythpcgdkhipcieaa
open Go.RowKit

def hol (l : List Int) (k : Nat) : List Int := ((List.range k).filter fun i => decide (l.getD i 0 < 0)).map fun k : Nat => (k : Int)
theorem hol_zero (l : List Int) : hol l 0 = [] := rfl
theorem hol_yes {l : List Int} {k : Nat} (hk : k < l.length) (h : l[k] < 0) : hol l (k + 1) = hol l k ++ [(k : Int)] := by
  unfold hol
  rw [List.range_succ, List.filter_append, List.map_append]
  congr 1
  simp [hk, h]
theorem hol_no {l : List Int} {k : Nat} (hk : k < l.length) (h : ¬ l[k] < 0) : hol l (k + 1) = hol l k := by
  unfold hol
  rw [List.range_succ, List.filter_append, List.map_append]
  simp [hk]
  omega
theorem hol_len (l : List Int) (k : Nat) : (hol l k).length ≤ k := by
  unfold hol
  rw [List.length_map]
  have := List.length_filter_le (fun i => decide (l.getD i 0 < 0)) (List.range k)
  simpa using this
theorem holes_in {t : List (List Int)} {f : Nat} (hv : tabVal t = true) (hf : f < t.length) : holes t f = hol t[f] (rsz t[f]) := by
  have h8 := tab_len hv
  have e : (f : Int).toNat = f := by omega
  rw [holes, if_pos ⟨hv, inB_yes (by omega) (by omega)⟩, e, getD_at hf]
  unfold hol tat
  rw [getD_at hf]
theorem holes_bad {t : List (List Int)} {f : Int} (hv : tabVal t = false) : holes t f = [] := by rw [holes, if_neg (by rw [hv]; simp)]
theorem holes_out {t : List (List Int)} {f : Int} (h : ¬ (0 ≤ f ∧ f ≤ 7)) : holes t f = [] := by
  rw [holes, if_neg]
  rw [inB_no (by omega)]
  simp
theorem oi_nil (w : World) (lo : Nat) : OI w lo (.slice none 0 0) [] := ⟨World.ownsRow_nil _ _ _ _, fun _ h => by simp at h⟩
theorem oi_empty (w : World) (lo B : Nat) (hl : lo ≤ w.heap.size) (hB : w.heap.size = B) : OI (w.alloc (.cells #[] 3)) lo (.slice (some ⟨B, 0, none⟩) 0 0) [] := by
  subst hB
  exact ⟨World.ownsRow_lit w #[] 0 hl (by decide) rfl, fun _ h => by simp at h⟩
theorem OI.wide {w : World} {lo lo' : Nat} {v : Value} {xs : List Int} (h : OI w lo v xs) (hl : lo' ≤ lo) : OI w lo' v xs := ⟨own_wide h.1 hl, h.2⟩

set_option maxHeartbeats 1000000 in
theorem implHol_any (v : Value) (t : List (List Int)) (f : Int) (lo hi : Nat) (w : World) (h : RT w lo hi v t) :
    Calls Try.prog 34 #[.agg #[v], .int .i64 f] w (NewI (holes t f) w) := by
  obtain ⟨a, cap, b, off, rfl, q1, q2, q3, q4⟩ := h.open
  have hb0 : Below w.heap.size w (w.alloc (.cells #[.slice a t.length cap] 27)) := balloc _ _
  have HC := Lib.hid (implFsz_any _ t f lo hi _ (h.below hb0))
  have HB0 := Lib.hid hb0
  have Q4 := Lib.hid q4
  have HBX := Lib.hid (heap_alloc_new w (.cells #[.slice a t.length cap] 27))
  clear h q4 hb0
  by_cases hg : tabVal t = true ∧ 0 ≤ f ∧ f ≤ 7
  · obtain ⟨hv, hf0, hf1⟩ := hg
    obtain ⟨f, rfl⟩ := Int.eq_ofNat_of_zero_le hf0
    have h8 := tab_len hv
    have hlt : f < t.length := by omega
    have h6 := tab_row hv hlt
    rw [holes_in hv hlt]
    replace HC := HC.out
    rw [fsz_in hv hlt] at HC
    replace HC := Lib.hid HC
    obtain ⟨u, hcu, hu⟩ := Q4.out f hlt
    obtain ⟨a2, cap2, b2, off2, rfl, s1, s2, s3, s4⟩ := hu.open
    obtain rfl := q3 (by omega)
    obtain rfl := s3 (by omega)
    have HU := Lib.hid hcu
    have S4 := Lib.hid s4
    have hrl := rsz_le t[f]
    have H6 := Lib.hid h6
    have HL6 : t[f].length ≤ 6 := by omega
    have hd0 : (0 : Int) ≤ (f : Int) := by omega
    generalize hR : rsz t[f] = R at *
    clear h8 h6 hu hcu s4 q3 s3 hv hR
    go_enter Try.func34, Try.ntmps34
    go_wp2_with fail
    refine HC.out.mono ?_
    rintro e w1 ⟨rfl, b1⟩
    have HB1 := Lib.hid (bup2 HB0.out b1)
    have X1 := Lib.hid (box_keep HBX.out b1)
    clear b1
    go_wp2_with fail
    go_loopw [6, 7] (fun s i wr => ∃ k : Nat, k ≤ R ∧ i = .int .i64 k ∧ OI wr w1.heap.size s (hol t[f] k) ∧ Below w1.heap.size w1 wr) (fun _ i _ => R - (intOf i).toNat)
    case atStart => exact ⟨0, Nat.zero_le _, rfl, oi_nil _ _, Below.refl _ _⟩
    case round =>
      obtain ⟨k, hk, rfl, ho, hb⟩ := hrel
      obtain ⟨wo, rfl⟩ : ∃ wo : World, wo = wr := ⟨_, rfl⟩
      have hz := hb.size
      have hl := hol_len t[f] k
      by_cases hkl : k < R
      · have hkl2 : k < t[f].length := by omega
        obtain ⟨hbx, -⟩ := one_at (box_keep X1.out hb)
        have c1 := cell_later (bup2 HB1.out hb) HU.out
        have c2 := cell_later (bup2 HB1.out hb) (S4.out k hkl2)
        have HO := Lib.hid (And.intro ho hb)
        clear ho hb
        by_cases hn : t[f][k] < 0
        · have HY := Lib.hid (hol_yes hkl2 hn)
          go_wp2_with (at_builtin; refine ap1_int rfl _ _ rfl w1.heap.size u6 (hol t[f] k) k rfl HO.out.1 rfl (by omega) hz (by unfold I64; omega) ?_; intro v' w4 o4 c4; have O4 := Lib.hid o4.1; have B4 := Lib.hid (below_own HO.out.2 hz c4); clear o4 c4)
          go_roundw
          case rel => exact ⟨k + 1, by omega, by go_num, by rw [HY.out]; exact O4.out, B4.out⟩
          case measure => simp [intOf]; omega
        · have HY := Lib.hid (hol_no hkl2 hn)
          have hd : decide (t[f][k] < 0) = false := by simpa using hn
          go_wp2_with fail
          go_roundw
          case rel => exact ⟨k + 1, by omega, by go_num, by rw [HY.out]; exact HO.out.1, HO.out.2⟩
          case measure => simp [intOf]; omega
      · have HF : Hid (OI wo w.heap.size _ (hol t[f] R) ∧ Below w.heap.size w wo) := ⟨by rw [show R = k by omega]; exact ho.wide HB1.out.size, bup2 HB1.out hb⟩
        clear ho hb
        go_wp2_with fail
        go_ret
        exact ⟨_, rfl, HF.out⟩
  · have HH : Hid (holes t f = [] ∧ fsz t f = -1) := by
      by_cases hv : tabVal t = true
      · exact ⟨holes_out fun h => hg ⟨hv, h⟩, fsz_out fun h => hg ⟨hv, h⟩⟩
      · exact ⟨holes_bad (by simpa using hv), fsz_bad (by simpa using hv)⟩
    rw [HH.out.1]
    replace HC := HC.out
    rw [HH.out.2] at HC
    replace HC := Lib.hid HC
    clear hg
    go_enter Try.func34, Try.ntmps34
    go_wp2_with fail
    refine HC.out.mono ?_
    rintro e w1 ⟨rfl, b1⟩
    have HB1 := Lib.hid (bup2 HB0.out b1)
    clear b1
    go_wp2_with fail
    go_loopw [6, 7] (fun s i wr => s = .slice none 0 0 ∧ i = .int .i64 0 ∧ wr = w1) (fun _ _ _ => 0)
    case atStart => exact ⟨rfl, rfl, rfl⟩
    case round =>
      obtain ⟨rfl, rfl, rfl⟩ := hrel
      go_wp2_with fail
      go_ret
      exact ⟨_, rfl, oi_nil _ _, HB1.out⟩

set_option maxHeartbeats 1000000 in
theorem specHol_any (v : Value) (t : List (List Int)) (f : Int) (lo hi : Nat) (w : World) (h : RT w lo hi v t) :
    Calls Try.prog 33 #[.agg #[v], .int .i64 f] w (NewI (holes t f) w) := by
  obtain ⟨a, cap, b, off, rfl, q1, q2, q3, q4⟩ := h.open
  have hb0 : Below w.heap.size w (w.alloc (.cells #[.slice a t.length cap] 27)) := balloc _ _
  have HC := Lib.hid fun W (hW : Below w.heap.size w W) => specFsz_any _ t f lo hi W (h.below hW)
  have HB0 := Lib.hid hb0
  have Q4 := Lib.hid q4
  have HBX := Lib.hid (heap_alloc_new w (.cells #[.slice a t.length cap] 27))
  clear h q4 hb0
  obtain ⟨w0, hw0⟩ : ∃ w0 : World, w0 = w.alloc (.cells #[.slice a t.length cap] 27) := ⟨_, rfl⟩
  rw [← hw0] at HB0 HBX
  have HW0 := Lib.hid hw0
  clear hw0
  by_cases hg : tabVal t = true ∧ 0 ≤ f ∧ f ≤ 7
  · obtain ⟨hv, hf0, hf1⟩ := hg
    obtain ⟨f, rfl⟩ := Int.eq_ofNat_of_zero_le hf0
    have h8 := tab_len hv
    have hlt : f < t.length := by omega
    have h6 := tab_row hv hlt
    rw [holes_in hv hlt]
    replace HC := HC.out
    rw [fsz_in hv hlt] at HC
    replace HC := Lib.hid HC
    obtain ⟨u, hcu, hu⟩ := Q4.out f hlt
    obtain ⟨a2, cap2, b2, off2, rfl, s1, s2, s3, s4⟩ := hu.open
    obtain rfl := q3 (by omega)
    obtain rfl := s3 (by omega)
    have HU := Lib.hid hcu
    have S4 := Lib.hid s4
    have hrl := rsz_le t[f]
    have H6 := Lib.hid h6
    have HL6 : t[f].length ≤ 6 := by omega
    have hd0 : (0 : Int) ≤ (f : Int) := by omega
    generalize hR : rsz t[f] = R at *
    clear h8 h6 hu hcu s4 q3 s3 hv hR
    go_enter Try.func33, Try.ntmps33
    go_wp2_with fail
    go_loopw [5, 6] (fun s i wr => ∃ k : Nat, k ≤ R ∧ i = .int .i64 k ∧ OI wr w0.heap.size s (hol t[f] k) ∧ Below w0.heap.size w0 wr) (fun _ i _ => R - (intOf i).toNat)
    case atStart => exact ⟨0, Nat.zero_le _, rfl, by rw [HW0.out]; exact oi_empty _ _ _ (by simp) (by simp), by rw [HW0.out]; exact balloc _ _⟩
    case round =>
      obtain ⟨k, hk, rfl, ho, hb⟩ := hrel
      obtain ⟨wo, rfl⟩ : ∃ wo : World, wo = wr := ⟨_, rfl⟩
      have hl := hol_len t[f] k
      obtain ⟨hbx0, -⟩ := one_at (box_keep HBX.out hb)
      have HO := Lib.hid (And.intro ho hb)
      clear ho hb
      go_wp2_with fail
      refine (HC.out wo (bup2 HB0.out HO.out.2)).mono ?_
      rintro e w1 ⟨rfl, c⟩
      have hb := bup2 HO.out.2 c
      have ho := HO.out.1.below c
      clear HO c hbx0
      have hz := hb.size
      obtain ⟨hbx, -⟩ := one_at (box_keep HBX.out hb)
      have c1 := cell_later (bup2 HB0.out hb) HU.out
      by_cases hkl : k < R
      · have hkl2 : k < t[f].length := by omega
        have c2 := cell_later (bup2 HB0.out hb) (S4.out k hkl2)
        have HO := Lib.hid (And.intro ho hb)
        clear ho hb
        by_cases hn : t[f][k] < 0
        · have HY := Lib.hid (hol_yes hkl2 hn)
          go_wp2_with (at_builtin; refine ap1_int rfl _ _ rfl w0.heap.size u5 (hol t[f] k) k rfl HO.out.1 rfl (by omega) hz (by unfold I64; omega) ?_; intro v' w4 o4 c4; have O4 := Lib.hid o4.1; have B4 := Lib.hid (below_own HO.out.2 hz c4); clear o4 c4)
          go_roundw
          case rel => exact ⟨k + 1, by omega, by go_num, by rw [HY.out]; exact O4.out, B4.out⟩
          case measure => simp [intOf]; omega
        · have HY := Lib.hid (hol_no hkl2 hn)
          have hd : decide (t[f][k] < 0) = false := by simpa using hn
          go_wp2_with fail
          go_roundw
          case rel => exact ⟨k + 1, by omega, by go_num, by rw [HY.out]; exact HO.out.1, HO.out.2⟩
          case measure => simp [intOf]; omega
      · have HF : Hid (OI w1 w.heap.size _ (hol t[f] R) ∧ Below w.heap.size w w1) := ⟨by rw [show R = k by omega]; exact ho.wide HB0.out.size, bup2 HB0.out hb⟩
        clear ho hb
        go_wp2_with fail
        go_ret
        exact ⟨_, rfl, HF.out⟩
  · have HH : Hid (holes t f = [] ∧ fsz t f = -1) := by
      by_cases hv : tabVal t = true
      · exact ⟨holes_out fun h => hg ⟨hv, h⟩, fsz_out fun h => hg ⟨hv, h⟩⟩
      · exact ⟨holes_bad (by simpa using hv), fsz_bad (by simpa using hv)⟩
    rw [HH.out.1]
    replace HC := HC.out
    rw [HH.out.2] at HC
    replace HC := Lib.hid HC
    clear hg
    go_enter Try.func33, Try.ntmps33
    go_wp2_with fail
    go_loopw [5, 6] (fun s i wr => i = .int .i64 0 ∧ OI wr w0.heap.size s [] ∧ Below w0.heap.size w0 wr) (fun _ _ _ => 0)
    case atStart => exact ⟨rfl, by rw [HW0.out]; exact oi_empty _ _ _ (by simp) (by simp), by rw [HW0.out]; exact balloc _ _⟩
    case round =>
      obtain ⟨rfl, ho, hb⟩ := hrel
      obtain ⟨wo, rfl⟩ : ∃ wo : World, wo = wr := ⟨_, rfl⟩
      obtain ⟨hbx0, -⟩ := one_at (box_keep HBX.out hb)
      have HO := Lib.hid (And.intro ho hb)
      clear ho hb
      go_wp2_with fail
      refine (HC.out wo (bup2 HB0.out HO.out.2)).mono ?_
      rintro e w1 ⟨rfl, c⟩
      have HF : Hid (OI w1 w.heap.size _ [] ∧ Below w.heap.size w w1) := ⟨(HO.out.1.below c).wide HB0.out.size, bup2 HB0.out (bup2 HO.out.2 c)⟩
      clear HO c
      go_wp2_with fail
      go_ret
      exact ⟨_, rfl, HF.out⟩

end Go.Proofs.Ythpcgdkhipcieaa
