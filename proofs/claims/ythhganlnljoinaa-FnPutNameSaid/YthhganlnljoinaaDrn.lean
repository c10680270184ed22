/-
  The draws of names.
-/
import Derived.Test.YthhganlnljoinaaDrTxt
import Derived.Test.YthhganlnljoinaaNps
namespace Go.Proofs.Ythhganlnljoinaa
open Go.RowKit

theorem on_form {w : World} {lo : Nat} {v : Value} {xs : List (ByteArray × Int)} (h : ON w lo v xs) (hv : v ≠ .slice none 0 0) : ∃ g cap, v = .slice (some ⟨g, 0, none⟩) xs.length cap := by
  obtain ⟨g, cap, rfl, -⟩ := own_shape h.1 hv
  exact ⟨g, cap, rfl⟩
theorem nmPut_len (xs : List (ByteArray × Int)) (n : ByteArray × Int) : (nmPut xs n).1.length ≤ xs.length + 1 := by
  unfold nmPut
  split
  · split
    · rw [nmIns_len]; exact Nat.le_refl _
    · simp
  · simp
theorem specPutN (v : Value) (xs : List (ByteArray × Int)) (n : ByteArray × Int) (hn : N64 n) (lo : Nat) (w : World) (h : ON w lo v xs) (hv : v ≠ .slice none 0 0) (hx : xs.length ≤ 1048576) :
    Calls Try.prog 28 #[v, .agg #[.string n.1, .int .i64 n.2]] w (PutPostN xs n w) := by
  obtain ⟨g, cap, rfl⟩ := on_form h hv
  exact specPut_any g 0 cap xs n hn _ _ w h.rn hx

def NmsRel (w : World) (rb q : Nat) (v i : Value) (wr : World) : Prop :=
  ∃ (j : Nat) (xs : List (ByteArray × Int)), i = .int .i64 j ∧ j + xs.length ≤ 8 ∧ (ON wr w.heap.size v xs ∧ v ≠ .slice none 0 0) ∧ RdLe wr rb (q + 1 + 4 * (8 - j)) ∧ Chg (· = rb) w wr
/-- Some names were drawn. -/
def NmsR (w : World) (rb q : Nat) (e : Ending) (w' : World) : Prop :=
  ∃ (v : Value) (xs : List (ByteArray × Int)), e = .returned v ∧ xs.length ≤ 9 ∧ (ON w' w.heap.size v xs ∧ v ≠ .slice none 0 0) ∧ RdLe w' rb (q + 40) ∧ Chg (· = rb) w w'

set_option maxHeartbeats 1000000 in
theorem l20Names_any (w : World) (rb q : Nat) (m : Int) (hr : RdLe w rb q) (hq : q ≤ 800000) (hm1 : 0 ≤ m) (hm : m ≤ 1000000) :
    Calls Try.prog 38 #[.pointer (some ⟨rb, 0, none⟩), .int .i64 m] w (NmsR w rb q) := by
  have hrl := hr.lt
  have H := Lib.hid hr
  clear hr
  go_enter Try.func38, Try.ntmps38
  go_wp2_with fail
  refine (pick_le _ rb q 9 (H.out.kept ((Below.refl _ _).alloc (Nat.le_refl _) _)) (by omega) (by omega) (by omega)).mono ?_
  rintro e w1 ⟨k, rfl, k0, k1, r1, c1, -⟩
  obtain ⟨n, rfl⟩ := Int.eq_ofNat_of_zero_le k0
  have HS : Hid (NmsRel w rb q (.slice (some ⟨w.heap.size, 0, none⟩) 0 0) (.int .i64 n) w1) := by
    refine ⟨n, [], rfl, by simp; omega, ⟨⟨?_, fun x hx => by simp at hx⟩, by simp⟩, r1.up (by omega), ((Chg.refl _ w).alloc _).trans c1⟩
    exact own_chg (World.ownsRow_lit w #[] 0 (Nat.le_refl _) (by decide) rfl) c1 (fun b hb he => by show ¬ b = rb; omega)
  clear r1 c1
  go_wp2_with fail
  go_loopw [5, 6, 7, 8] (fun v i _ _ wr => NmsRel w rb q v i wr) (fun _ i _ _ _ => (intOf i).toNat)
  case atStart => exact HS.out
  case round =>
    obtain ⟨j, xs, rfl, hj, ⟨o1, hnn⟩, r1, c1⟩ := hrel
    have HNN := Lib.hid hnn
    clear hnn
    have O1 := Lib.hid (And.intro o1 (And.intro r1 c1))
    have z1 := c1.size
    clear HS o1 r1 c1
    rcases j with _ | j
    · go_wp2_with fail
      refine (odd_le _ rb _ m O1.out.2.1 (by omega) hm1 hm).mono ?_
      rintro e w2 ⟨b, rfl, r2, c2, -⟩
      have c02 := O1.out.2.2.trans c2
      have o2 := O1.out.1.chg c2 (fun b hb he => by show ¬ b = rb; omega)
      have z2 := c02.size
      have O2 := Lib.hid (And.intro o2 (And.intro r2 c02))
      clear r2 c2 c02 o2
      cases b
      · go_wp2_with fail
        go_ret
        exact ⟨_, xs, rfl, by omega, ⟨O2.out.1, HNN.out⟩, O2.out.2.1.up (by omega), O2.out.2.2⟩
      · go_wp2_with fail
        refine (pick_le _ rb _ 4 (O2.out.2.1.kept ((Below.refl _ _).alloc (Nat.le_refl _) _)) (by omega) (by omega) (by omega)).mono ?_
        rintro e w4 ⟨k, rfl, k0, k1, r4, c4, -⟩
        obtain ⟨n, rfl⟩ := Int.eq_ofNat_of_zero_le k0
        have hk : ∃ (x : ByteArray) (y : Int), w4.cell? ⟨w2.heap.size, n * 2, none⟩ = some (.string x) ∧ w4.cell? ⟨w2.heap.size, n * 2 + 1, none⟩ = some (.int .i64 y) ∧ x.size ≤ 9 ∧ -1 ≤ y ∧ y ≤ 8 := by
          have hn : n = 0 ∨ n = 1 ∨ n = 2 ∨ n = 3 := by omega
          rcases hn with rfl | rfl | rfl | rfl
          all_goals exact ⟨_, _, lit_cell c4 (by show ¬ w2.heap.size = rb; omega) rfl, lit_cell c4 (by show ¬ w2.heap.size = rb; omega) rfl, by decide, by decide, by decide⟩
        obtain ⟨x, y, hkx, hky, hx0, hy0, hy1⟩ := hk
        have c04 := (O2.out.2.2.alloc _).trans c4
        have o4 := (O2.out.1.below ((Below.refl _ _).alloc (Nat.le_refl _) _)).chg c4 (fun b hb he => by show ¬ b = rb; omega)
        have z4 := c04.size
        have O4 := Lib.hid (And.intro o4 (And.intro r4 c04))
        clear r4 c4 c04 o4
        go_wp2_with (at_builtin; refine ap1_name rfl _ _ rfl w.heap.size u5 xs (x, y) rfl O4.out.1 w4.heap.size rfl rfl (by omega) z4 ⟨show x.size ≤ _ by omega, show I64 y by unfold I64; omega⟩ ?_; intro v' w5 o5 c5)
        have HF := Lib.hid (And.intro (O4.out.2.1.chg c5 (fun k hk h => by omega)) (O4.out.2.2.own c5))
        clear c5
        go_ret
        exact ⟨_, xs ++ [(x, y)], rfl, by simp; omega, o5, HF.out.1.up (by omega), HF.out.2⟩
    · have hl : xs.length ≤ 7 := by omega
      go_wp2_with fail
      refine (l20Text_any _ rb _ 0 O1.out.2.1 (by omega) (by omega) (by omega)).mono ?_
      rintro e w2 ⟨s, rfl, hs, r2, c2⟩
      have c02 := O1.out.2.2.trans c2
      have o2 := O1.out.1.chg c2 (fun b hb he => by show ¬ b = rb; omega)
      have z2 := c02.size
      have O2 := Lib.hid (And.intro o2 (And.intro r2 c02))
      clear r2 c2 c02 o2
      go_wp2_with fail
      refine (pick_le _ rb _ 8 O2.out.2.1 (by omega) (by omega) (by omega)).mono ?_
      rintro e w3 ⟨k, rfl, k0, k1, r3, c3, -⟩
      have c03 := O2.out.2.2.trans c3
      have o3 := O2.out.1.chg c3 (fun b hb he => by show ¬ b = rb; omega)
      have z3 := c03.size
      have O3 := Lib.hid (And.intro o3 (And.intro r3 c03))
      clear r3 c3 c03 o3
      go_wp2_with fail
      refine (specPutN u5 xs (s, k) ⟨show s.size ≤ _ by omega, show I64 k by unfold I64; omega⟩ _ _ O3.out.1 HNN.out (by omega)).mono ?_
      rintro e w4 ⟨v', rfl, ⟨o4, n4⟩, b4⟩
      have hlen := nmPut_len xs (s, k)
      have HF : Hid (NmsRel w rb q v' (.int .i64 j) w4) :=
        ⟨j, (nmPut xs (s, k)).1, rfl, by omega, ⟨o4.wide z3, n4⟩, (O3.out.2.1.kept b4).up (by omega), O3.out.2.2.trans (below_chg b4 _)⟩
      clear o4 n4 b4
      go_wp2_with fail
      go_roundw
      case rel => first | exact HF.out | exact ⟨_, _, HF.out, rfl, by go_num⟩
      case measure => simp [intOf]; try omega

/-- Names, out of a code. -/
def NmsD (w : World) (e : Ending) (w' : World) : Prop := ∃ (v : Value) (xs : List (ByteArray × Int)), e = .returned v ∧ xs.length ≤ 9 ∧ (ON w' w.heap.size v xs ∧ v ≠ .slice none 0 0) ∧ Below w.heap.size w w'
def NmsTD (w : World) (e : Ending) (w' : World) : Prop := ∃ (v : Value) (xs : List (ByteArray × Int)) (s : ByteArray), e = .returned (.tuple #[v, .string s]) ∧ xs.length ≤ 9 ∧ s.size ≤ 9 ∧ (ON w' w.heap.size v xs ∧ v ≠ .slice none 0 0) ∧ Below w.heap.size w w'
def NmsND (w : World) (e : Ending) (w' : World) : Prop := ∃ (v : Value) (xs : List (ByteArray × Int)) (s : ByteArray) (f : Int), e = .returned (.tuple #[v, .agg #[.string s, .int .i64 f]]) ∧ xs.length ≤ 9 ∧ N64 (s, f) ∧ (ON w' w.heap.size v xs ∧ v ≠ .slice none 0 0) ∧ Below w.heap.size w w'

theorem drawNamesValid (w : World) (v : Value) (bs : List Int) (h : RB w 0 w.heap.size v bs) : Calls Try.prog 16 #[v] w (NmsD w) := by
  have H := Lib.hid h
  obtain ⟨a, cap, b, off, rfl, -⟩ := h.open
  clear h
  go_enter Try.func16, Try.ntmps16
  go_wp2_with fail
  refine (open_any _ _ bs H.out).mono ?_
  rintro e w1 ⟨rb, rfl, hrb, r1, b1⟩
  have H1 := Lib.hid (And.intro r1 b1)
  have z1 := b1.size
  clear r1 b1
  go_wp2_with fail
  refine (l20Names_any _ rb 0 _ H1.out.1 (by omega) (by omega) (by omega)).mono ?_
  rintro e w2 ⟨v2, xs, rfl, hl, ⟨o2, hnn⟩, r2, c2⟩
  have HF : Hid ((ON w2 w.heap.size v2 xs ∧ v2 ≠ .slice none 0 0) ∧ Below w.heap.size w w2) := ⟨⟨o2.wide z1, hnn⟩, H1.out.2.trans (c2.below z1 (fun k hk he => by subst he; omega))⟩
  clear o2 r2 c2 hnn
  go_wp2_with fail
  go_ret
  exact ⟨v2, xs, rfl, hl, HF.out⟩

theorem drawFindName (w : World) (v : Value) (bs : List Int) (h : RB w 0 w.heap.size v bs) : Calls Try.prog 20 #[v] w (NmsTD w) := by
  have H := Lib.hid h
  obtain ⟨a, cap, b, off, rfl, -⟩ := h.open
  clear h
  go_enter Try.func20, Try.ntmps20
  go_wp2_with fail
  refine (open_any _ _ bs H.out).mono ?_
  rintro e w1 ⟨rb, rfl, hrb, r1, b1⟩
  have H1 := Lib.hid (And.intro r1 b1)
  have z1 := b1.size
  have hlt := r1.lt
  clear r1 b1
  go_wp2_with fail
  refine (l20Names_any _ rb 0 _ H1.out.1 (by omega) (by omega) (by omega)).mono ?_
  rintro e w2 ⟨v2, xs, rfl, hl, ⟨o2, hnn⟩, r2, c2⟩
  have z2 := c2.size
  have HNN := Lib.hid hnn
  have H2 := Lib.hid (And.intro o2 (And.intro r2 (H1.out.2.trans (c2.below z1 (fun k hk he => by subst he; omega)))))
  clear o2 r2 c2 hnn
  go_wp2_with fail
  refine (l20Text_any _ rb _ 9 H2.out.2.1 (by omega) (by omega) (by omega)).mono ?_
  rintro e w3 ⟨s, rfl, hs, r3, c3⟩
  have HF := Lib.hid (And.intro (H2.out.1.chg c3 (fun b hb he => by show ¬ b = rb; omega)) (H2.out.2.2.trans (c3.below H2.out.2.2.size (fun k hk he => by subst he; omega))))
  clear r3 c3
  go_wp2_with fail
  go_ret2
  exact ⟨v2, xs, s, rfl, hl, hs, ⟨HF.out.1.wide z1, HNN.out⟩, HF.out.2⟩

theorem drawDropName (w : World) (v : Value) (bs : List Int) (h : RB w 0 w.heap.size v bs) : Calls Try.prog 25 #[v] w (NmsTD w) := by
  have H := Lib.hid h
  obtain ⟨a, cap, b, off, rfl, -⟩ := h.open
  clear h
  go_enter Try.func25, Try.ntmps25
  go_wp2_with fail
  refine (drawFindName _ _ bs H.out).mono ?_
  rintro e w1 ⟨v2, xs, s, rfl, hl, hs, o1, b1⟩
  have HF := Lib.hid (And.intro o1 b1)
  clear o1 b1
  go_wp2_with fail
  go_ret2
  exact ⟨v2, xs, s, rfl, hl, hs, HF.out.1, HF.out.2⟩

theorem drawPutName (w : World) (v : Value) (bs : List Int) (h : RB w 0 w.heap.size v bs) : Calls Try.prog 31 #[v] w (NmsND w) := by
  have hb0 : Below w.heap.size w (w.alloc (.cells #[.string ByteArray.empty, .int .i64 0] 33)) := (Below.refl _ _).alloc (Nat.le_refl _) _
  have H := Lib.hid (show RB (w.alloc (.cells #[.string ByteArray.empty, .int .i64 0] 33)) 0 (w.alloc (.cells #[.string ByteArray.empty, .int .i64 0] 33)).heap.size v bs from ⟨(h.below hb0).1.wide (Nat.le_refl _) (by simp), h.2⟩)
  have HB0 := Lib.hid hb0
  obtain ⟨a, cap, b, off, rfl, -⟩ := h.open
  clear h hb0
  go_enter Try.func31, Try.ntmps31
  go_wp2_with fail
  refine (open_any _ _ bs H.out).mono ?_
  rintro e w1 ⟨rb, rfl, hrb, r1, b1⟩
  have H1 := Lib.hid (And.intro r1 b1)
  have z1 := b1.size
  have hlt := r1.lt
  clear r1 b1
  go_wp2_with fail
  refine (l20Names_any _ rb 0 _ H1.out.1 (by omega) (by omega) (by omega)).mono ?_
  rintro e w2 ⟨v2, xs, rfl, hl, ⟨o2, hnn⟩, r2, c2⟩
  have z2 := c2.size
  have HNN := Lib.hid hnn
  have H2 := Lib.hid (And.intro o2 (And.intro r2 (H1.out.2.trans (c2.below z1 (fun k hk he => by subst he; omega)))))
  clear o2 r2 c2 hnn
  go_wp2_with fail
  refine (l20Text_any _ rb _ 9 H2.out.2.1 (by omega) (by omega) (by omega)).mono ?_
  rintro e w3 ⟨s, rfl, hs, r3, c3⟩
  have z3 := c3.size
  have H3 := Lib.hid (And.intro (H2.out.1.chg c3 (fun b hb he => by show ¬ b = rb; omega)) (And.intro r3 (H2.out.2.2.trans (c3.below H2.out.2.2.size (fun k hk he => by subst he; omega)))))
  clear r3 c3
  go_wp2_with fail
  refine (pick_le _ rb _ 9 H3.out.2.1 (by omega) (by omega) (by omega)).mono ?_
  rintro e w4 ⟨k, rfl, k0, k1, r4, c4, -⟩
  have z4 := c4.size
  have H4 := Lib.hid (And.intro (H3.out.1.chg c4 (fun b hb he => by show ¬ b = rb; omega)) (And.intro r4 (H3.out.2.2.trans (c4.below H3.out.2.2.size (fun k hk he => by subst he; omega)))))
  clear r4 c4
  go_wp2_with fail
  refine (pick_le _ rb _ 14 H4.out.2.1 (by omega) (by omega) (by omega)).mono ?_
  rintro e w5 ⟨k', rfl, k0', k1', r5, c5, -⟩
  have H5 := Lib.hid (And.intro (H4.out.1.chg c5 (fun b hb he => by show ¬ b = rb; omega)) (H4.out.2.2.trans (c5.below H4.out.2.2.size (fun k hk he => by subst he; omega))))
  clear r5 c5
  have hdv : 0 ≤ k' / 13 ∧ k' / 13 ≤ 1 := by omega
  have hbx := (H5.out.2.block w.heap.size (by simp)).trans (heap_alloc_new w (.cells #[.string ByteArray.empty, .int .i64 0] 33))
  obtain ⟨d1, d2⟩ := box_at hbx
  have d3 : w5.frozen? ⟨w.heap.size, 0, none⟩ = false ∧ w5.frozen? ⟨w.heap.size, 1, none⟩ = false := by simp [World.frozen?, hbx]
  obtain ⟨d3, d4⟩ := d3
  have HX := Lib.hid hbx
  clear hbx
  go_wp2_with fail
  refine bodyPost_ret (v := .tuple #[v2, .agg #[.string s, .int .i64 (k - k' / 13)]]) (by simp [results, Try.results31, go_sem, d1, d2]) rfl ⟨v2, xs, s, _, rfl, hl, ⟨show s.size ≤ _ by omega, show I64 _ by unfold I64; omega⟩, ?_, ?_⟩
  · have hc : Chg (fun b => b = w.heap.size) w5 ((w5.setCell ⟨w.heap.size, 0, none⟩ (.string s)).setCell ⟨w.heap.size, 1, none⟩ (.int .i64 (k - k' / 13))) :=
      (Chg.setCell (S := fun b => b = w.heap.size) (Chg.refl _ w5) (p := ⟨w.heap.size, 0, none⟩) (.inr rfl) _).setCell (p := ⟨w.heap.size, 1, none⟩) (.inr rfl) _
    have hz : w.heap.size < w1.heap.size := by have := H1.out.2.size; simp at this; omega
    exact ⟨(H5.out.1.chg hc (fun b hb _ => by show ¬ b = w.heap.size; omega)).wide (by omega), HNN.out⟩
  · exact ((HB0.out.trans (H5.out.2.mono (by simp))).setCell (p := ⟨w.heap.size, 0, none⟩) (Nat.le_refl _) _).setCell (p := ⟨w.heap.size, 1, none⟩) (Nat.le_refl _) _

theorem sameNames_len (v v2 : Value) (xs ys : List (ByteArray × Int)) (lo hi lo2 hi2 : Nat) (w : World) (h : RN w lo hi v xs) (h2 : RN w lo2 hi2 v2 ys) (hne : xs.length ≠ ys.length) :
    Calls Try.prog 26 #[v, v2] w fun e w' => e = .returned (.bool false) ∧ Below w.heap.size w w' := by
  obtain ⟨a, cap, b, off, rfl, q1, q2, q3, q4⟩ := h.open
  obtain ⟨a', cap', b', off', rfl, r1, r2, r3, r4⟩ := h2.open
  clear h h2 q3 q4 r3 r4
  have hne' : (((xs.length : Nat) : Int) != ((ys.length : Nat) : Int)) = true := by rw [bne_iff_ne]; omega
  clear hne
  go_enter Try.func26, Try.ntmps26
  go_wp2
  go_ret
  exact ⟨rfl, Below.refl _ _⟩

end Go.Proofs.Ythhganlnljoinaa
