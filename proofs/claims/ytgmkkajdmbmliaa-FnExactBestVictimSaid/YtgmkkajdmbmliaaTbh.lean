/-
  The walks of the laws' helpers over tables: to, sz, eq.
-/
import Derived.Test.YtgmkkajdmbmliaaTab
namespace Go.Proofs.Ytgmkkajdmbmliaa
open Go.RowKit

theorem szIntS_any (v : Value) (xs : List Int) (lo hi : Nat) (left : Nat) (w : World) (h : RI w lo hi v xs) (hl : left ≤ 1048576) :
    Calls Try.prog 32 #[v, .int .i64 left] w fun e w' => e = .returned (.int .i64 (if xs.length ≤ left then (left : Int) - xs.length else -1)) ∧ w = w' := by
  obtain ⟨a, cap, b, off, rfl, q1, q2, -, -⟩ := h.open
  clear h
  by_cases hx : xs.length ≤ left
  · rw [if_pos hx]
    go_enter Try.func32, Try.ntmps32
    go_wp2
    all_goals (go_ret; exact ⟨rfl, rfl⟩)
  · rw [if_neg hx]
    go_enter Try.func32, Try.ntmps32
    go_wp2
    all_goals (go_ret; exact ⟨rfl, rfl⟩)

set_option maxHeartbeats 1000000 in
theorem szIntSS_any (v : Value) (xs : List (List Int)) (lo hi : Nat) (left : Nat) (w : World) (h : RT w lo hi v xs) (hleft : left ≤ 1048576) :
    Calls Try.prog 14 #[v, .int .i64 left] w fun e w' => e = .returned (.int .i64 (if tsz xs ≤ left then (left : Int) - tsz xs else -1)) ∧ w = w' := by
  obtain ⟨a, cap, b, off, rfl, q1, q2, q3, q4⟩ := h.open
  have Q4 := Lib.hid q4
  clear h q4
  by_cases hx : xs.length ≤ left
  · generalize hR : (if tsz xs ≤ left then (left : Int) - tsz xs else -1) = R
    have HR : Hid (R = if ((xs.drop 0).map List.length).sum ≤ left - xs.length then ((left - xs.length : Nat) : Int) - ((xs.drop 0).map List.length).sum else -1) := Lib.hid (by
      rw [← hR, tsz, List.drop_zero]
      split
      · rw [if_pos (by omega)]; omega
      · rw [if_neg (by omega)])
    clear hR
    go_enter Try.func14, Try.ntmps14
    go_wp2
    go_loop [1, 5] (fun l i => ∃ (k m : Nat), k ≤ xs.length ∧ m ≤ 1048576 ∧ i = .int .i64 k ∧ l = .int .i64 m ∧ Hid (R = if ((xs.drop k).map List.length).sum ≤ m then (m : Int) - ((xs.drop k).map List.length).sum else -1)) (fun _ i => xs.length - (intOf i).toNat)
    case atStart => exact ⟨0, left - xs.length, Nat.zero_le _, by omega, rfl, by rw [show ((left - xs.length : Nat) : Int) = (left : Int) - (xs.length : Int) by omega], HR⟩
    case round =>
      obtain ⟨k, m, hk, hm, rfl, rfl, H0⟩ := hrel
      clear HR
      by_cases hlt : k < xs.length
      · obtain rfl := q3 (by omega)
        obtain ⟨u, hcu, hu⟩ := Q4.out k hlt
        have HU := Lib.hid hu
        have H1 : Hid (R = if xs[k].length + ((xs.drop (k + 1)).map List.length).sum ≤ m then (m : Int) - (xs[k].length + ((xs.drop (k + 1)).map List.length).sum : Nat) else -1) := Lib.hid (by rw [H0.out, tsz_drop xs k hlt])
        clear q3 H0 hu
        by_cases hle : xs[k].length ≤ m
        · have hc := szIntS_any u xs[k] lo hi m w HU.out hm
          rw [if_pos hle] at hc
          have HC := Lib.hid hc
          clear hc
          go_wp2_with fail
          refine HC.out.mono ?_
          rintro e w2 ⟨rfl, rfl⟩
          go_wp2_with fail
          go_round
          case rel => exact ⟨k + 1, m - xs[k].length, by omega, by omega, by go_num, by rw [show ((m - xs[k].length : Nat) : Int) = (m : Int) - xs[k].length by omega], Lib.hid (by
            rw [H1.out]
            split
            · rw [if_pos (by omega)]; omega
            · rw [if_neg (by omega)])⟩
          case measure => simp [intOf]; omega
        · have hc := szIntS_any u xs[k] lo hi m w HU.out hm
          rw [if_neg hle] at hc
          have HC := Lib.hid hc
          clear hc
          go_wp2_with fail
          refine HC.out.mono ?_
          rintro e w2 ⟨rfl, rfl⟩
          go_wp2_with fail
          go_ret
          exact ⟨ret_int (by rw [H1.out, if_neg (by omega)]), rfl⟩
      · go_wp2_with fail
        go_ret
        exact ⟨ret_int (by rw [H0.out, tsz_end _ _ hlt]; simp), rfl⟩
  · have hn : ¬ tsz xs ≤ left := by unfold tsz; omega
    rw [if_neg hn]
    go_enter Try.func14, Try.ntmps14
    go_wp2
    all_goals (go_ret; exact ⟨rfl, rfl⟩)

theorem szTable_any (v : Value) (xs : List (List Int)) (lo hi : Nat) (left : Nat) (w : World) (h : RT w lo hi v xs) (hleft : left ≤ 1048576) :
    Calls Try.prog 5 #[.agg #[v], .int .i64 left] w fun e w' => e = .returned (.int .i64 (if tsz xs ≤ left then (left : Int) - tsz xs else -1)) ∧ Below w.heap.size w w' := by
  have H := Lib.hid h
  obtain ⟨a, cap, b, off, rfl, -⟩ := h.open
  clear h
  by_cases hx : tsz xs ≤ left
  · rw [if_pos hx]
    have HC := Lib.hid (fun w h => szIntSS_any (.slice a xs.length cap) xs lo hi left w h hleft)
    rw [if_pos hx] at HC
    have hb : Below w.heap.size w (w.alloc (.cells #[.slice a xs.length cap] 25)) := (Below.refl _ _).alloc (Nat.le_refl _) _
    have HB := Lib.hid hb
    clear hb
    go_enter Try.func5, Try.ntmps5
    go_wp2_with fail
    refine (HC.out _ (H.out.below HB.out)).mono ?_
    rintro e w2 ⟨rfl, rfl⟩
    go_wp2_with fail
    go_ret
    exact ⟨rfl, HB.out⟩
  · rw [if_neg hx]
    have HC := Lib.hid (fun w h => szIntSS_any (.slice a xs.length cap) xs lo hi left w h hleft)
    rw [if_neg hx] at HC
    have hb : Below w.heap.size w (w.alloc (.cells #[.slice a xs.length cap] 25)) := (Below.refl _ _).alloc (Nat.le_refl _) _
    have HB := Lib.hid hb
    clear hb
    go_enter Try.func5, Try.ntmps5
    go_wp2_with fail
    refine (HC.out _ (H.out.below HB.out)).mono ?_
    rintro e w2 ⟨rfl, rfl⟩
    go_wp2_with fail
    go_ret
    exact ⟨rfl, HB.out⟩

set_option maxHeartbeats 1000000 in
theorem toIntSS_any (v : Value) (xs : List (List Int)) (lo hi : Nat) (w : World) (h : RT w lo hi v xs) (hx : tsz xs ≤ 1048576) :
    Calls Try.prog 22 #[v] w (NewSS xs w) := by
  obtain ⟨a, cap, b, off, rfl, q1, q2, q3, q4⟩ := h.open
  have Q4 := Lib.hid q4
  obtain ⟨hx1, hx2⟩ := tsz_row hx
  have HX := Lib.hid hx2
  clear h q4 hx hx2
  go_enter Try.func22, Try.ntmps22
  go_wp2_with (refine mk_rows rfl _ _ rfl xs.length rfl rfl (by omega) ?_; intro w1 hown hb1)
  go_wp2_with fail
  go_loopw [4] (fun i wr => ∃ (k : Nat), k ≤ xs.length ∧ i = .int .i64 k ∧ OT wr w.heap.size wr.heap.size (.slice (some ⟨w.heap.size, 0, none⟩) xs.length xs.length) (pad xs k) ∧ Below w.heap.size w wr)
    (fun i _ => xs.length - (intOf i).toNat)
  case atStart => exact ⟨0, Nat.zero_le _, rfl, by rw [pad_zero]; exact hown, hb1⟩
  case round =>
    clear hown hb1
    obtain ⟨k, hk, rfl, hown, hbr⟩ := hrel
    have HC := Lib.hid (And.intro hown hbr)
    have hz := hbr.size
    clear hown hbr
    by_cases hlt : k < xs.length
    · obtain rfl := q3 (by omega)
      obtain ⟨u, hcu, hu⟩ := Q4.out k hlt
      have hc : wr.cell? ⟨b, off + k, none⟩ = some u := cell_later HC.out.2 hcu
      have HU := Lib.hid (hu.below HC.out.2)
      have hxk := HX.out k hlt
      clear hcu hu q3
      go_wp2_with fail
      refine (toIntS_any u xs[k] _ _ _ HU.out hxk).mono ?_
      rintro e w2 ⟨u2, rfl, o2, b2⟩
      obtain ⟨a2, cap2, b2', off2, rfl, -⟩ := o2.ri.open
      obtain ⟨a1, cap1, he1, -, ⟨u3, hcu3⟩, hf3, -, hput⟩ := (HC.out.1.below b2).row (hi' := w2.heap.size) k (by rw [pad_len _ _ hk]; exact hlt)
      simp only [Value.slice.injEq, Option.some.injEq, Addr.mk.injEq, and_true] at he1
      obtain ⟨rfl, -, -⟩ := he1
      have hp := hput _ xs[k] ⟨own_wide o2.1 hz, o2.2⟩ (fun b hb => o2.lt b hb) b2.size
      rw [pad_set xs k hlt] at hp
      have hb3 : Below w.heap.size w (w2.setCell ⟨w.heap.size, k, none⟩ (.slice a2 xs[k].length cap2)) := (bup HC.out.2 (Nat.le_refl _) b2).setCell (Nat.le_refl _) _
      have hs3 : (w2.setCell ⟨w.heap.size, k, none⟩ (.slice a2 xs[k].length cap2)).heap.size = w2.heap.size := by simp [World.setCell]
      rw [← hs3] at hp
      have HR := Lib.hid (And.intro hp hb3)
      clear hp hb3 hput o2 b2 hs3
      go_wp2_with fail
      go_roundw
      case rel => exact ⟨k + 1, by omega, by go_num, HR.out.1, HR.out.2⟩
      case measure => simp [intOf]; omega
    · have HF : Hid (OT wr w.heap.size wr.heap.size (.slice (some ⟨w.heap.size, 0, none⟩) xs.length xs.length) xs ∧ Below w.heap.size w wr) := by
        have := HC.out
        rw [pad_all xs k hlt] at this
        exact this
      go_wp2_with fail
      go_ret
      exact ⟨_, rfl, HF.out⟩

theorem three_new {w w2 : World} (o1 o2 o3 : Obj) (h : Below (((w.alloc o1).alloc o2).alloc o3).heap.size (((w.alloc o1).alloc o2).alloc o3) w2) :
    w2.heap[w.heap.size + 1]? = some o2 ∧ w2.heap[w.heap.size + 1 + 1]? = some o3 := by
  have e1 : (((w.alloc o1).alloc o2).alloc o3).heap[w.heap.size + 1]? = some o2 := by
    rw [Below.heap_alloc _ _ _ (by simp)]
    have := heap_alloc_new (w.alloc o1) o2
    simpa using this
  have e2 : (((w.alloc o1).alloc o2).alloc o3).heap[w.heap.size + 1 + 1]? = some o3 := by
    have := heap_alloc_new ((w.alloc o1).alloc o2) o3
    simpa using this
  exact ⟨(h.block _ (by simp <;> omega)).trans e1, (h.block _ (by simp <;> omega)).trans e2⟩
theorem one_at {w : World} {B : Nat} {u : Value} {t : TypeId} (h : w.heap[B]? = some (.cells #[u] t (0, 0))) : w.cell? ⟨B, 0, none⟩ = some u ∧ w.frozen? ⟨B, 0, none⟩ = false := by
  simp [World.cell?, World.frozen?, h]
theorem toTable_any (v : Value) (xs : List (List Int)) (lo hi : Nat) (w : World) (h : RT w lo hi v xs) (hx : tsz xs ≤ 1048576) :
    Calls Try.prog 8 #[.agg #[v]] w (NewT xs w) := by
  have H := Lib.hid h
  obtain ⟨a, cap, b, off, rfl, -⟩ := h.open
  clear h
  go_enter Try.func8, Try.ntmps8
  have hb0 := (((Below.refl w.heap.size w).alloc (Nat.le_refl _) (.cells #[.slice a xs.length cap] 25)).alloc (by simp) (.cells #[.slice none 0 0] 33)).alloc (by simp; omega) (.cells #[.slice none 0 0] 33)
  have HB := Lib.hid hb0
  clear hb0
  go_wp2_with fail
  refine (toIntSS_any _ xs lo hi _ (H.out.below HB.out) hx).mono ?_
  rintro e w2 ⟨u, rfl, o2, b2⟩
  obtain ⟨a2, cap2, b2', off2, rfl, -⟩ := o2.rt.open
  have HO := Lib.hid (And.intro o2 (And.intro b2 (bup HB.out (Nat.le_refl _) b2)))
  obtain ⟨e1, e2⟩ := three_new (.cells #[.slice a xs.length cap] 25) (.cells #[.slice none 0 0] 33) (.cells #[.slice none 0 0] 33) b2
  obtain ⟨d1, d2⟩ := one_at e1
  obtain ⟨d3, d4⟩ := one_at e2
  clear o2 b2 e1 e2
  go_wp2_with fail
  refine bodyPost_ret (v := .agg #[.slice a2 xs.length cap2]) (by simp [results, Try.results8, go_sem, d1]) rfl ⟨_, rfl, ?_, ?_⟩
  · have hc : Chg (fun b => b = w.heap.size + 1 + 1 ∨ b = w.heap.size + 1) w2 ((w2.setCell ⟨w.heap.size + 1 + 1, 0, none⟩ (.slice a2 xs.length cap2)).setCell ⟨w.heap.size + 1, 0, none⟩ (.slice a2 xs.length cap2)) :=
      ((Chg.refl _ w2).setCell (p := ⟨w.heap.size + 1 + 1, 0, none⟩) (.inr (.inl rfl)) _).setCell (p := ⟨w.heap.size + 1, 0, none⟩) (.inr (.inr rfl)) _
    have h1 := HO.out.1.chg hc (fun b hb _ hs => by simp at hb; omega)
    exact (h1.wide (by simp; omega)).mono (by simp [World.setCell])
  · exact (HO.out.2.2.setCell (p := ⟨w.heap.size + 1 + 1, 0, none⟩) (by show w.heap.size ≤ w.heap.size + 1 + 1; omega) _).setCell (p := ⟨w.heap.size + 1, 0, none⟩) (by show w.heap.size ≤ w.heap.size + 1; omega) _

set_option maxHeartbeats 1000000 in
theorem eqIntSS_any (v v2 : Value) (xs : List (List Int)) (lo hi lo2 hi2 : Nat) (w : World) (h : RT w lo hi v xs) (h2 : RT w lo2 hi2 v2 xs) (hx : tsz xs ≤ 1048576) :
    Calls Try.prog 30 #[v, v2] w fun e w' => e = .returned (.bool true) ∧ Below w.heap.size w w' := by
  obtain ⟨a, cap, b, off, rfl, q1, q2, q3, q4⟩ := h.open
  obtain ⟨a', cap', b', off', rfl, r1, r2, r3, r4⟩ := h2.open
  have Q4 := Lib.hid q4
  have R4 := Lib.hid r4
  obtain ⟨hx1, hx2⟩ := tsz_row hx
  have HX := Lib.hid hx2
  clear h h2 q4 r4 hx hx2
  go_enter Try.func30, Try.ntmps30
  go_wp2
  go_loopw [5] (fun i wr => ∃ k : Nat, k ≤ xs.length ∧ i = .int .i64 k ∧ Below w.heap.size w wr) (fun i _ => xs.length - (intOf i).toNat)
  case atStart => exact ⟨0, Nat.zero_le _, rfl, Below.refl _ _⟩
  case round =>
    obtain ⟨k, hk, rfl, hbr⟩ := hrel
    have HB := Lib.hid hbr
    clear hbr
    by_cases hlt : k < xs.length
    · obtain rfl := q3 (by omega)
      obtain rfl := r3 (by omega)
      obtain ⟨u, hcu, hu⟩ := Q4.out k hlt
      obtain ⟨u', hcu', hu'⟩ := R4.out k hlt
      have c1 := cell_later HB.out hcu
      have c3 := cell_later HB.out hcu'
      have HU := Lib.hid (And.intro (hu.below HB.out.drew) (hu'.below HB.out.drew))
      have hxk := HX.out k hlt
      clear q3 r3 hcu hcu' hu hu'
      go_wp2
      go_region_held3 (fun w' => w'.cell? ⟨b, off + k, none⟩ = some u ∧ w'.cell? ⟨b', off' + k, none⟩ = some u')
        (first | exact ⟨c1, c3⟩ | exact ⟨cell_later (w := wr.drew) (by assumption) c1, cell_later (w := wr.drew) (by assumption) c3⟩)
        (first | (go_at_call 46; refine (eqIntS_any u u' xs[k] _ _ _ _ _ HU.out.1 HU.out.2 hxk).mono ?_; rintro e w2 ⟨rfl, b2⟩))
      have b2' : Below wr.drew.heap.size wr.drew w2 := by assumption
      have HF := Lib.hid (bup HB.out.drew (Nat.le_refl _) b2')
      clear b2'
      go_wp2
      go_roundw
      case rel => exact ⟨k + 1, by omega, by go_num, HF.out⟩
      case measure => simp [intOf]; omega
    · go_wp2
      go_ret
      exact ⟨rfl, HB.out⟩

theorem eqTable_any (v v2 : Value) (xs : List (List Int)) (lo hi lo2 hi2 : Nat) (w : World) (h : RT w lo hi v xs) (h2 : RT w lo2 hi2 v2 xs) (hx : tsz xs ≤ 1048576) :
    Calls Try.prog 12 #[.agg #[v], .agg #[v2]] w fun e w' => e = .returned (.bool true) ∧ Below w.heap.size w w' := by
  have H := Lib.hid (And.intro h h2)
  obtain ⟨a, cap, b, off, rfl, -⟩ := h.open
  obtain ⟨a', cap', b', off', rfl, -⟩ := h2.open
  have hb0 := ((Below.refl w.heap.size w).alloc (Nat.le_refl _) (.cells #[.slice a xs.length cap] 33)).alloc (by simp) (.cells #[.slice a' xs.length cap'] 33)
  have HB := Lib.hid hb0
  clear h h2 hb0
  go_enter Try.func12, Try.ntmps12
  go_wp2_with fail
  refine (eqIntSS_any _ _ xs _ _ _ _ _ (H.out.1.below HB.out) (H.out.2.below HB.out) hx).mono ?_
  rintro e w3 ⟨rfl, b3⟩
  have HF := Lib.hid (bup HB.out (Nat.le_refl _) b3)
  clear b3
  go_wp2_with fail
  go_ret
  exact ⟨rfl, HF.out⟩

end Go.Proofs.Ytgmkkajdmbmliaa
