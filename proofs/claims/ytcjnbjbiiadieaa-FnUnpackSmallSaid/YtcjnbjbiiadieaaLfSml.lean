/-
  The walks of the laws FnSmallFits, FnPackSmall, FnUnpackSmall.
-/
import Derived.Test.YtcjnbjbiiadieaaDrSml
import Derived.Test.YtcjnbjbiiadieaaLwUnp
namespace Go.Proofs.Ytcjnbjbiiadieaa
open Go.RowKit

theorem fits_cons (xs : List Int) : fits (16 :: xs) = false := by
  have : small 16 = false := by decide
  simp [fits, this]
theorem fits_take {xs : List Int} (m : Nat) (h : fits xs = true) : fits (xs.take m) = true := by
  simp only [fits, Bool.and_eq_true, decide_eq_true_eq, List.all_eq_true] at h ⊢
  exact ⟨by simp; omega, fun x hx => h.2 x (List.mem_of_mem_take hx)⟩

set_option maxHeartbeats 400000 in
theorem FnSmallFits_walk (w : World) (v : Value) (bs : List Int) (h : RB w 0 w.heap.size v bs) :
    Calls Try.prog 8 #[v] w fun e w' => e = .returned (.bool true) ∧ Below w.heap.size w w' := by
  have H := Lib.hid h
  obtain ⟨a, cap, b, off, rfl, -⟩ := h.open
  clear h
  by_cases hl : bs.length ≤ 1048576
  · go_enter Try.func8, Try.ntmps8
    go_wp2_with fail
    refine (drawSmallFits _ _ bs H.out).mono ?_
    rintro e w1 ⟨v, xs, rfl, hx, ⟨o1, hnn⟩, b1⟩
    obtain ⟨g, cap1, rfl, g1, g2, g3⟩ := own_shape o1.1 hnn
    have hcells := (o1.1.alloc (.cells #[.int .i64 16] 3)).cells (g := g) rfl
    have hcap := o1.ri.1
    have z1 := b1.size
    have O1 := Lib.hid (And.intro o1 b1)
    clear o1 b1 hnn
    go_wp2_with fail
    refine (implFits_any _ xs _ _ _ O1.out.1.ri).mono ?_
    rintro e w' ⟨rfl, rfl⟩
    go_wp2_with fail
    refine (specFits_any _ xs _ _ _ O1.out.1.ri).mono ?_
    rintro e w' ⟨rfl, rfl⟩
    have hlit := World.ownsRow_lit (base := w.heap.size) (e := 3) (size := 1) w1 #[.int .i64 16] 1 z1 (by decide) rfl
    obtain ⟨ok, hok⟩ : ∃ ok, ok = fits xs := ⟨_, rfl⟩
    rw [← hok]
    have HOK := Lib.hid hok
    clear hok
    go_wp2_with (at_builtin; refine ap_ints rfl _ _ rfl w.heap.size (.slice (some ⟨w1.heap.size, 0, none⟩) 1 1) 1 [.int .i64 16] rfl hlit ⟨g, 0, none⟩ xs.length cap1 (xs.map (Value.int .i64)) rfl (by simp) hcells (by simp [Value.oneCell']) (by omega) (by simp; omega) ?_; intro v2 w2 o2 c2 _)
    have b2 : Below w1.heap.size w1 w2 := ((Below.refl _ _).alloc (Nat.le_refl _) _).grown c2 (by simp) (fun k hk => by have e : w1.heap.size = k := Option.some.inj hk; omega)
    have r2 : RI w2 w.heap.size w2.heap.size v2 (16 :: xs) := by
      refine ⟨?_, fun x hx => ?_⟩
      · have := reads_own o2
        rw [Nat.add_comm] at this
        exact this
      · rcases List.mem_cons.1 hx with rfl | hx
        · unfold I64; omega
        · exact O1.out.1.2 x hx
    have R2 := Lib.hid (And.intro r2 (And.intro (O1.out.1.ri.below b2) (bup O1.out.2 (Nat.le_refl _) b2)))
    clear b2 r2 o2 c2 hcells hcap hlit
    have c1 := fun wx lo hi h => implFits_any v2 (16 :: xs) lo hi wx h
    rw [fits_cons] at c1
    have C1 := Lib.hid c1
    clear c1
    refine (C1.out _ _ _ R2.out.1).mono ?_
    rintro e w' ⟨rfl, rfl⟩
    cases ok
    · go_wp2_with fail
      refine (alive_any _).mono ?_
      rintro e w' ⟨rfl, rfl⟩
      go_wp2_with fail
      all_goals (go_ret; exact ⟨rfl, R2.out.2.2⟩)
    · have c2 := fun wx lo hi a cap h => implFits_any (.slice a (xs.length / 2) cap) (xs.take (xs.length / 2)) lo hi wx h
      rw [fits_take _ HOK.out.symm] at c2
      have C2 := Lib.hid c2
      clear c2
      have hd : xs.length / 2 ≤ xs.length := Nat.div_le_self _ _
      have hd0 : xs.length / 2 ≤ cap1 := by omega
      go_wp2_with fail
      refine (C2.out _ _ _ _ _ (R2.out.2.1.take hd)).mono ?_
      rintro e w' ⟨rfl, rfl⟩
      go_wp2_with fail
      refine (alive_any _).mono ?_
      rintro e w' ⟨rfl, rfl⟩
      go_wp2_with fail
      all_goals (go_ret; exact ⟨rfl, R2.out.2.2⟩)
  · go_enter Try.func8, Try.ntmps8
    go_wp2_with fail
    all_goals (go_ret; exact ⟨rfl, Below.refl _ _⟩)

theorem pack_unpack {xs : List Int} (h : 0 ≤ pack xs) : unpL (pack xs) = xs ∧ unpB (pack xs) = true := by
  have hf : fits xs = true := by
    unfold pack at h
    split at h
    · assumption
    · omega
  have hl := fits_len hf
  have ha := fits_at hf
  have key : InN (pack xs) xs.length ∧ digs (pack xs) xs.length = xs := by
    unfold pack
    rw [if_pos hf]
    match xs, hl, ha with
    | [], _, _ => simp [InN, digs]
    | [a], _, ha =>
      have := ha 0 (by simp)
      simp at this
      simp only [List.length_cons, List.length_nil, List.foldl_cons, List.foldl_nil, packF]
      refine ⟨(inN1 _).2 (by omega), ?_⟩
      simp [digs, dig, List.range_succ]; omega
    | [a, b], _, ha =>
      have h0 := ha 0 (by simp); have h1 := ha 1 (by simp)
      simp at h0 h1
      simp only [List.length_cons, List.length_nil, List.foldl_cons, List.foldl_nil, packF]
      refine ⟨(inN2 _).2 (by omega), ?_⟩
      simp [digs, dig, List.range_succ]; omega
    | [a, b, c], _, ha =>
      have h0 := ha 0 (by simp); have h1 := ha 1 (by simp); have h2 := ha 2 (by simp)
      simp at h0 h1 h2
      simp only [List.length_cons, List.length_nil, List.foldl_cons, List.foldl_nil, packF]
      refine ⟨(inN3 _).2 (by omega), ?_⟩
      simp [digs, dig, List.range_succ]; omega
    | [a, b, c, d], _, ha =>
      have h0 := ha 0 (by simp); have h1 := ha 1 (by simp); have h2 := ha 2 (by simp); have h3 := ha 3 (by simp)
      simp at h0 h1 h2 h3
      simp only [List.length_cons, List.length_nil, List.foldl_cons, List.foldl_nil, packF]
      refine ⟨(inN4 _).2 (by omega), ?_⟩
      simp [digs, dig, List.range_succ]; omega
  have := unp_at hl key.1
  exact ⟨this.1.trans key.2, this.2⟩

set_option maxHeartbeats 400000 in
theorem FnPackSmall_walk (w : World) (v : Value) (bs : List Int) (h : RB w 0 w.heap.size v bs) :
    Calls Try.prog 12 #[v] w fun e w' => e = .returned (.bool true) ∧ Below w.heap.size w w' := by
  have H := Lib.hid h
  obtain ⟨a, cap, b, off, rfl, -⟩ := h.open
  clear h
  by_cases hl : bs.length ≤ 1048576
  · go_enter Try.func12, Try.ntmps12
    go_wp2_with fail
    refine (drawPackSmall _ _ bs H.out).mono ?_
    rintro e w1 ⟨v, xs, rfl, hx, ⟨o1, hnn⟩, b1⟩
    have O1 := Lib.hid (And.intro o1 b1)
    clear o1 b1 hnn
    have hp := pack_bd xs
    go_wp2_with fail
    refine (implPack_any _ xs _ _ _ O1.out.1.ri).mono ?_
    rintro e w' ⟨rfl, rfl⟩
    go_wp2_with fail
    refine (specPack_any _ xs _ _ _ O1.out.1.ri).mono ?_
    rintro e w' ⟨rfl, rfl⟩
    by_cases hn : pack xs < 0
    · have h1 : (pack xs == -1) = true := by rw [beq_iff_eq]; omega
      have h2 : fits xs = false := by
        cases hf : fits xs with
        | false => rfl
        | true =>
          exfalso
          have : 0 ≤ pack xs := by
            unfold pack at hn ⊢
            rw [if_pos hf] at hn ⊢
            have hl := fits_len hf
            have ha := fits_at hf
            match xs, hl, ha with
            | [], _, _ => simp
            | [a], _, ha => have := ha 0 (by simp); simp [packF] at *; omega
            | [a, b], _, ha => have := ha 0 (by simp); have := ha 1 (by simp); simp [packF] at *; omega
            | [a, b, c], _, ha => have := ha 0 (by simp); have := ha 1 (by simp); have := ha 2 (by simp); simp [packF] at *; omega
            | [a, b, c, d], _, ha => have := ha 0 (by simp); have := ha 1 (by simp); have := ha 2 (by simp); have := ha 3 (by simp); simp [packF] at *; omega
          omega
      have c1 := fun wx lo hi h => implFits_any v xs lo hi wx h
      rw [h2] at c1
      have C1 := Lib.hid c1
      clear c1 h2
      generalize pack xs = n at hn h1 hp ⊢
      go_wp2_with fail
      refine (C1.out _ _ _ O1.out.1.ri).mono ?_
      rintro e w' ⟨rfl, rfl⟩
      go_wp2_with fail
      refine (alive_any _).mono ?_
      rintro e w' ⟨rfl, rfl⟩
      go_wp2_with fail
      all_goals (go_ret; exact ⟨rfl, O1.out.2⟩)
    · have hn' : 0 ≤ pack xs := by omega
      have hu := Lib.hid (pack_unpack hn')
      have c1 := fun wx => implUnp_any (pack xs) (by unfold I64; omega) wx
      have C1 := Lib.hid c1
      clear c1
      generalize hN : pack xs = n at hn hn' hp hu C1 ⊢
      clear hN
      go_wp2_with fail
      refine (C1.out _).mono ?_
      rintro e w2 ⟨v2, rfl, o2, b2⟩
      have hb := hu.out.2
      have O2 : Hid (OI w2 w1.heap.size v2 xs ∧ RI w2 w.heap.size w1.heap.size v xs ∧ Below w.heap.size w w2) := ⟨by have := o2; rwa [hu.out.1] at this, O1.out.1.ri.below b2, bup O1.out.2 (Nat.le_refl _) b2⟩
      clear o2 b2 hu
      go_wp2_with fail
      have c3 := fun wx a b c d e f g => sameInts_any v2 v xs xs a b c d wx e f g g
      rw [sameL_self] at c3
      refine (c3 _ _ _ _ _ O2.out.1.ri O2.out.2.1 (by omega)).mono ?_
      clear c3
      rintro e w3 ⟨rfl, b3⟩
      have HF := Lib.hid (bup O2.out.2.2 (Nat.le_refl _) b3)
      clear b3
      go_wp2_with fail
      all_goals (go_ret; exact ⟨rfl, HF.out⟩)
  · go_enter Try.func12, Try.ntmps12
    go_wp2_with fail
    all_goals (go_ret; exact ⟨rfl, Below.refl _ _⟩)

theorem unpack_pack {n : Int} (h : unpB n = true) : pack (unpL n) = n := by
  by_cases hx : ∃ m, m ≤ 4 ∧ InN n m
  · obtain ⟨m, hm, hi⟩ := hx
    rw [(unp_at hm hi).1]; exact pack_digs hm hi
  · have := (unp_none (n := n) fun k hk hi => hx ⟨k, hk, hi⟩).2
    rw [this] at h; exact absurd h (by decide)
theorem unpack_len {n : Int} (h : unpB n = false) : unpL n = [] := by
  by_cases hx : ∃ m, m ≤ 4 ∧ InN n m
  · obtain ⟨m, hm, hi⟩ := hx
    rw [(unp_at hm hi).2] at h; exact absurd h (by decide)
  · exact (unp_none (n := n) fun k hk hi => hx ⟨k, hk, hi⟩).1

set_option maxHeartbeats 400000 in
theorem FnUnpackSmall_walk (w : World) (v : Value) (bs : List Int) (h : RB w 0 w.heap.size v bs) :
    Calls Try.prog 14 #[v] w fun e w' => e = .returned (.bool true) ∧ Below w.heap.size w w' := by
  have H := Lib.hid h
  obtain ⟨a, cap, b, off, rfl, -⟩ := h.open
  clear h
  by_cases hl : bs.length ≤ 1048576
  · go_enter Try.func14, Try.ntmps14
    go_wp2_with fail
    refine (dUnpackSmall _ _ bs H.out).mono ?_
    rintro e w1 ⟨n, rfl, hn, b1⟩
    have B1 := Lib.hid b1
    clear b1
    have HL := Lib.hid (unpL_len n)
    go_wp2_with fail
    refine (implUnp_any n hn _).mono ?_
    rintro e w2 ⟨v2, rfl, o2, b2⟩
    have O2 := Lib.hid (And.intro o2 (bup B1.out (Nat.le_refl _) b2))
    clear o2 b2
    go_wp2_with fail
    refine (specUnp_any n hn _).mono ?_
    rintro e w3 ⟨v3, rfl, o3, b3⟩
    have O3 := Lib.hid (And.intro (O2.out.1.below b3) (And.intro o3 (bup O2.out.2 (Nat.le_refl _) b3)))
    clear o3 b3
    go_wp2_with fail
    have c3 := fun wx a b c d e f g => sameInts_any v2 v3 (unpL n) (unpL n) a b c d wx e f g g
    rw [sameL_self] at c3
    refine (c3 _ _ _ _ _ O3.out.1.ri O3.out.2.1.ri (by have := HL.out; omega)).mono ?_
    clear c3
    rintro e w4 ⟨rfl, b4⟩
    have O4 := Lib.hid (And.intro (O3.out.1.below b4) (bup O3.out.2.2 (Nat.le_refl _) b4))
    clear b4
    cases hb : unpB n
    · have hlen := unpack_len hb
      have h0 : (unpL n).length = 0 := by rw [hlen]; rfl
      obtain ⟨a', cap', -, -, rfl, -⟩ := O4.out.1.ri.open
      rw [h0]
      clear hlen h0 hb
      go_wp2_with fail
      refine (alive_any _).mono ?_
      rintro e w' ⟨rfl, rfl⟩
      go_wp2_with fail
      all_goals (go_ret; exact ⟨rfl, O4.out.2⟩)
    · have hp := unpack_pack hb
      have hpb : (pack (unpL n) == n) = true := by rw [hp]; simp
      clear hp hb
      go_wp2_with fail
      refine (implPack_any _ (unpL n) _ _ _ O4.out.1.ri).mono ?_
      rintro e w' ⟨rfl, rfl⟩
      go_wp2_with fail
      all_goals (go_ret; exact ⟨rfl, O4.out.2⟩)
  · go_enter Try.func14, Try.ntmps14
    go_wp2_with fail
    all_goals (go_ret; exact ⟨rfl, Below.refl _ _⟩)

end Go.Proofs.Ytcjnbjbiiadieaa
