/-
  Texts of this claim, laid together: Tow.
-/
import Derived.Test.YtjmofmdcegefgaaQ11
import Derived.Test.YtjmofmdcegefgaaQ16
import Derived.Test.YtjmofmdcegefgaaQ21
namespace Go.Proofs.Ytjmofmdcegefgaa
open Go.RowKit
set_option linter.unusedSimpArgs false

theorem cell_chg {S : Nat → Prop} {w w' : World} {p : Addr} {u : Value} (h : Chg S w w') (hc : w.cell? p = some u ∧ ¬ S p.block) : w'.cell? p = some u := by
  rw [h.cell (World.block_lt_of_cell? w _ hc.1) hc.2]; exact hc.1
theorem RI.cell0 {w : World} {lo hi b n cap : Nat} {xs : List Int} (h : RI w lo hi (.slice (some ⟨b, 0, none⟩) n cap) xs) {k : Nat} (hk : k < xs.length) : w.cell? ⟨b, k, none⟩ = some (.int .i64 xs[k]) := by
  obtain ⟨a, c, b0, o0, e, -, -, h3, h4⟩ := h.open
  simp only [Value.slice.injEq] at e
  obtain ⟨rfl, -, -⟩ := e
  have := h3 (by omega)
  simp only [Option.some.injEq, Addr.mk.injEq, and_true] at this
  obtain ⟨rfl, rfl⟩ := this
  have := h4 k hk
  rwa [Nat.zero_add] at this

/-- The table that is being made: its box is C, the result's box is w's first new block. -/
def ToR (w : World) (lo hi A cap C : Nat) (z : List (List Int)) (wr : World) : Prop :=
  OT wr lo hi (.slice (some ⟨A, 0, none⟩) 8 cap) z ∧ Below w.heap.size w wr ∧ wr.heap[C]? = some (.cells #[.slice (some ⟨A, 0, none⟩) 8 cap] 26) ∧ wr.heap[w.heap.size]? = some (.cells #[.slice none 0 0] 26) ∧ w.heap.size < lo ∧ hi ≤ C ∧ z.length = 8 ∧ 8 ≤ cap
theorem ToR.below {w wr w' : World} {lo hi A cap C : Nat} {z : List (List Int)} (h : ToR w lo hi A cap C z wr) (b : Below wr.heap.size wr w') : ToR w lo hi A cap C z w' :=
  ⟨h.1.below b, bup2 h.2.1 b, box_keep h.2.2.1 b, box_keep h.2.2.2.1 b, h.2.2.2.2⟩
/-- What the table's cells say at file f, place p; and the store. -/
theorem ToR.at {w wr : World} {lo hi A cap C : Nat} {z : List (List Int)} (h : ToR w lo hi A cap C z wr) (h6 : ∀ l ∈ z, l.length = 6) {f p : Nat} (hf : f < 8) (hp : p < 6) :
    ∃ g cap3, wr.cell? ⟨A, f, none⟩ = some (.slice (some ⟨g, 0, none⟩) 6 cap3) ∧ 6 ≤ cap3 ∧ wr.cell? ⟨g, p, none⟩ = some (.int .i64 (tat z f p)) ∧ wr.frozen? ⟨g, p, none⟩ = false ∧ A ≠ g ∧ g < C ∧ ∀ x, I64 x → ToR w lo hi A cap C (tset z f p x) (wr.setCell ⟨g, p, none⟩ (.int .i64 x)) := by
  obtain ⟨h1, h2, h3, h4, h5, h7, h8, h9⟩ := h
  have hfz : f < z.length := by omega
  have hr6 : z[f].length = 6 := h6 _ (List.getElem_mem hfz)
  obtain ⟨a', cap', g, cap3, ev, -, hcu, hcap3, ⟨u3, hu3⟩, hfr, ⟨hg1, hg2⟩, hput⟩ := h1.store f p hfz (by rw [hr6]; exact hp)
  simp only [Value.slice.injEq, Option.some.injEq, Addr.mk.injEq, and_true] at ev
  obtain ⟨rfl, -, -⟩ := ev
  obtain ⟨cur, hcur⟩ := h1.typ hfz hcu
  obtain ⟨cuA, hcuA⟩ := h1.atyp
  have hlt := (Array.getElem?_eq_some_iff.1 hcur).1
  obtain ⟨a2, c2, b2, o2, e2, -, -, r3, r4⟩ := h1.rt.open
  simp only [Value.slice.injEq] at e2
  obtain ⟨rfl, -, -⟩ := e2
  have e3 := r3 (by omega)
  simp only [Option.some.injEq, Addr.mk.injEq, and_true] at e3
  obtain ⟨rfl, rfl⟩ := e3
  obtain ⟨u, hu, hri⟩ := r4 f hfz
  rw [Nat.zero_add, hcu] at hu
  obtain rfl := Option.some.inj hu
  have hcell := hri.cell0 (k := p) (by rw [hr6]; exact hp)
  rw [hr6] at hcu hcap3
  refine ⟨g, cap3, hcu, hcap3, by rw [tat_eq hfz (by rw [hr6]; exact hp)]; exact hcell, hfr, typ_ne hcuA hcur (by decide), by omega, fun x hx => ?_⟩
  have hc : Chg (fun b => b = g) wr (wr.setCell ⟨g, p, none⟩ (.int .i64 x)) := Chg.setCell (S := fun b => b = g) (Chg.refl _ wr) (p := ⟨g, p, none⟩) (.inr rfl) _
  refine ⟨?_, h2.trans (hc.below h2.size (fun i hi he => by omega)), box_chg h3 hc (by omega), box_chg h4 hc (by omega), h5, h7, by rw [tset_len]; exact h8, h9⟩
  rw [tset_eq hfz]
  exact hput x hx
theorem tstep_full {d : List Bk} {t : List (List Int)} {n f p : Nat} {v s : Int} (hd : dat d n = ⟨true, f, p, v, s⟩) (h : tat t f p < 0 ∨ (dat d (tat t f p).toNat).stamp < s) : tstep d t n = tset t f p n := by
  unfold tstep
  rw [hd]
  simp only [Int.toNat_natCast]
  rw [if_pos ⟨trivial, h⟩]
theorem tstep_keep {d : List Bk} {t : List (List Int)} {n f p : Nat} {v s : Int} (hd : dat d n = ⟨true, f, p, v, s⟩) (h : ¬ (tat t f p < 0 ∨ (dat d (tat t f p).toNat).stamp < s)) : tstep d t n = t := by
  unfold tstep
  rw [hd]
  simp only [Int.toNat_natCast]
  rw [if_neg (fun x => h x.2)]
theorem tstep_free {d : List Bk} {t : List (List Int)} {n : Nat} (hd : (dat d n).full = false) : tstep d t n = t := by
  unfold tstep
  rw [if_neg (by rw [hd]; simp)]

theorem fld_stamp (x0 x1 x2 x3 x4 : Value) (w : World) : Sem.run Try.prog (Instr.field 53 (.agg #[x0, x1, x2, x3, x4]) 4) w = .ok x4 w := by kernel_rfl

set_option maxHeartbeats 4000000 in
set_option maxRecDepth 4000 in
theorem implTof_any (v : Value) (d : List Bk) (lo0 hi0 : Nat) (w : World) (h : RD w lo0 hi0 v d) : Calls Try.prog 24 #[v] w (NewT (tof d) w) := by
  obtain ⟨a, capd, b, off, rfl, -⟩ := h.open
  have H := Lib.hid h
  have X0 := Lib.hid (heap_alloc_new w (.cells #[.slice none 0 0] 26))
  have HB0 := Lib.hid (balloc w (.cells #[.slice none 0 0] 26))
  have c1 := fun wx hx => implDvv_any (.slice a d.length capd) d lo0 hi0 wx hx
  clear h
  cases hv : dvOk d
  · rw [tof_bad hv]
    rw [hv] at c1
    have C1 := Lib.hid c1
    clear c1 hv
    go_enter Try.func24, Try.ntmps24
    go_wp2_with fail
    refine (C1.out _ (H.out.below HB0.out)).mono ?_
    rintro e w1 ⟨rfl, b1⟩
    have HF := Lib.hid (And.intro (bup2 HB0.out b1) (box_keep X0.out b1))
    obtain ⟨d2, d3⟩ := one_at HF.out.2
    clear b1
    go_wp2_with fail
    have hc : Chg (fun b => b = w.heap.size) w1 (w1.setCell ⟨w.heap.size, 0, none⟩ (.slice none 0 0)) := Chg.setCell (S := fun b => b = w.heap.size) (Chg.refl _ w1) (p := ⟨w.heap.size, 0, none⟩) (.inr rfl) _
    refine bodyPost_ret (v := .agg #[.slice none 0 0]) (by simp [results, Try.results24, go_sem, d2]) rfl ⟨_, rfl, ot_nil _ _ _, HF.out.1.trans (hc.below HF.out.1.size (fun i hi he => by omega))⟩
  · have HV := Lib.hid hv
    have hl12 := (dv_len hv).2
    have hto : tof d = tofN d (4 * d.length) := by unfold tof; rw [if_pos hv]
    have HTO := Lib.hid hto
    have HTI := Lib.hid (fun n hn => tofI hv n hn)
    have HPa0 := Lib.hid (fun (n : Nat) (wx : World) (hx : RD wx lo0 hi0 (.slice a d.length capd) d) (hn : n < 4 * d.length) => implPat_any _ d n lo0 hi0 wx hx hv hn)
    rw [hv] at c1
    have C1 := Lib.hid c1
    clear c1 hv hto
    go_enter Try.func24, Try.ntmps24
    go_wp2_with fail
    refine (C1.out _ (H.out.below HB0.out)).mono ?_
    rintro e w1 ⟨rfl, b1⟩
    have HF := Lib.hid (And.intro (bup2 HB0.out b1) (box_keep X0.out b1))
    clear b1
    go_wp2_with fail
    refine (empty_any _).mono ?_
    rintro e w2 ⟨vt, rfl, o2, b2⟩
    obtain ⟨A, cap, e2, z1, z2, z3⟩ : ∃ A cap, vt = .slice (some ⟨A, 0, none⟩) 8 cap ∧ 8 ≤ cap ∧ w.heap.size < w1.heap.size ∧ w1.heap.size ≤ w2.heap.size := by
      obtain ⟨vs, k1, -⟩ := o2
      obtain ⟨A, cap, e1, -, -, e3⟩ := own_shape1 k1 (show 0 < (T0 8).length by simp [T0])
      have e8 : (T0 8).length = 8 := by simp [T0]
      rw [e8] at e1 e3
      exact ⟨A, cap, e1, e3, (Array.getElem?_eq_some_iff.1 HF.out.2).1, b2.size⟩
    subst e2
    have HS : Hid (ToR w w1.heap.size w2.heap.size A cap w2.heap.size (T0 8) (w2.alloc (.cells #[.slice (some ⟨A, 0, none⟩) 8 cap] 26))) :=
      Lib.hid ⟨o2.below (balloc _ _), bup2 HF.out.1 (bup2 b2 (balloc _ _)), heap_alloc_new w2 _, box_keep HF.out.2 (bup2 b2 (balloc _ _)), z2, Nat.le_refl _, by simp [T0], z1⟩
    clear o2 b2 C1
    obtain ⟨C, hC⟩ : ∃ C, C = w2.heap.size := ⟨_, rfl⟩
    obtain ⟨lo, hlo⟩ : ∃ lo, lo = w1.heap.size := ⟨_, rfl⟩
    rw [← hC, ← hlo] at HS
    have HCC := Lib.hid hC.symm
    clear z2 z3 hC hlo
    go_wp2_with fail
    rw [HCC.out]
    go_loopw [4, 5, 6, 15] (fun _ _ _ i wr => ∃ n : Nat, n ≤ 4 * d.length ∧ i = .int .i64 n ∧ ToR w lo C A cap C (tofN d n) wr) (fun _ _ _ i _ => 4 * d.length - (intOf i).toNat)
    case atStart => exact ⟨0, Nat.zero_le _, rfl, HS.out⟩
    case round =>
      obtain ⟨n, hn, rfl, hR⟩ := hrel
      obtain ⟨wo, rfl⟩ : ∃ wo : World, wo = wr := ⟨_, rfl⟩
      clear HS
      have HR := Lib.hid hR
      clear hR
      by_cases hlt : n < 4 * d.length
      · have hni : (n : Int) < (d.length : Int) * 4 := by omega
        go_wp2_with fail
        refine (HPa0.out n _ (H.out.below HR.out.2.1) hlt).mono ?_
        rintro e w4 ⟨rfl, b4⟩
        have HR4 := Lib.hid (HR.out.below (bup2 b4 (balloc w4 (.cells #[.bool (dat d n).full, .int .i64 (dat d n).file, .int .i64 (dat d n).place, .int .i64 (dat d n).value, .int .i64 (dat d n).stamp] 53))))
        have X5 := heap_alloc_new w4 (.cells #[.bool (dat d n).full, .int .i64 (dat d n).file, .int .i64 (dat d n).place, .int .i64 (dat d n).value, .int .i64 (dat d n).stamp] 53)
        have hCP : C < w4.heap.size := by
          have h1 := (Array.getElem?_eq_some_iff.1 HR.out.2.2.1).1
          have h2 := b4.size
          omega
        clear b4
        have hok := dat_ok HV.out hlt
        have hsu : tofN d (n + 1) = tstep d (tofN d n) n := rfl
        have hI := HTI.out n hn
        obtain ⟨pg, hpg⟩ : ∃ pg, dat d n = pg := ⟨_, rfl⟩
        rw [hpg] at HR4 X5 hok
        unfold pgv
        rw [hpg]
        obtain ⟨fl, file, place, val, s⟩ := pg
        simp only at HR4 X5 ⊢
        obtain ⟨w5, hw5⟩ : ∃ w5, w5 = w4.alloc (.cells #[.bool fl, .int .i64 file, .int .i64 place, .int .i64 val, .int .i64 s] 53) := ⟨_, rfl⟩
        rw [← hw5] at HR4 X5
        have hPz : w4.heap.size < w5.heap.size := (Array.getElem?_eq_some_iff.1 X5).1
        have HW5 := Lib.hid hw5
        obtain ⟨P, hP⟩ : ∃ P, P = w4.heap.size := ⟨_, rfl⟩
        rw [← hP] at X5 hPz hCP
        have HP := Lib.hid hP.symm
        obtain ⟨y0, y1, y2, y3, y4⟩ := five_at (p := ⟨fl, file, place, val, s⟩) X5
        simp only [Nat.zero_add] at y0 y1 y2 y3 y4
        clear hw5 hP X5
        cases fl
        · have HN := Lib.hid (hsu.trans (tstep_free (by rw [hpg])))
          clear hpg hok hsu hI
          go_wp2_with fail
          go_roundw
          case rel => exact ⟨n + 1, by omega, by go_num, by rw [HN.out, ← HW5.out]; exact HR4.out⟩
          case measure => simp [intOf]; omega
        · obtain ⟨⟨f0, f1⟩, ⟨p0, p1⟩, -, -⟩ := pgOk_full hok rfl
          simp only at f0 f1 p0 p1
          obtain ⟨f, rfl⟩ := Int.eq_ofNat_of_zero_le f0
          obtain ⟨p, rfl⟩ := Int.eq_ofNat_of_zero_le p0
          have hent := hI.ent f p (by omega) (by omega)
          have HYes := Lib.hid (fun h => hsu.trans (tstep_full (t := tofN d n) hpg h))
          have HNo := Lib.hid (fun h => hsu.trans (tstep_keep (t := tofN d n) hpg h))
          obtain ⟨g, cap3, cA, q3, cG, hfz, nA, nC, hput⟩ := HR4.out.at hI.row (f := f) (p := p) (by omega) (by omega)
          have HRow := Lib.hid hI.row
          have hPut0 := hput
          obtain ⟨cC, -⟩ := one_at HR4.out.2.2.1
          have hf8 : (f : Int) < 8 := by omega
          have hp6 : (p : Int) < 6 := by omega
          obtain ⟨x, hx⟩ : ∃ x, tat (tofN d n) f p = x := ⟨_, rfl⟩
          rw [hx] at cG hent HYes HNo
          have nP : P ≠ g := by omega
          have nC2 : C ≠ g := by omega
          clear hpg hok hsu hI hput hx
          go_wp2_with fail
          rw [HP.out, ← HW5.out]
          go_wp2_with fail
          refine region_held_n 11 (S := fun w' => Below w5.heap.size w5 w') (by kernel_rfl) (by kernel_rfl) (bdrew _) (fun hS0 => ?_)
          refine hs_take (fuel := 10) 0 (some 24) (.pointer (some ⟨C, 0, none⟩)) rfl rfl (by kernel_rfl) (by kernel_rfl) (by kernel_rfl) (fun _ _ _ h => h) (by rfl) (fun wq hq => ?_) (by assumption) ?_
          · go_simp
          simp only [Act.put, List.setIfInBounds_toArray, List.set_cons_zero, List.set_cons_succ]
          refine hs_take (fuel := 9) 1 (some 25) (.slice (some ⟨A, 0, none⟩) 8 cap) rfl rfl (by kernel_rfl) (by kernel_rfl) (by kernel_rfl) (fun _ _ _ h => h) (by rfl) (fun wq hq => ?_) (by assumption) ?_
          · have p0 := cell_later hq cC
            go_simp
          simp only [Act.put, List.setIfInBounds_toArray, List.set_cons_zero, List.set_cons_succ]
          refine hs_take (fuel := 8) 2 (some 26) (.pointer (some ⟨P, 1, none⟩)) rfl rfl (by kernel_rfl) (by kernel_rfl) (by kernel_rfl) (fun _ _ _ h => h) (by rfl) (fun wq hq => ?_) (by assumption) ?_
          · go_simp
          simp only [Act.put, List.setIfInBounds_toArray, List.set_cons_zero, List.set_cons_succ]
          refine hs_take (fuel := 7) 3 (some 27) (.int .i64 f) rfl rfl (by kernel_rfl) (by kernel_rfl) (by kernel_rfl) (fun _ _ _ h => h) (by rfl) (fun wq hq => ?_) (by assumption) ?_
          · have p0 := cell_later hq y1
            go_simp
          simp only [Act.put, List.setIfInBounds_toArray, List.set_cons_zero, List.set_cons_succ]
          refine hs_take (fuel := 6) 4 (some 28) (.pointer (some ⟨A, f, none⟩)) rfl rfl (by kernel_rfl) (by kernel_rfl) (by kernel_rfl) (fun _ _ _ h => h) (by rfl) (fun wq hq => ?_) (by assumption) ?_
          · go_simp
          simp only [Act.put, List.setIfInBounds_toArray, List.set_cons_zero, List.set_cons_succ]
          refine hs_take (fuel := 5) 5 (some 29) (.slice (some ⟨g, 0, none⟩) 6 cap3) rfl rfl (by kernel_rfl) (by kernel_rfl) (by kernel_rfl) (fun _ _ _ h => h) (by rfl) (fun wq hq => ?_) (by assumption) ?_
          · have p0 := cell_later hq cA
            go_simp
          simp only [Act.put, List.setIfInBounds_toArray, List.set_cons_zero, List.set_cons_succ]
          refine hs_take (fuel := 4) 6 (some 30) (.pointer (some ⟨P, 2, none⟩)) rfl rfl (by kernel_rfl) (by kernel_rfl) (by kernel_rfl) (fun _ _ _ h => h) (by rfl) (fun wq hq => ?_) (by assumption) ?_
          · go_simp
          simp only [Act.put, List.setIfInBounds_toArray, List.set_cons_zero, List.set_cons_succ]
          refine hs_take (fuel := 3) 7 (some 31) (.int .i64 p) rfl rfl (by kernel_rfl) (by kernel_rfl) (by kernel_rfl) (fun _ _ _ h => h) (by rfl) (fun wq hq => ?_) (by assumption) ?_
          · have p0 := cell_later hq y2
            go_simp
          simp only [Act.put, List.setIfInBounds_toArray, List.set_cons_zero, List.set_cons_succ]
          refine hs_take (fuel := 2) 8 (some 32) (.pointer (some ⟨g, p, none⟩)) rfl rfl (by kernel_rfl) (by kernel_rfl) (by kernel_rfl) (fun _ _ _ h => h) (by rfl) (fun wq hq => ?_) (by assumption) ?_
          · go_simp
          simp only [Act.put, List.setIfInBounds_toArray, List.set_cons_zero, List.set_cons_succ]
          refine hs_take (fuel := 1) 9 (some 33) (.int .i64 x) rfl rfl (by kernel_rfl) (by kernel_rfl) (by kernel_rfl) (fun _ _ _ h => h) (by rfl) (fun wq hq => ?_) (by assumption) ?_
          · have p0 := cell_later hq cG
            go_simp
          simp only [Act.put, List.setIfInBounds_toArray, List.set_cons_zero, List.set_cons_succ]
          refine hs_take (fuel := 0) 10 (some 6) (.int .i64 x) rfl rfl (by kernel_rfl) (by kernel_rfl) (by kernel_rfl) (fun _ _ _ h => h) (by rfl) (fun wq hq => ?_) (by assumption) ?_
          · go_simp
          simp only [Act.put, List.setIfInBounds_toArray, List.set_cons_zero, List.set_cons_succ]
          refine wpAnyH_done (by kernel_rfl) ?_ _
          clear hS0 hfz hPut0
          by_cases hx0 : x < 0
          · have hxd : decide (x < 0) = true := by simpa using hx0
            have HN := Lib.hid (HYes.out (.inl hx0))
            clear HYes HNo hent hx0
            go_wp2_with fail
            refine region_held_n 11 (S := fun w' => Below w5.heap.size w5 w') (by kernel_rfl) (by kernel_rfl) (bup2 (bdrew _) (bdrew _)) (fun hS0 => ?_)
            refine hs_take (fuel := 10) 0 (some 34) (.int .i64 x) rfl rfl (by kernel_rfl) (by kernel_rfl) (by kernel_rfl) (fun _ _ _ h => h) (by rfl) (fun wq hq => ?_) (by assumption) ?_
            · go_simp
            simp only [Act.put, List.setIfInBounds_toArray, List.set_cons_zero, List.set_cons_succ]
            refine hs_take (fuel := 9) 1 (some 35) (.bool true) rfl rfl (by kernel_rfl) (by kernel_rfl) (by kernel_rfl) (fun _ _ _ h => h) (by rfl) (fun wq hq => ?_) (by assumption) ?_
            · go_simp
            simp only [Act.put, List.setIfInBounds_toArray, List.set_cons_zero, List.set_cons_succ]
            refine hs_take (fuel := 8) 2 (some 36) (.bool true) rfl rfl (by kernel_rfl) (by kernel_rfl) (by kernel_rfl) (fun _ _ _ h => h) (by rfl) (fun wq hq => ?_) (by assumption) ?_
            · go_simp
            simp only [Act.put, List.setIfInBounds_toArray, List.set_cons_zero, List.set_cons_succ]
            refine hs_skip (fuel := 7) 3 (some 37) rfl rfl (by kernel_rfl) (by kernel_rfl) (by kernel_rfl) (fun _ _ _ h => h) (by rfl) (by assumption) ?_
            simp only [Act.put, List.setIfInBounds_toArray, List.set_cons_zero, List.set_cons_succ]
            refine hs_skip (fuel := 6) 4 (some 38) rfl rfl (by kernel_rfl) (by kernel_rfl) (by kernel_rfl) (fun _ _ _ h => h) (by rfl) (by assumption) ?_
            simp only [Act.put, List.setIfInBounds_toArray, List.set_cons_zero, List.set_cons_succ]
            refine hs_skip (fuel := 5) 5 (some 39) rfl rfl (by kernel_rfl) (by kernel_rfl) (by kernel_rfl) (fun _ _ _ h => h) (by rfl) (by assumption) ?_
            simp only [Act.put, List.setIfInBounds_toArray, List.set_cons_zero, List.set_cons_succ]
            refine hs_skip (fuel := 4) 6 (some 40) rfl rfl (by kernel_rfl) (by kernel_rfl) (by kernel_rfl) (fun _ _ _ h => h) (by rfl) (by assumption) ?_
            simp only [Act.put, List.setIfInBounds_toArray, List.set_cons_zero, List.set_cons_succ]
            refine hs_skip (fuel := 3) 7 (some 41) rfl rfl (by kernel_rfl) (by kernel_rfl) (by kernel_rfl) (fun _ _ _ h => h) (by rfl) (by assumption) ?_
            simp only [Act.put, List.setIfInBounds_toArray, List.set_cons_zero, List.set_cons_succ]
            refine hs_skip (fuel := 2) 8 (some 42) rfl rfl (by kernel_rfl) (by kernel_rfl) (by kernel_rfl) (fun _ _ _ h => h) (by rfl) (by assumption) ?_
            simp only [Act.put, List.setIfInBounds_toArray, List.set_cons_zero, List.set_cons_succ]
            refine hs_skip (fuel := 1) 9 (some 43) rfl rfl (by kernel_rfl) (by kernel_rfl) (by kernel_rfl) (fun _ _ _ h => h) (by rfl) (by assumption) ?_
            simp only [Act.put, List.setIfInBounds_toArray, List.set_cons_zero, List.set_cons_succ]
            refine hs_take (fuel := 0) 10 (some 44) (.bool true) rfl rfl (by kernel_rfl) (by kernel_rfl) (by kernel_rfl) (fun _ _ _ h => h) (by rfl) (fun wq hq => ?_) (by assumption) ?_
            · go_simp
            simp only [Act.put, List.setIfInBounds_toArray, List.set_cons_zero, List.set_cons_succ]
            refine wpAnyH_done (by kernel_rfl) ?_ _
            have hz : Below w5.heap.size w5 w5.drew.drew := bup2 (bdrew _) (bdrew _)
            obtain ⟨y0', y1', y2', cC', cA'⟩ := And.intro (cell_later hz y0) (And.intro (cell_later hz y1) (And.intro (cell_later hz y2) (And.intro (cell_later hz cC) (cell_later hz cA))))
            obtain ⟨g', cap3', cA2, -, hu3, hfz, -, -, hput'⟩ := (HR4.out.below hz).at HRow.out (f := f) (p := p) (by omega) (by omega)
            rw [cA'] at cA2
            simp only [Option.some.injEq, Value.slice.injEq, Addr.mk.injEq, and_true, true_and] at cA2
            obtain ⟨rfl, rfl⟩ := cA2
            have HPut := Lib.hid (hput' n (by unfold I64; omega))
            have kC := And.intro cC' (show ¬ C = g from nC2)
            have k1 := And.intro y1' (show ¬ P = g from nP)
            have k2 := And.intro y2' (show ¬ P = g from nP)
            have kA := And.intro cA' (show ¬ A = g from nA)
            clear hput' y0 y1 y2 y4 cC cA cG hz y0'
            obtain ⟨w7, hw7⟩ : ∃ w7, w7 = w5.drew.drew := ⟨_, rfl⟩
            rw [← hw7] at hu3 hfz HPut kC k1 k2 kA
            have HW7 := Lib.hid hw7
            clear hw7
            go_wp2_with fail
            rw [← HW7.out]
            refine region_held_n 11 (S := fun w' => Chg (fun b => b = g) w7 w') (by kernel_rfl) (by kernel_rfl) (below_chg (bdrew _) _) (fun hS0 => ?_)
            refine hs_take (fuel := 10) 0 (some 45) (.pointer (some ⟨C, 0, none⟩)) rfl rfl (by kernel_rfl) (by kernel_rfl) (by kernel_rfl) (fun _ _ _ h => h) (by rfl) (fun wq hq => ?_) (by assumption) ?_
            · go_simp
            simp only [Act.put, List.setIfInBounds_toArray, List.set_cons_zero, List.set_cons_succ]
            refine hs_take (fuel := 9) 1 (some 46) (.slice (some ⟨A, 0, none⟩) 8 cap) rfl rfl (by kernel_rfl) (by kernel_rfl) (by kernel_rfl) (fun _ _ _ h => h) (by rfl) (fun wq hq => ?_) (by assumption) ?_
            · have p0 := cell_chg hq kC
              go_simp
            simp only [Act.put, List.setIfInBounds_toArray, List.set_cons_zero, List.set_cons_succ]
            refine hs_take (fuel := 8) 2 (some 47) (.pointer (some ⟨P, 1, none⟩)) rfl rfl (by kernel_rfl) (by kernel_rfl) (by kernel_rfl) (fun _ _ _ h => h) (by rfl) (fun wq hq => ?_) (by assumption) ?_
            · go_simp
            simp only [Act.put, List.setIfInBounds_toArray, List.set_cons_zero, List.set_cons_succ]
            refine hs_take (fuel := 7) 3 (some 48) (.int .i64 f) rfl rfl (by kernel_rfl) (by kernel_rfl) (by kernel_rfl) (fun _ _ _ h => h) (by rfl) (fun wq hq => ?_) (by assumption) ?_
            · have p0 := cell_chg hq k1
              go_simp
            simp only [Act.put, List.setIfInBounds_toArray, List.set_cons_zero, List.set_cons_succ]
            refine hs_take (fuel := 6) 4 (some 49) (.pointer (some ⟨A, f, none⟩)) rfl rfl (by kernel_rfl) (by kernel_rfl) (by kernel_rfl) (fun _ _ _ h => h) (by rfl) (fun wq hq => ?_) (by assumption) ?_
            · go_simp
            simp only [Act.put, List.setIfInBounds_toArray, List.set_cons_zero, List.set_cons_succ]
            refine hs_take (fuel := 5) 5 (some 50) (.slice (some ⟨g, 0, none⟩) 6 cap3) rfl rfl (by kernel_rfl) (by kernel_rfl) (by kernel_rfl) (fun _ _ _ h => h) (by rfl) (fun wq hq => ?_) (by assumption) ?_
            · have p0 := cell_chg hq kA
              go_simp
            simp only [Act.put, List.setIfInBounds_toArray, List.set_cons_zero, List.set_cons_succ]
            refine hs_take (fuel := 4) 6 (some 51) (.pointer (some ⟨P, 2, none⟩)) rfl rfl (by kernel_rfl) (by kernel_rfl) (by kernel_rfl) (fun _ _ _ h => h) (by rfl) (fun wq hq => ?_) (by assumption) ?_
            · go_simp
            simp only [Act.put, List.setIfInBounds_toArray, List.set_cons_zero, List.set_cons_succ]
            refine hs_take (fuel := 3) 7 (some 52) (.int .i64 p) rfl rfl (by kernel_rfl) (by kernel_rfl) (by kernel_rfl) (fun _ _ _ h => h) (by rfl) (fun wq hq => ?_) (by assumption) ?_
            · have p0 := cell_chg hq k2
              go_simp
            simp only [Act.put, List.setIfInBounds_toArray, List.set_cons_zero, List.set_cons_succ]
            refine hs_take (fuel := 2) 8 (some 53) (.int .i64 n) rfl rfl (by kernel_rfl) (by kernel_rfl) (by kernel_rfl) (fun _ _ _ h => h) (by rfl) (fun wq hq => ?_) (by assumption) ?_
            · go_simp
            simp only [Act.put, List.setIfInBounds_toArray, List.set_cons_zero, List.set_cons_succ]
            refine hs_take (fuel := 1) 9 (some 54) (.pointer (some ⟨g, p, none⟩)) rfl rfl (by kernel_rfl) (by kernel_rfl) (by kernel_rfl) (fun _ _ _ h => h) (by rfl) (fun wq hq => ?_) (by assumption) ?_
            · go_simp
            simp only [Act.put, List.setIfInBounds_toArray, List.set_cons_zero, List.set_cons_succ]
            refine wpAnyH_ready (fuel := 0) (rs := [10]) (by kernel_rfl) (by simp) (AllReadyH.cons rfl (fun K hK => ?_) AllReadyH.nil)
            have hu4 : w7.drew.cell? ⟨g, p, none⟩ = some (.int .i64 (tat (tofN d n) f p)) := hu3
            have hf4 : w7.drew.frozen? ⟨g, p, none⟩ = false := hfz
            go_simp
            refine hK.out _ _ ?_ (fun hS => ?_)
            · exact Chg.setCell (S := fun b => b = g) (below_chg (bdrew w7) _) (p := ⟨g, p, none⟩) (.inr rfl) _
            refine wpAnyH_done (by kernel_rfl) ?_ _
            have hF := HPut.out.below (bdrew _)
            rw [← HN.out] at hF
            have HF := Lib.hid hF
            clear hF hS hS0 kA k1 k2 kC hu3 hfz hu4 hf4 cC' cA' y1' y2'
            go_wp2_with fail
            go_roundw
            case rel => exact ⟨n + 1, by omega, by go_num, HF.out⟩
            case measure => simp [intOf]; omega
          · obtain ⟨m, rfl⟩ := Int.eq_ofNat_of_zero_le (show 0 ≤ x by omega)
            have hm : m < n := by
              rcases hent with h | ⟨m', h1, h2, -⟩
              · omega
              · omega
            have hxd : decide ((m : Int) < 0) = false := by simp
            have HPa := Lib.hid (fun (wx : World) (hx : Below w5.heap.size w5 wx) => HPa0.out m wx (H.out.below (bup2 HR4.out.2.1 hx)) (by omega))
            have HYes2 := HYes.out
            have HNo2 := HNo.out
            rw [Int.toNat_natCast] at HYes2 HNo2
            replace HPa := HPa.out
            unfold pgv at HPa
            obtain ⟨qs, hqs⟩ : ∃ qs, (dat d m).stamp = qs := ⟨_, rfl⟩
            rw [hqs] at HPa HYes2 HNo2
            replace HPa := Lib.hid HPa
            clear HYes HNo hent hqs
            by_cases hlt2 : qs < s
            · have hqd : decide (qs < s) = true := by simpa using hlt2
              have HN := Lib.hid (HYes2 (.inr hlt2))
              clear HYes2 HNo2 hlt2
              go_wp2_with fail
              refine region_held_n 11 (S := fun w' => Below w5.heap.size w5 w') (by kernel_rfl) (by kernel_rfl) (bup2 (bdrew _) (bdrew _)) (fun hS0 => ?_)
              refine hs_take (fuel := 10) 0 (some 34) (.int .i64 m) rfl rfl (by kernel_rfl) (by kernel_rfl) (by kernel_rfl) (fun _ _ _ h => h) (by rfl) (fun wq hq => ?_) (by assumption) ?_
              · go_simp
              simp only [Act.put, List.setIfInBounds_toArray, List.set_cons_zero, List.set_cons_succ]
              refine hs_take (fuel := 9) 1 (some 35) (.bool false) rfl rfl (by kernel_rfl) (by kernel_rfl) (by kernel_rfl) (fun _ _ _ h => h) (by rfl) (fun wq hq => ?_) (by assumption) ?_
              · go_simp
              simp only [Act.put, List.setIfInBounds_toArray, List.set_cons_zero, List.set_cons_succ]
              refine hs_take (fuel := 8) 2 (some 36) (.bool false) rfl rfl (by kernel_rfl) (by kernel_rfl) (by kernel_rfl) (fun _ _ _ h => h) (by rfl) (fun wq hq => ?_) (by assumption) ?_
              · go_simp
              simp only [Act.put, List.setIfInBounds_toArray, List.set_cons_zero, List.set_cons_succ]
              refine hs_take (fuel := 7) 3 (some 37) (.pointer (some ⟨P, 4, none⟩)) rfl rfl (by kernel_rfl) (by kernel_rfl) (by kernel_rfl) (fun _ _ _ h => h) (by rfl) (fun wq hq => ?_) (by assumption) ?_
              · go_simp
              simp only [Act.put, List.setIfInBounds_toArray, List.set_cons_zero, List.set_cons_succ]
              refine hs_take (fuel := 6) 4 (some 38) (.int .i64 s) rfl rfl (by kernel_rfl) (by kernel_rfl) (by kernel_rfl) (fun _ _ _ h => h) (by rfl) (fun wq hq => ?_) (by assumption) ?_
              · have p0 := cell_later hq y4
                go_simp
              simp only [Act.put, List.setIfInBounds_toArray, List.set_cons_zero, List.set_cons_succ]
              refine hs_take (fuel := 5) 5 (some 39) (.slice a d.length capd) rfl rfl (by kernel_rfl) (by kernel_rfl) (by kernel_rfl) (fun _ _ _ h => h) (by rfl) (fun wq hq => ?_) (by assumption) ?_
              · go_simp
              simp only [Act.put, List.setIfInBounds_toArray, List.set_cons_zero, List.set_cons_succ]
              refine hs_take (fuel := 4) 6 (some 40) (.int .i64 m) rfl rfl (by kernel_rfl) (by kernel_rfl) (by kernel_rfl) (fun _ _ _ h => h) (by rfl) (fun wq hq => ?_) (by assumption) ?_
              · go_simp
              simp only [Act.put, List.setIfInBounds_toArray, List.set_cons_zero, List.set_cons_succ]
              refine wpAnyH_ready (fuel := 3) (rs := [7]) (by kernel_rfl) (by simp) (AllReadyH.cons rfl (fun K hK => ?_) AllReadyH.nil)
              go_simp
              refine (HPa.out _ (by assumption)).mono ?_
              rintro e w6 ⟨rfl, b6⟩
              refine hK.out _ _ ?_ (fun hS => ?_)
              · exact bup2 (by assumption) b6
              refine hs_take (fuel := 2) 8 (some 42) (.int .i64 qs) rfl rfl (by kernel_rfl) (by kernel_rfl) (by kernel_rfl) (fun _ _ _ h => h) (by rfl) (fun wq hq => ?_) (by assumption) ?_
              · go_simp
                rw [fld_stamp]
                rfl
              simp only [Act.put, List.setIfInBounds_toArray, List.set_cons_zero, List.set_cons_succ]
              refine hs_take (fuel := 1) 9 (some 43) (.bool true) rfl rfl (by kernel_rfl) (by kernel_rfl) (by kernel_rfl) (fun _ _ _ h => h) (by rfl) (fun wq hq => ?_) (by assumption) ?_
              · go_simp
              simp only [Act.put, List.setIfInBounds_toArray, List.set_cons_zero, List.set_cons_succ]
              refine hs_take (fuel := 0) 10 (some 44) (.bool true) rfl rfl (by kernel_rfl) (by kernel_rfl) (by kernel_rfl) (fun _ _ _ h => h) (by rfl) (fun wq hq => ?_) (by assumption) ?_
              · go_simp
              simp only [Act.put, List.setIfInBounds_toArray, List.set_cons_zero, List.set_cons_succ]
              refine wpAnyH_done (by kernel_rfl) ?_ _
              have hz : Below w5.heap.size w5 w6 := by assumption
              obtain ⟨y0', y1', y2', cC', cA'⟩ := And.intro (cell_later hz y0) (And.intro (cell_later hz y1) (And.intro (cell_later hz y2) (And.intro (cell_later hz cC) (cell_later hz cA))))
              obtain ⟨g', cap3', cA2, -, hu3, hfz, -, -, hput'⟩ := (HR4.out.below hz).at HRow.out (f := f) (p := p) (by omega) (by omega)
              rw [cA'] at cA2
              simp only [Option.some.injEq, Value.slice.injEq, Addr.mk.injEq, and_true, true_and] at cA2
              obtain ⟨rfl, rfl⟩ := cA2
              have HPut := Lib.hid (hput' n (by unfold I64; omega))
              have kC := And.intro cC' (show ¬ C = g from nC2)
              have k1 := And.intro y1' (show ¬ P = g from nP)
              have k2 := And.intro y2' (show ¬ P = g from nP)
              have kA := And.intro cA' (show ¬ A = g from nA)
              clear hput' y0 y1 y2 y4 cC cA cG hz y0'
              obtain ⟨w7, hw7⟩ : ∃ w7, w7 = w6 := ⟨_, rfl⟩
              rw [← hw7] at hu3 hfz HPut kC k1 k2 kA
              have HW7 := Lib.hid hw7
              clear hw7
              go_wp2_with fail
              rw [← HW7.out]
              refine region_held_n 11 (S := fun w' => Chg (fun b => b = g) w7 w') (by kernel_rfl) (by kernel_rfl) (below_chg (bdrew _) _) (fun hS0 => ?_)
              refine hs_take (fuel := 10) 0 (some 45) (.pointer (some ⟨C, 0, none⟩)) rfl rfl (by kernel_rfl) (by kernel_rfl) (by kernel_rfl) (fun _ _ _ h => h) (by rfl) (fun wq hq => ?_) (by assumption) ?_
              · go_simp
              simp only [Act.put, List.setIfInBounds_toArray, List.set_cons_zero, List.set_cons_succ]
              refine hs_take (fuel := 9) 1 (some 46) (.slice (some ⟨A, 0, none⟩) 8 cap) rfl rfl (by kernel_rfl) (by kernel_rfl) (by kernel_rfl) (fun _ _ _ h => h) (by rfl) (fun wq hq => ?_) (by assumption) ?_
              · have p0 := cell_chg hq kC
                go_simp
              simp only [Act.put, List.setIfInBounds_toArray, List.set_cons_zero, List.set_cons_succ]
              refine hs_take (fuel := 8) 2 (some 47) (.pointer (some ⟨P, 1, none⟩)) rfl rfl (by kernel_rfl) (by kernel_rfl) (by kernel_rfl) (fun _ _ _ h => h) (by rfl) (fun wq hq => ?_) (by assumption) ?_
              · go_simp
              simp only [Act.put, List.setIfInBounds_toArray, List.set_cons_zero, List.set_cons_succ]
              refine hs_take (fuel := 7) 3 (some 48) (.int .i64 f) rfl rfl (by kernel_rfl) (by kernel_rfl) (by kernel_rfl) (fun _ _ _ h => h) (by rfl) (fun wq hq => ?_) (by assumption) ?_
              · have p0 := cell_chg hq k1
                go_simp
              simp only [Act.put, List.setIfInBounds_toArray, List.set_cons_zero, List.set_cons_succ]
              refine hs_take (fuel := 6) 4 (some 49) (.pointer (some ⟨A, f, none⟩)) rfl rfl (by kernel_rfl) (by kernel_rfl) (by kernel_rfl) (fun _ _ _ h => h) (by rfl) (fun wq hq => ?_) (by assumption) ?_
              · go_simp
              simp only [Act.put, List.setIfInBounds_toArray, List.set_cons_zero, List.set_cons_succ]
              refine hs_take (fuel := 5) 5 (some 50) (.slice (some ⟨g, 0, none⟩) 6 cap3) rfl rfl (by kernel_rfl) (by kernel_rfl) (by kernel_rfl) (fun _ _ _ h => h) (by rfl) (fun wq hq => ?_) (by assumption) ?_
              · have p0 := cell_chg hq kA
                go_simp
              simp only [Act.put, List.setIfInBounds_toArray, List.set_cons_zero, List.set_cons_succ]
              refine hs_take (fuel := 4) 6 (some 51) (.pointer (some ⟨P, 2, none⟩)) rfl rfl (by kernel_rfl) (by kernel_rfl) (by kernel_rfl) (fun _ _ _ h => h) (by rfl) (fun wq hq => ?_) (by assumption) ?_
              · go_simp
              simp only [Act.put, List.setIfInBounds_toArray, List.set_cons_zero, List.set_cons_succ]
              refine hs_take (fuel := 3) 7 (some 52) (.int .i64 p) rfl rfl (by kernel_rfl) (by kernel_rfl) (by kernel_rfl) (fun _ _ _ h => h) (by rfl) (fun wq hq => ?_) (by assumption) ?_
              · have p0 := cell_chg hq k2
                go_simp
              simp only [Act.put, List.setIfInBounds_toArray, List.set_cons_zero, List.set_cons_succ]
              refine hs_take (fuel := 2) 8 (some 53) (.int .i64 n) rfl rfl (by kernel_rfl) (by kernel_rfl) (by kernel_rfl) (fun _ _ _ h => h) (by rfl) (fun wq hq => ?_) (by assumption) ?_
              · go_simp
              simp only [Act.put, List.setIfInBounds_toArray, List.set_cons_zero, List.set_cons_succ]
              refine hs_take (fuel := 1) 9 (some 54) (.pointer (some ⟨g, p, none⟩)) rfl rfl (by kernel_rfl) (by kernel_rfl) (by kernel_rfl) (fun _ _ _ h => h) (by rfl) (fun wq hq => ?_) (by assumption) ?_
              · go_simp
              simp only [Act.put, List.setIfInBounds_toArray, List.set_cons_zero, List.set_cons_succ]
              refine wpAnyH_ready (fuel := 0) (rs := [10]) (by kernel_rfl) (by simp) (AllReadyH.cons rfl (fun K hK => ?_) AllReadyH.nil)
              have hu4 : w7.drew.cell? ⟨g, p, none⟩ = some (.int .i64 (tat (tofN d n) f p)) := hu3
              have hf4 : w7.drew.frozen? ⟨g, p, none⟩ = false := hfz
              go_simp
              refine hK.out _ _ ?_ (fun hS => ?_)
              · exact Chg.setCell (S := fun b => b = g) (below_chg (bdrew w7) _) (p := ⟨g, p, none⟩) (.inr rfl) _
              refine wpAnyH_done (by kernel_rfl) ?_ _
              have hF := HPut.out.below (bdrew _)
              rw [← HN.out] at hF
              have HF := Lib.hid hF
              clear hF hS hS0 kA k1 k2 kC hu3 hfz hu4 hf4 cC' cA' y1' y2'
              go_wp2_with fail
              go_roundw
              case rel => exact ⟨n + 1, by omega, by go_num, HF.out⟩
              case measure => simp [intOf]; omega
            · have hqd : decide (qs < s) = false := by simpa using hlt2
              have HN := Lib.hid (HNo2 (by omega))
              clear HYes2 HNo2 hlt2
              go_wp2_with fail
              refine region_held_n 11 (S := fun w' => Below w5.heap.size w5 w') (by kernel_rfl) (by kernel_rfl) (bup2 (bdrew _) (bdrew _)) (fun hS0 => ?_)
              refine hs_take (fuel := 10) 0 (some 34) (.int .i64 m) rfl rfl (by kernel_rfl) (by kernel_rfl) (by kernel_rfl) (fun _ _ _ h => h) (by rfl) (fun wq hq => ?_) (by assumption) ?_
              · go_simp
              simp only [Act.put, List.setIfInBounds_toArray, List.set_cons_zero, List.set_cons_succ]
              refine hs_take (fuel := 9) 1 (some 35) (.bool false) rfl rfl (by kernel_rfl) (by kernel_rfl) (by kernel_rfl) (fun _ _ _ h => h) (by rfl) (fun wq hq => ?_) (by assumption) ?_
              · go_simp
              simp only [Act.put, List.setIfInBounds_toArray, List.set_cons_zero, List.set_cons_succ]
              refine hs_take (fuel := 8) 2 (some 36) (.bool false) rfl rfl (by kernel_rfl) (by kernel_rfl) (by kernel_rfl) (fun _ _ _ h => h) (by rfl) (fun wq hq => ?_) (by assumption) ?_
              · go_simp
              simp only [Act.put, List.setIfInBounds_toArray, List.set_cons_zero, List.set_cons_succ]
              refine hs_take (fuel := 7) 3 (some 37) (.pointer (some ⟨P, 4, none⟩)) rfl rfl (by kernel_rfl) (by kernel_rfl) (by kernel_rfl) (fun _ _ _ h => h) (by rfl) (fun wq hq => ?_) (by assumption) ?_
              · go_simp
              simp only [Act.put, List.setIfInBounds_toArray, List.set_cons_zero, List.set_cons_succ]
              refine hs_take (fuel := 6) 4 (some 38) (.int .i64 s) rfl rfl (by kernel_rfl) (by kernel_rfl) (by kernel_rfl) (fun _ _ _ h => h) (by rfl) (fun wq hq => ?_) (by assumption) ?_
              · have p0 := cell_later hq y4
                go_simp
              simp only [Act.put, List.setIfInBounds_toArray, List.set_cons_zero, List.set_cons_succ]
              refine hs_take (fuel := 5) 5 (some 39) (.slice a d.length capd) rfl rfl (by kernel_rfl) (by kernel_rfl) (by kernel_rfl) (fun _ _ _ h => h) (by rfl) (fun wq hq => ?_) (by assumption) ?_
              · go_simp
              simp only [Act.put, List.setIfInBounds_toArray, List.set_cons_zero, List.set_cons_succ]
              refine hs_take (fuel := 4) 6 (some 40) (.int .i64 m) rfl rfl (by kernel_rfl) (by kernel_rfl) (by kernel_rfl) (fun _ _ _ h => h) (by rfl) (fun wq hq => ?_) (by assumption) ?_
              · go_simp
              simp only [Act.put, List.setIfInBounds_toArray, List.set_cons_zero, List.set_cons_succ]
              refine wpAnyH_ready (fuel := 3) (rs := [7]) (by kernel_rfl) (by simp) (AllReadyH.cons rfl (fun K hK => ?_) AllReadyH.nil)
              go_simp
              refine (HPa.out _ (by assumption)).mono ?_
              rintro e w6 ⟨rfl, b6⟩
              refine hK.out _ _ ?_ (fun hS => ?_)
              · exact bup2 (by assumption) b6
              refine hs_take (fuel := 2) 8 (some 42) (.int .i64 qs) rfl rfl (by kernel_rfl) (by kernel_rfl) (by kernel_rfl) (fun _ _ _ h => h) (by rfl) (fun wq hq => ?_) (by assumption) ?_
              · go_simp
                rw [fld_stamp]
                rfl
              simp only [Act.put, List.setIfInBounds_toArray, List.set_cons_zero, List.set_cons_succ]
              refine hs_take (fuel := 1) 9 (some 43) (.bool false) rfl rfl (by kernel_rfl) (by kernel_rfl) (by kernel_rfl) (fun _ _ _ h => h) (by rfl) (fun wq hq => ?_) (by assumption) ?_
              · go_simp
              simp only [Act.put, List.setIfInBounds_toArray, List.set_cons_zero, List.set_cons_succ]
              refine hs_take (fuel := 0) 10 (some 44) (.bool false) rfl rfl (by kernel_rfl) (by kernel_rfl) (by kernel_rfl) (fun _ _ _ h => h) (by rfl) (fun wq hq => ?_) (by assumption) ?_
              · go_simp
              simp only [Act.put, List.setIfInBounds_toArray, List.set_cons_zero, List.set_cons_succ]
              refine wpAnyH_done (by kernel_rfl) ?_ _
              have hz : Below w5.heap.size w5 w6 := by assumption
              have HF := Lib.hid (HR4.out.below hz)
              clear hz y0 y1 y2 y4 cC cA cG
              go_wp2_with fail
              go_roundw
              case rel => exact ⟨n + 1, by omega, by go_num, by rw [HN.out]; exact HF.out⟩
              case measure => simp [intOf]; omega
      · have hni : ¬ (n : Int) < (d.length : Int) * 4 := by omega
        obtain rfl : n = 4 * d.length := by omega
        obtain ⟨cC, -⟩ := one_at HR.out.2.2.1
        obtain ⟨d2, d3⟩ := one_at HR.out.2.2.2.1
        go_wp2_with fail
        have hto := HTO.out
        have hc : Chg (fun b => b = w.heap.size) wo (wo.setCell ⟨w.heap.size, 0, none⟩ (.slice (some ⟨A, 0, none⟩) 8 cap)) := Chg.setCell (S := fun b => b = w.heap.size) (Chg.refl _ wo) (p := ⟨w.heap.size, 0, none⟩) (.inr rfl) _
        have hO := HR.out.1.chg hc (fun b hb _ hs => by have := HR.out.2.2.2.2.1; omega)
        rw [← hto] at hO
        have h1 := (Array.getElem?_eq_some_iff.1 HR.out.2.2.1).1
        have h2 := hc.size
        have hO2 := (hO.wide (lo' := w.heap.size) (by have := HR.out.2.2.2.2.1; omega)).mono (hi' := (wo.setCell ⟨w.heap.size, 0, none⟩ (.slice (some ⟨A, 0, none⟩) 8 cap)).heap.size) (by omega)
        have hB2 := HR.out.2.1.trans (hc.below HR.out.2.1.size (fun i hi he => by omega))
        exact bodyPost_ret (v := .agg #[.slice (some ⟨A, 0, none⟩) 8 cap]) (by simp [results, Try.results24, go_sem, d2]) rfl ⟨_, rfl, hO2, hB2⟩

end Go.Proofs.Ytjmofmdcegefgaa

