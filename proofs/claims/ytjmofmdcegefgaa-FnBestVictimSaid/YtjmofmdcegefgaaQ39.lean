/-
  Texts of this claim, laid together: Lvh, LfGv.
-/
import Derived.Test.YtjmofmdcegefgaaQ24
import Derived.Test.YtjmofmdcegefgaaQ36
import Derived.Test.YtjmofmdcegefgaaQ37
import Derived.Test.YtjmofmdcegefgaaQ38
namespace Go.Proofs.Ytjmofmdcegefgaa
open Go.RowKit
set_option linter.unusedSimpArgs false
set_option linter.unusedVariables false
set_option linter.unnecessarySimpa false

structure LvH (w0 : World) (hi B B2 : Nat) (v : Value) (d : List Bk) (tv : Value) (t : List (List Int)) (h : Hd) (w : World) : Prop where
  s : LvS w0 hi B v d tv t w
  hb : w.heap[B2]? = some (hbox h)
theorem LvH.below {w0 w w' : World} {hi B B2 : Nat} {v tv : Value} {d : List Bk} {t : List (List Int)} {h : Hd} (k : LvH w0 hi B B2 v d tv t h w) (b : Below w.heap.size w w') : LvH w0 hi B B2 v d tv t h w' :=
  ⟨k.s.below b, box_keep k.hb b⟩
theorem lvh_new {w0 w1 : World} {v tv : Value} {d : List Bk} {t : List (List Int)} {h : Hd} (h1 : RD w1 w0.heap.size w1.heap.size v d) (h2 : RT w1 w0.heap.size w1.heap.size tv t) (b : Below w0.heap.size w0 w1) :
    LvH w0 w1.heap.size w1.heap.size (w1.heap.size + 1) v d tv t h ((w1.alloc (.cells #[tv] 26)).alloc (hbox h)) := by
  have e1 : (w1.alloc (.cells #[tv] 26)).heap.size = w1.heap.size + 1 := by simp
  have x6 := heap_alloc_new (w1.alloc (.cells #[tv] 26)) (hbox h)
  rw [e1] at x6
  exact ⟨(lvs_new h1 h2 b).below (balloc _ _), x6⟩
theorem LvH.cells {w0 w : World} {hi B B2 : Nat} {v tv : Value} {d : List Bk} {t : List (List Int)} {x y z : Int} (k : LvH w0 hi B B2 v d tv t ⟨x, y, z⟩ w) :
    w.cell? ⟨B, 0, none⟩ = some tv ∧ w.cell? ⟨B2, 0, none⟩ = some (.int .i64 x) ∧ w.cell? ⟨B2, 1, none⟩ = some (.int .i64 y) ∧ w.cell? ⟨B2, 2, none⟩ = some (.int .i64 z) := by
  obtain ⟨⟨t0, t1, t2⟩, -⟩ := three_at (show w.heap[B2]? = some (.cells #[.int .i64 x, .int .i64 y, .int .i64 z] 36 (0, 0)) from k.hb)
  exact ⟨k.s.cell, t0, t1, t2⟩

theorem may_iff {d : List Bk} {cs : List Int} {h : Hd} {k : Nat} (hv : dvOk d = true) (hk : k < d.length) (hc : k < cs.length) :
    may d cs h k = true ↔ bnext d[k] = -1 ∧ cs[k] < 4 ∧ (k : Int) ≠ h.hot ∧ (k : Int) ≠ h.warm ∧ (k : Int) ≠ h.cold := by
  have h1 := nfull_all (dv_blk hv hk)
  unfold may isHd
  rw [getD_in hc, getDb_in hk]
  simp only [Bool.and_eq_true, decide_eq_true_eq, Bool.not_eq_true', Bool.or_eq_false_iff, beq_eq_false_iff_ne, ne_eq, h1]
  constructor
  · rintro ⟨⟨g1, g2⟩, ⟨g3, g4⟩, g5⟩
    exact ⟨g1, g2, g3, g4, g5⟩
  · rintro ⟨g1, g2, g3, g4, g5⟩
    exact ⟨⟨g1, g2⟩, ⟨g3, g4⟩, g5⟩
theorem gv_cases (d : List Bk) (t : List (List Int)) (h : Hd) :
    (gv d t h = -1 ∧ ((bcs d t).length = 0 ∨ hdOk d h = false)) ∨ (hdOk d h = true ∧ tabVal t = true ∧ dvOk d = true ∧ (bcs d t).length = d.length ∧ (1 ≤ d.length ∧ d.length ≤ 12) ∧ gv d t h = gvN d (bcs d t) h d.length) := by
  by_cases h1 : hdOk d h = true
  · by_cases h2 : tabVal t = true
    · right
      have hv : dvOk d = true := (hdOk_iff.1 h1).1
      exact ⟨h1, h2, hv, bcs_len_yes hv h2, dv_len hv, gv_yes h1 h2⟩
    · left
      have h2' : tabVal t = false := by simpa using h2
      exact ⟨gv_no2 h2', .inl (by rw [bcs_tb h2']; rfl)⟩
  · left
    have h1' : hdOk d h = false := by simpa using h1
    exact ⟨gv_no1 h1', .inr h1'⟩
theorem bv_cases {d : List Bk} {t : List (List Int)} {h : Hd} {now : Int} (hn0 : 0 ≤ now) (hn1 : now ≤ 1000000) :
    (bv d t h now = -1 ∧ gv d t h = -1) ∨ ∃ (m : Nat) (hm : m < d.length), bv d t h now = m ∧ 0 ≤ gv d t h ∧ bnext d[m] = -1 ∧ (m : Int) ≠ h.hot ∧ (m : Int) ≠ h.warm ∧ (m : Int) ≠ h.cold := by
  rcases gv_cases d t h with ⟨e1, e2⟩ | ⟨h1, h2, hv, hl, hd1, e⟩
  · left
    refine ⟨bv_no ?_, e1⟩
    rcases e2 with e2 | e2
    · by_cases g : hdOk d h = true
      · right; left
        have hv : dvOk d = true := (hdOk_iff.1 g).1
        cases ht : tabVal t
        · rfl
        · have := bcs_len_yes hv ht
          have := (dv_len hv).1
          omega
      · exact .inl (by simpa using g)
    · exact .inl e2
  · have hs : ∀ k, k < d.length → may d (bcs d t) h k = true → 0 ≤ vscore ((bcs d t).getD k 0) (ageOf (d.getD k bk0) now) := by
      intro k hk _
      have hkx : k < (bcs d t).length := by omega
      have h4 := bcs_four d t (List.getElem?_eq_getElem hkx)
      have ha := ageOf_bd (dv_blk hv hk) hn0 hn1
      rw [getD_in hkx, getDb_in hk]
      exact vscore_pos h4.1 h4.2 ha.1 ha.2
    obtain ⟨i1, i2⟩ := bvN_inv d (bcs d t) h now d.length hs d.length (Nat.le_refl _)
    obtain ⟨j1, j2⟩ := gvN_inv d (bcs d t) h d.length
    rw [bv_yes h1 h2 ⟨hn0, hn1⟩, e]
    rcases i1 with e3 | ⟨m, e3, hm, hmm, -⟩
    · left
      rw [e3]
      refine ⟨rfl, ?_⟩
      rcases j1 with e4 | ⟨m, -, hm, hmm⟩
      · exact e4
      · have := i2 m hm hmm
        rw [e3] at this
        simp at this
    · right
      obtain ⟨m', e4, -⟩ := j2 m hm hmm
      have hmx : m < (bcs d t).length := by omega
      obtain ⟨g1, -, g3, g4, g5⟩ := (may_iff hv hm hmx).1 hmm
      exact ⟨m, hm, e3, by omega, g1, g3, g4, g5⟩
theorem gv_bd (d : List Bk) (t : List (List Int)) (h : Hd) : -1 ≤ gv d t h ∧ gv d t h ≤ 12 := by
  rcases gv_cases d t h with ⟨e1, -⟩ | ⟨h1, h2, hv, hl, hd1, e⟩
  · omega
  · have := gvN_le d (bcs d t) h d.length
    omega

theorem implGv_is (v tv : Value) (d : List Bk) (t : List (List Int)) (x y z : Int) (lo hi lo2 hi2 : Nat) (w : World) (hd : RD w lo hi v d) (h2 : RT w lo2 hi2 tv t) (hh : HdI ⟨x, y, z⟩) (n : Int) (hn : n = gv d t ⟨x, y, z⟩) :
    Calls Try.prog 16 #[v, .agg #[tv], .agg #[.int .i64 x, .int .i64 y, .int .i64 z]] w fun e w' => e = .returned (.int .i64 n) ∧ Below w.heap.size w w' := by
  subst hn
  exact implGv_any v tv d t ⟨x, y, z⟩ lo hi lo2 hi2 w hd h2 hh
theorem specGv_is (v tv : Value) (d : List Bk) (t : List (List Int)) (x y z : Int) (lo hi lo2 hi2 : Nat) (w : World) (hd : RD w lo hi v d) (h2 : RT w lo2 hi2 tv t) (hh : HdI ⟨x, y, z⟩) (hdl : d.length ≤ 1048576) (n : Int) (hn : n = gv d t ⟨x, y, z⟩) :
    Calls Try.prog 17 #[v, .agg #[tv], .agg #[.int .i64 x, .int .i64 y, .int .i64 z]] w fun e w' => e = .returned (.int .i64 n) ∧ Below w.heap.size w w' := by
  subst hn
  exact specGv_any v tv d t ⟨x, y, z⟩ lo hi lo2 hi2 w hd h2 hh hdl
theorem implHdv_is (v : Value) (d : List Bk) (x y z : Int) (lo hi : Nat) (w : World) (hd : RD w lo hi v d) (hh : HdI ⟨x, y, z⟩) (b : Bool) (hb : hdOk d ⟨x, y, z⟩ = b) :
    Calls Try.prog 18 #[v, .agg #[.int .i64 x, .int .i64 y, .int .i64 z]] w fun e w' => e = .returned (.bool b) ∧ Below w.heap.size w w' := by
  subst hb
  exact implHdv_any v d ⟨x, y, z⟩ lo hi w hd hh
theorem implNext_is (v : Value) (b : Bk) (lo hi : Nat) (w : World) (h : RB1 w lo hi v b) (y : Int) (hy : y = bnext b) :
    Calls Try.prog 19 #[v] w fun e w' => e = .returned (.int .i64 y) ∧ Below w.heap.size w w' := by
  subst hy
  exact implNext_any v b lo hi w h

end Go.Proofs.Ytjmofmdcegefgaa

namespace Go.Proofs.Ytjmofmdcegefgaa
open Go.RowKit
set_option linter.unusedSimpArgs false
set_option linter.unusedVariables false
set_option linter.unnecessarySimpa false

set_option maxHeartbeats 8000000 in
set_option maxRecDepth 4000 in
theorem FnGreedyVictim_walk (w : World) (v : Value) (bs : List Int) (h : RB w 0 w.heap.size v bs) :
    Calls Try.prog 4 #[v] w fun e w' => e = .returned (.bool true) ∧ Below w.heap.size w w' := by
  have HB := Lib.hid h
  obtain ⟨a, cap, b, off, rfl, -⟩ := h.open
  clear h
  by_cases hl : bs.length ≤ 1048576
  · go_enter Try.func4, Try.ntmps4
    go_wp2_with fail
    refine (dGreedyVictim _ _ bs HB.out).mono ?_
    rintro e w1 ⟨v1, d, v2, t, ⟨A, B, C⟩, rfl, hrd, hsm, hrt, hhi, b1⟩
    obtain ⟨a1, cap1, b1', off1, rfl, -, -, q3, -⟩ := hrd.open
    obtain ⟨a2, cap2, b2', off2, rfl, -⟩ := hrt.open
    have H1 := Lib.hid (lvh_new (h := ⟨A, B, C⟩) hrd hrt b1)
    have HHI := Lib.hid hhi
    have hdl := hsm.1
    have HO := Lib.hid (gv_cases d t ⟨A, B, C⟩)
    have hgb := gv_bd d t ⟨A, B, C⟩
    obtain ⟨n, hn⟩ : ∃ n, n = gv d t ⟨A, B, C⟩ := ⟨_, rfl⟩
    have HN := Lib.hid hn
    rw [← hn] at HO hgb
    unfold hbox at H1
    unfold hdv
    simp only at H1 ⊢
    clear hrd hrt b1 hsm HB hn hhi
    go_wp2_with fail
    refine (implGv_is _ _ d t A B C _ _ _ _ _ H1.out.s.rd H1.out.s.rt HHI.out n HN.out).mono ?_
    rintro e w2 ⟨rfl, b2⟩
    have H2 := Lib.hid (H1.out.below b2)
    obtain ⟨d1, d2, d3, d4⟩ := H2.out.cells
    clear b2 H1
    go_wp2_with fail
    refine (specGv_is _ _ d t A B C _ _ _ _ _ H2.out.s.rd H2.out.s.rt HHI.out (by omega) n HN.out).mono ?_
    rintro e w3 ⟨rfl, b3⟩
    have H3 := Lib.hid (H2.out.below b3)
    clear b3 H2 d1 d2 d3 d4
    obtain ⟨d1, d2, d3, d4⟩ := H3.out.cells
    go_wp2_with fail
    refine (implBcs_any _ _ d t _ _ _ _ _ H3.out.s.rd H3.out.s.rt).mono ?_
    rintro e w4 ⟨vx, rfl, ox, b4⟩
    have hx0 := bcs_len d t
    obtain ⟨xs, hxs⟩ : ∃ xs, xs = bcs d t := ⟨_, rfl⟩
    rw [← hxs] at ox hx0 HO
    have H4 := Lib.hid (H3.out.below b4)
    have HX := Lib.hid (ox.ri.wide (Nat.zero_le _) (Nat.le_refl _))
    obtain ⟨a3, cap3, b3', off3, rfl, q1, q2, s3, -⟩ := ox.ri.open
    clear b4 H3 ox hxs d1 d2 d3 d4 HN
    rcases HO.out with ⟨e1, e2⟩ | ⟨g1, g2, hv, hxl, ⟨hd1, hd2⟩, e1⟩
    · subst e1
      have HE2 := Lib.hid e2
      clear HO e2
      by_cases hx : xs.length = 0
      · have HF := Lib.hid H4.out.s.bel
        generalize xs.length = n0 at hx hx0 q1
        subst hx
        clear H4 HX HE2 s3
        go_wp2_with fail
        refine (alive_any _).mono ?_
        rintro e w' ⟨rfl, rfl⟩
        go_wp2_with fail
        all_goals (go_ret; exact ⟨rfl, HF.out⟩)
      · have hne : ((xs.length : Int) == 0) = false := by simp; intro e; rw [e] at hx; simp at hx
        have HK : Hid (hdOk d ⟨A, B, C⟩ = false) := Lib.hid (HE2.out.elim (fun e => absurd e hx) id)
        obtain ⟨d1, d2, d3, d4⟩ := H4.out.cells
        clear s3
        go_wp2_with fail
        refine (implHdv_is _ d A B C _ _ _ H4.out.s.rd HHI.out false HK.out).mono ?_
        rintro e w5 ⟨rfl, b5⟩
        have HF := Lib.hid (H4.out.below b5).s.bel
        clear b5 H4 d1 d2 d3 d4
        go_wp2_with fail
        refine (alive_any _).mono ?_
        rintro e w' ⟨rfl, rfl⟩
        go_wp2_with fail
        all_goals (go_ret; exact ⟨rfl, HF.out⟩)
    · obtain ⟨j1, j2⟩ := gvN_inv d xs ⟨A, B, C⟩ d.length
      rw [← e1] at j1 j2
      have HJ1 := Lib.hid j1
      have HJ2 := Lib.hid j2
      have HV := Lib.hid hv
      have HK := Lib.hid g1
      have HXL := Lib.hid hxl
      have hnl : n < (xs.length : Int) := by
        rcases j1 with e | ⟨m, e, hm, -⟩ <;> omega
      have hnld : decide ((xs.length : Int) ≤ n) = false := by simp; omega
      have hne : ((xs.length : Int) == 0) = false := by simp; intro e; rw [e] at hxl; simp at hxl; omega
      have hxp : 0 < xs.length := by omega
      obtain rfl := q3 (by omega)
      obtain rfl := s3 hxp
      obtain ⟨d1, d2, d3, d4⟩ := H4.out.cells
      clear HO j1 j2 hv g1 g2 e1 q3 s3 hxl
      go_wp2_with fail
      refine (implHdv_is _ d A B C _ _ _ H4.out.s.rd HHI.out true HK.out).mono ?_
      rintro e w5 ⟨rfl, b5⟩
      have H5 := Lib.hid (And.intro (H4.out.below b5) ((HX.out.below b5).wide (Nat.le_refl _) b5.size))
      clear b5 H4 HX d1 d2 d3 d4
      go_wp2_with fail
      go_loopw [8, 9] (fun i _ wr => ∃ k : Nat, k ≤ xs.length ∧ i = .int .i64 k ∧ LvH w w1.heap.size w1.heap.size (w1.heap.size + 1) (.slice (some ⟨b1', off1, none⟩) d.length cap1) d (.slice a2 t.length cap2) t ⟨A, B, C⟩ wr ∧ RI wr 0 wr.heap.size (.slice (some ⟨b3', off3, none⟩) xs.length cap3) xs) (fun i _ _ => 20 - (intOf i).toNat)
      case atStart => exact ⟨0, by omega, rfl, H5.out⟩
      case round =>
        obtain ⟨k, hk, rfl, hR⟩ := hrel
        obtain ⟨wo, rfl⟩ : ∃ wo : World, wo = wr := ⟨_, rfl⟩
        have HR := Lib.hid hR
        clear hR H5
        by_cases hlt : k < xs.length
        · have hkd : k < d.length := by have := HXL.out; omega
          obtain ⟨a', cap', b', off', c1, c2, hp, hw, -⟩ := HR.out.1.s.rd.at k hkd
          have HRB := Lib.hid (RB1.mk' hp hw)
          have hM := may_iff (h := ⟨A, B, C⟩) HV.out hkd hlt
          simp only at hM
          obtain ⟨y, hy⟩ : ∃ y, y = bnext d[k] := ⟨_, rfl⟩
          have HY := Lib.hid hy
          rw [← hy] at hM
          have HM := Lib.hid hM
          generalize d[k] = bk at c1 c2 hp hw HRB HY
          have hki : (k : Int) < (xs.length : Int) := by omega
          have hkid : (k : Int) < (d.length : Int) := by omega
          clear hp hw hM hy
          go_wp2_with fail
          refine (implNext_is _ bk _ _ _ HRB.out y HY.out).mono ?_
          rintro e w6 ⟨rfl, b6⟩
          have HQ := Lib.hid (And.intro (HR.out.1.below b6) ((HR.out.2.below b6).wide (Nat.le_refl _) b6.size))
          obtain ⟨d1, d2, d3, d4⟩ := HQ.out.1.cells
          obtain ⟨a5, cap5, b5, off5, e5, -, -, s3, s4⟩ := HQ.out.2.open
          obtain rfl := s3 hxp
          simp only [Value.slice.injEq, Option.some.injEq, Addr.mk.injEq, and_true, true_and] at e5
          obtain ⟨⟨rfl, rfl⟩, rfl⟩ := e5
          have S4 := Lib.hid s4
          clear b6 HR c1 c2 HRB HY s3 s4
          by_cases hmb : may d xs ⟨A, B, C⟩ k = true
          · obtain ⟨f1, f2, f3, f4, f5⟩ := HM.out.1 hmb
            obtain ⟨m, rfl, hle⟩ := HJ2.out k hkd hmb
            have hml : m < xs.length := by omega
            rw [getD_in hml, getD_in hlt] at hle
            have cm := S4.out m hml
            have ck := S4.out k hlt
            generalize xs[m] = ym at cm hle
            generalize xs[k] = yk at ck hle f2
            subst f1
            have g1 : decide (yk < 4) = true := by simpa using f2
            have g2 : ((k : Int) != A) = true := by simpa using f3
            have g3 : ((k : Int) != B) = true := by simpa using f4
            have g4 : ((k : Int) != C) = true := by simpa using f5
            have g5 : decide (yk < ym) = false := by simpa using hle
            have g6 : decide ((m : Int) < 0) = false := by simp
            clear HM HJ1 HJ2 S4 hmb f2 f3 f4 f5 hle
            cases hkm : ((k : Int) == (m : Int))
            all_goals
              go_wp2_with fail
              go_quiet (fail)
              go_wp2_with fail
              go_roundw
              case rel => exact ⟨k + 1, by omega, by go_num, HQ.out.1.below (bdN _ _), (HQ.out.2.below (bdN _ _)).wide (Nat.le_refl _) (bdN _ _).size⟩
              case measure => simp [intOf]; omega
          · have hkn : ((k : Int) == n) = false := by
              simp only [beq_eq_false_iff_ne, ne_eq]
              intro e
              rcases HJ1.out with e1 | ⟨m, e1, hm, hmm⟩
              · omega
              · have : k = m := by omega
                rw [this] at hmb
                exact hmb hmm
            have ck := S4.out k hlt
            have hsp := HM.out
            generalize xs[k] = yk at ck hsp
            have hsp2 : y ≠ -1 ∨ (y = -1 ∧ ¬ yk < 4) ∨ (y = -1 ∧ yk < 4 ∧ (k : Int) = A) ∨ (y = -1 ∧ yk < 4 ∧ (k : Int) ≠ A ∧ (k : Int) = B) ∨ (y = -1 ∧ yk < 4 ∧ (k : Int) ≠ A ∧ (k : Int) ≠ B ∧ (k : Int) = C) := by
              by_cases x1 : y = -1
              · by_cases x2 : yk < 4
                · by_cases x3 : (k : Int) = A
                  · exact .inr (.inr (.inl ⟨x1, x2, x3⟩))
                  · by_cases x4 : (k : Int) = B
                    · exact .inr (.inr (.inr (.inl ⟨x1, x2, x3, x4⟩)))
                    · by_cases x5 : (k : Int) = C
                      · exact .inr (.inr (.inr (.inr ⟨x1, x2, x3, x4, x5⟩)))
                      · exact absurd (hsp.2 ⟨x1, x2, x3, x4, x5⟩) hmb
                · exact .inr (.inl ⟨x1, x2⟩)
              · exact .inl x1
            clear hsp HM HJ1 HJ2 S4 hmb
            rcases hsp2 with f1 | ⟨rfl, f2⟩ | ⟨rfl, f2, f3⟩ | ⟨rfl, f2, f3, f4⟩ | ⟨rfl, f2, f3, f4, f5⟩
            · have x1 : (y == -1) = false := by simpa using f1
              clear f1
              go_wp2_with fail
              go_quiet (fail)
              go_wp2_with fail
              go_roundw
              case rel => exact ⟨k + 1, by omega, by go_num, HQ.out.1.below (bdN _ _), (HQ.out.2.below (bdN _ _)).wide (Nat.le_refl _) (bdN _ _).size⟩
              case measure => simp [intOf]; omega
            · have x2 : decide (yk < 4) = false := by simpa using f2
              clear f2
              go_wp2_with fail
              go_quiet (fail)
              go_wp2_with fail
              go_roundw
              case rel => exact ⟨k + 1, by omega, by go_num, HQ.out.1.below (bdN _ _), (HQ.out.2.below (bdN _ _)).wide (Nat.le_refl _) (bdN _ _).size⟩
              case measure => simp [intOf]; omega
            · have x2 : decide (yk < 4) = true := by simpa using f2
              have x3 : ((k : Int) != A) = false := by simpa using f3
              clear f2 f3
              go_wp2_with fail
              go_quiet (fail)
              go_wp2_with fail
              go_roundw
              case rel => exact ⟨k + 1, by omega, by go_num, HQ.out.1.below (bdN _ _), (HQ.out.2.below (bdN _ _)).wide (Nat.le_refl _) (bdN _ _).size⟩
              case measure => simp [intOf]; omega
            · have x2 : decide (yk < 4) = true := by simpa using f2
              have x3 : ((k : Int) != A) = true := by simpa using f3
              have x4 : ((k : Int) != B) = false := by simpa using f4
              clear f2 f3 f4
              go_wp2_with fail
              go_quiet (fail)
              go_wp2_with fail
              go_roundw
              case rel => exact ⟨k + 1, by omega, by go_num, HQ.out.1.below (bdN _ _), (HQ.out.2.below (bdN _ _)).wide (Nat.le_refl _) (bdN _ _).size⟩
              case measure => simp [intOf]; omega
            · have x2 : decide (yk < 4) = true := by simpa using f2
              have x3 : ((k : Int) != A) = true := by simpa using f3
              have x4 : ((k : Int) != B) = true := by simpa using f4
              have x5 : ((k : Int) != C) = false := by simpa using f5
              clear f2 f3 f4 f5
              go_wp2_with fail
              go_quiet (fail)
              go_wp2_with fail
              go_roundw
              case rel => exact ⟨k + 1, by omega, by go_num, HQ.out.1.below (bdN _ _), (HQ.out.2.below (bdN _ _)).wide (Nat.le_refl _) (bdN _ _).size⟩
              case measure => simp [intOf]; omega
        · have hki : ¬ (k : Int) < (xs.length : Int) := by omega
          have hn1 : decide ((-1 : Int) ≤ n) = true := by simpa using hgb.1
          have HF := Lib.hid HR.out.1.s.bel
          go_wp2_with fail
          all_goals (go_ret; exact ⟨rfl, HF.out⟩)
  · go_enter Try.func4, Try.ntmps4
    go_wp2_with fail
    all_goals (go_ret; exact ⟨rfl, Below.refl _ _⟩)

end Go.Proofs.Ytjmofmdcegefgaa

