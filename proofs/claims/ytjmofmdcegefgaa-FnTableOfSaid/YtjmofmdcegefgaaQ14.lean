/-
  Texts of this claim, laid together: Tbq.
-/
import Derived.Test.YtjmofmdcegefgaaQ09
import Derived.Test.YtjmofmdcegefgaaQ10
namespace Go.Proofs.Ytjmofmdcegefgaa
open Go.RowKit

def PutT (t : List (List Int)) (f p x : Int) (w : World) (e : Ending) (w' : World) : Prop :=
  ∃ v, e = .returned (.tuple #[.agg #[v], .bool (tput t f p x).2]) ∧ OT w' w.heap.size w'.heap.size v (tput t f p x).1 ∧ Below w.heap.size w w'
theorem tput_in {t : List (List Int)} {f p : Nat} {x : Int} (hv : tabVal t = true) (hf : f < t.length) (hp : p ≤ 5) (hx0 : -1 ≤ x) (hx1 : x ≤ 47) :
    tput t f p x = if tabVal (t.set f (t[f].set p x)) = true then (t.set f (t[f].set p x), true) else (t, false) := by
  have h8 := tab_len hv
  have e1 : (f : Int).toNat = f := by omega
  have e2 : (p : Int).toNat = p := by omega
  rw [tput, if_pos ⟨hv, by rw [inFP, inB_yes (by omega) (by omega), inB_yes (by omega) (by omega)]; rfl, inB_yes hx0 hx1⟩, e1, e2, tset_eq hf]
theorem tput_out {t : List (List Int)} {f p x : Int} (h : ¬ (tabVal t = true ∧ (0 ≤ f ∧ f ≤ 7) ∧ (0 ≤ p ∧ p ≤ 5) ∧ (-1 ≤ x ∧ x ≤ 47))) : tput t f p x = ([], false) := by
  rw [tput, if_neg]
  rintro ⟨h1, h2, h3⟩
  rw [inFP, Bool.and_eq_true] at h2
  refine h ⟨h1, ?_, ?_, ?_⟩
  · refine Classical.byContradiction fun hh => ?_
    rw [inB_no (by omega)] at h2
    cases h2.1
  · refine Classical.byContradiction fun hh => ?_
    rw [inB_no (n := p) (by omega)] at h2
    cases h2.2
  · refine Classical.byContradiction fun hh => ?_
    rw [inB_no (by omega)] at h3
    cases h3

def NoH (t : List (List Int)) (f p : Nat) (x : Int) (r q : Nat) : Prop := ∀ i j (hi : i < t.length) (hj : j < t[i].length), (i < r ∨ (i = r ∧ j < q)) → ¬ (0 ≤ x ∧ t[i][j] = x ∧ (i ≠ f ∨ j ≠ p))
theorem NoH.step {t : List (List Int)} {f p : Nat} {x : Int} {r q : Nat} (h : NoH t f p x r q) (hr : r < t.length) (hq : q < t[r].length) (hn : ¬ (0 ≤ x ∧ t[r][q] = x ∧ (r ≠ f ∨ q ≠ p))) : NoH t f p x r (q + 1) := by
  intro i j hi hj h1
  by_cases e : i = r ∧ j = q
  · obtain ⟨rfl, rfl⟩ := e; exact hn
  · exact h i j hi hj (by omega)
theorem NoH.row {t : List (List Int)} {f p : Nat} {x : Int} {r q : Nat} (h : NoH t f p x r q) (hr : r < t.length) (hq : t[r].length ≤ q) : NoH t f p x (r + 1) 0 := by
  intro i j hi hj h1
  refine h i j hi hj ?_
  by_cases e : i = r
  · subst e; right; exact ⟨rfl, by omega⟩
  · left; omega
theorem put_hit {t : List (List Int)} (hv : tabVal t = true) {f p : Nat} (hf : f < t.length) (hp : p ≤ 5) {x : Int} (hx : -1 ≤ x ∧ x ≤ 47) {r q : Nat} (hr : r < t.length) (hq : q < t[r].length) (h0 : 0 ≤ x) (he : t[r][q] = x) (hn : r ≠ f ∨ q ≠ p) : tabVal (t.set f (t[f].set p x)) = false := by
  have h8 := tab_len hv
  have h6 := tab_row hv hr
  rw [← tset_eq hf, tput_val hv (by omega) (by omega) hx]
  have hg := flat_get (tabVal_iff.1 hv).2.1 hr hq
  have : elsewhere t f p x = true := by
    unfold elsewhere
    rw [Bool.and_eq_true, List.any_eq_true]
    refine ⟨by simpa using h0, r * 6 + q, by rw [List.mem_range]; omega, ?_⟩
    rw [List.getD_eq_getElem?_getD, hg, he]
    simp
    omega
  rw [this]; rfl
theorem put_no {t : List (List Int)} (hv : tabVal t = true) {f p : Nat} (hf : f < t.length) (hp : p ≤ 5) {x : Int} (hx : -1 ≤ x ∧ x ≤ 47) {r q : Nat} (h : NoH t f p x r q) (hr : t.length ≤ r) : tabVal (t.set f (t[f].set p x)) = true := by
  have h8 := tab_len hv
  rw [← tset_eq hf, tput_val hv (by omega) (by omega) hx]
  have : elsewhere t f p x = false := by
    cases he : elsewhere t f p x with
    | false => rfl
    | true =>
      exfalso
      unfold elsewhere at he
      rw [Bool.and_eq_true, List.any_eq_true] at he
      obtain ⟨h0, i, hi, hi2⟩ := he
      rw [List.mem_range] at hi
      have hi6 : i / 6 < t.length := by omega
      have h6 := tab_row hv hi6
      have hj6 : i % 6 < t[i / 6].length := by omega
      have hg := flat_get (tabVal_iff.1 hv).2.1 hi6 hj6
      rw [show i / 6 * 6 + i % 6 = i by omega] at hg
      rw [List.getD_eq_getElem?_getD, hg] at hi2
      simp at hi2 h0
      exact h (i / 6) (i % 6) hi6 hj6 (.inl (by omega)) ⟨h0, hi2.2, by omega⟩
  rw [this]; rfl

set_option maxHeartbeats 4000000 in
theorem specPutT_any (v : Value) (t : List (List Int)) (f p x : Int) (lo hi : Nat) (w : World) (h : RT w lo hi v t) :
    Calls Try.prog 83 #[.agg #[v], .int .i64 f, .int .i64 p, .int .i64 x] w (PutT t f p x w) := by
  obtain ⟨a, cap, b, off, rfl, -⟩ := h.open
  have HB0 := Lib.hid (two_below w (.cells #[.slice a t.length cap] 26) (.cells #[.slice none 0 0] 26))
  have H := Lib.hid (h.below HB0.out)
  obtain ⟨x0, x1⟩ := two_new (w := w) (.cells #[.slice a t.length cap] 26) (.cells #[.slice none 0 0] 26) (Below.refl _ _)
  have X0 := Lib.hid x0
  have X1 := Lib.hid x1
  clear h x0 x1
  by_cases hg : tabVal t = true ∧ (0 ≤ f ∧ f ≤ 7) ∧ (0 ≤ p ∧ p ≤ 5) ∧ (-1 ≤ x ∧ x ≤ 47)
  · obtain ⟨hv, ⟨hf0, hf1⟩, ⟨hp0, hp1⟩, hx0, hx1⟩ := hg
    obtain ⟨f, rfl⟩ := Int.eq_ofNat_of_zero_le hf0
    obtain ⟨p, rfl⟩ := Int.eq_ofNat_of_zero_le hp0
    have h8 := tab_len hv
    have hlt : f < t.length := by omega
    have h6 := tab_row hv hlt
    unfold PutT
    rw [tput_in hv hlt (by omega) hx0 hx1]
    generalize hq : tabVal (t.set f (t[f].set p x)) = q
    have HQ := Lib.hid hq
    clear hq
    have H6 := Lib.hid h6
    have H8 := Lib.hid h8
    have HV := Lib.hid hv
    have hi1 : inB (f : Int) 0 7 = true := inB_yes (by omega) (by omega)
    have hi2 : inB (p : Int) 0 5 = true := inB_yes (by omega) (by omega)
    have hi3 : inB x (-1) 47 = true := inB_yes hx0 hx1
    have HI := Lib.hid (show I64 x by unfold I64; omega)
    clear h8 h6 hv hx0 hx1
    have HT : Hid (∀ W e W', (∃ v, e = .returned (.tuple #[.agg #[v], .bool q]) ∧ OT W' W.heap.size W'.heap.size v (if q = true then t.set f (t[f].set p x) else t) ∧ Below W.heap.size W W') → (∃ v, e = Ending.returned (.tuple #[.agg #[v], .bool (if q = true then (t.set f (t[f].set p x), true) else (t, false)).2]) ∧ OT W' W.heap.size W'.heap.size v (if q = true then (t.set f (t[f].set p x), true) else (t, false)).1 ∧ Below W.heap.size W W')) :=
      Lib.hid (fun W e W' h => by cases q <;> exact h)
    refine Calls.mono ?_ (HT.out w)
    go_enter Try.func83, Try.ntmps83
    go_wp2_with fail
    refine (specTbv_any _ t lo hi _ H.out).mono ?_
    rintro e w1 ⟨rfl, c⟩
    have B := Lib.hid c
    have hv' : tabVal t = true := HV.out
    obtain ⟨hb, -⟩ := one_at (box_keep X0.out B.out)
    clear c
    go_wp2_with (go_at_call 56; refine (l1In_any _ _ _ _).mono ?_; rintro e w' ⟨rfl, rfl⟩)
    refine (copy_any _ t lo hi _ (H.out.below B.out) HV.out).mono ?_
    rintro e w2 ⟨v2, rfl, o2, c⟩
    obtain ⟨A, cap2, rfl, -, -⟩ : ∃ A cap2, v2 = .slice (some ⟨A, 0, none⟩) t.length cap2 ∧ w1.heap.size ≤ A ∧ A < w2.heap.size := by
      obtain ⟨vs, k1, k2, -⟩ := o2
      obtain ⟨g, cap2, rfl, h1, h2, -⟩ := own_shape1 k1 (by omega)
      exact ⟨g, cap2, rfl, h1, h2⟩
    have c2 := balloc w2 (.cells #[.slice (some ⟨A, 0, none⟩) t.length cap2] 26)
    have z1 := B.out.size
    simp at z1
    have z2 := c.size
    obtain ⟨wo, hwo⟩ : ∃ wo : World, wo = w2.alloc (.cells #[.slice (some ⟨A, 0, none⟩) t.length cap2] 26) := ⟨_, rfl⟩
    rw [← hwo] at c2
    have HR : Hid (CtR w w2.heap.size w1.heap.size w2.heap.size A t.length cap2 t wo) :=
      Lib.hid ⟨o2.below c2, bup2 HB0.out (bup2 B.out (bup2 c c2)), by rw [hwo]; exact heap_alloc_new w2 _, box_keep X1.out (bup2 B.out (bup2 c c2))⟩
    have X0o := Lib.hid (box_keep X0.out (bup2 B.out (bup2 c c2)))
    have BB := Lib.hid (bup2 B.out (bup2 c c2))
    have hfl : f < t.length := hlt
    have hjr : p < t[f].length := by have := H6.out; omega
    obtain ⟨a', cap', g, cap3, ev, -, hcu, hcap3, ⟨u3, hu3⟩, hfz, ⟨hg1, hg2⟩, hput⟩ := HR.out.1.store f p hfl hjr
    simp only [Value.slice.injEq, Option.some.injEq, Addr.mk.injEq, and_true] at ev
    obtain ⟨rfl, -, -⟩ := ev
    have hp := hput x HI.out
    have hc : Chg (fun b => b = g) wo (wo.setCell ⟨g, p, none⟩ (.int .i64 x)) := Chg.setCell (S := fun b => b = g) (Chg.refl _ wo) (p := ⟨g, p, none⟩) (.inr rfl) _
    obtain ⟨w3, hw3⟩ : ∃ w3 : World, w3 = wo.setCell ⟨g, p, none⟩ (.int .i64 x) := ⟨_, rfl⟩
    rw [← hw3] at hp hc
    have zo := (Array.getElem?_eq_some_iff.1 HR.out.2.2.1).1
    have HF : Hid (CtR w w2.heap.size w1.heap.size w2.heap.size A t.length cap2 (t.set f (t[f].set p x)) w3) :=
      Lib.hid ⟨hp, HR.out.2.1.trans (hc.below HR.out.2.1.size (fun i hi he => by omega)), box_chg HR.out.2.2.1 hc (by omega), box_chg HR.out.2.2.2 hc (by omega)⟩
    have X03 := Lib.hid (box_chg X0o.out hc (by omega))
    have B3 := Lib.hid (BB.out.trans (hc.below BB.out.size (fun i hi he => by simp at hi; omega)))
    obtain ⟨hcc, -⟩ := one_at HR.out.2.2.1
    obtain ⟨hcc3, -⟩ := one_at HF.out.2.2.1
    have hj6b : t[f].length ≤ 9 := by have := H6.out; omega
    have hi8 : t.length ≤ 9 := by have := H8.out; omega
    have HW := Lib.hid hw3
    have hw4 : (w2.setCell ⟨g, p, none⟩ (.int .i64 x)).alloc (.cells #[.slice (some ⟨A, 0, none⟩) t.length cap2] 26) = w3 := by rw [hw3, hwo, World.setCell_alloc_past _ _ _ _ hg2]
    have HW4 := Lib.hid hw4
    rw [hwo] at hcc hcu hu3 hfz
    rw [← hw4] at hcc3
    clear hb c c2 o2 X0 X1 hput hp hc hw3 hwo BB X0o hw4
    go_wp2_with fail
    rw [HW4.out]
    have cv := specTbv_any _ (t.set f (t[f].set p x)) _ _ w3 HF.out.1.rt
    rw [HQ.out] at cv
    refine cv.mono ?_
    clear cv
    rintro e w4 ⟨rfl, c⟩
    replace HF : Hid (CtR w w2.heap.size w1.heap.size w2.heap.size A t.length cap2 (t.set f (t[f].set p x)) w4) :=
      Lib.hid ⟨HF.out.1.below c, bup2 HF.out.2.1 c, box_keep HF.out.2.2.1 c, box_keep HF.out.2.2.2 c⟩
    replace B3 := Lib.hid (bup2 B3.out c)
    obtain ⟨hb4, -⟩ := one_at (box_keep X03.out c)
    obtain ⟨hc4, -⟩ := one_at HF.out.2.2.1
    obtain ⟨d2, d3⟩ := one_at HF.out.2.2.2
    clear c hcc hcc3
    cases q
    · go_wp2_with fail
      refine (copy_any _ t lo hi _ (H.out.below B3.out) HV.out).mono ?_
      rintro e w5 ⟨v5, rfl, o5, c⟩
      obtain ⟨a5, cap5, b5, off5, rfl, -⟩ := o5.rt.open
      have hB5 := bup2 HF.out.2.1 c
      obtain ⟨d4, d5⟩ := one_at (box_keep HF.out.2.2.2 c)
      have zz := (Array.getElem?_eq_some_iff.1 HF.out.2.2.2).1
      have HO := Lib.hid (And.intro o5 (And.intro hB5 zz))
      clear hb4 hc4 d2 d3 o5 hB5 zz c
      go_wp2_with fail
      have hc : Chg (fun b => b = w.heap.size + 1) w5 (w5.setCell ⟨w.heap.size + 1, 0, none⟩ (.slice a5 t.length cap5)) := Chg.setCell (S := fun b => b = w.heap.size + 1) (Chg.refl _ w5) (p := ⟨w.heap.size + 1, 0, none⟩) (.inr rfl) _
      have hO := HO.out.1.chg hc (fun b hb _ hs => by have := HO.out.2.2; omega)
      refine bodyPost_ret (v := .tuple #[.agg #[.slice a5 t.length cap5], .bool false]) (by simp [results, Try.results83, go_sem, d4]) rfl ⟨_, rfl, (hO.wide (by have := HO.out.2.2; omega)).mono hc.size, HO.out.2.1.trans (hc.below HO.out.2.1.size (fun i hi he => by omega))⟩
    · go_wp2_with fail
      have hc : Chg (fun b => b = w.heap.size + 1) w4 (w4.setCell ⟨w.heap.size + 1, 0, none⟩ (.slice (some ⟨A, 0, none⟩) t.length cap2)) := Chg.setCell (S := fun b => b = w.heap.size + 1) (Chg.refl _ w4) (p := ⟨w.heap.size + 1, 0, none⟩) (.inr rfl) _
      have hO := HF.out.1.chg hc (fun b hb _ hs => by omega)
      have zz := (Array.getElem?_eq_some_iff.1 HF.out.2.2.1).1
      refine bodyPost_ret (v := .tuple #[.agg #[.slice (some ⟨A, 0, none⟩) t.length cap2], .bool true]) (by simp [results, Try.results83, go_sem, d2]) rfl ⟨_, rfl, (hO.wide (by omega)).mono (by have := hc.size; omega), HF.out.2.1.trans (hc.below HF.out.2.1.size (fun i hi he => by omega))⟩
  · unfold PutT
    rw [tput_out hg]
    rcases (show (tabVal t = false) ∨ (tabVal t = true ∧ inB f 0 7 = false) ∨ (tabVal t = true ∧ inB f 0 7 = true ∧ inB p 0 5 = false) ∨ (tabVal t = true ∧ inB f 0 7 = true ∧ inB p 0 5 = true ∧ inB x (-1) 47 = false) from by
      cases hv : tabVal t with
      | false => exact .inl rfl
      | true =>
        rw [hv] at hg
        by_cases hf : 0 ≤ f ∧ f ≤ 7
        · by_cases hp : 0 ≤ p ∧ p ≤ 5
          · exact .inr (.inr (.inr ⟨rfl, inB_yes hf.1 hf.2, inB_yes hp.1 hp.2, inB_no (by simp at hg; omega)⟩))
          · exact .inr (.inr (.inl ⟨rfl, inB_yes hf.1 hf.2, inB_no (by omega)⟩))
        · exact .inr (.inl ⟨rfl, inB_no (by omega)⟩)) with hv | ⟨hv, h1⟩ | ⟨hv, h1, h2⟩ | ⟨hv, h1, h2, h3⟩
    all_goals
      have HV := Lib.hid hv
      clear hg hv
      go_enter Try.func83, Try.ntmps83
      go_wp2_with fail
      refine (specTbv_any _ t lo hi _ H.out).mono ?_
      rintro e w1 ⟨rfl, c⟩
      have B := Lib.hid c
      have hv' := HV.out
      obtain ⟨d2, d3⟩ := one_at (box_keep X1.out c)
      clear c
      go_wp2_with (go_at_call 56; refine (l1In_any _ _ _ _).mono ?_; rintro e w' ⟨rfl, rfl⟩)
      have hc : Chg (fun b => b = w.heap.size + 1) w1 (w1.setCell ⟨w.heap.size + 1, 0, none⟩ (.slice none 0 0)) := Chg.setCell (S := fun b => b = w.heap.size + 1) (Chg.refl _ w1) (p := ⟨w.heap.size + 1, 0, none⟩) (.inr rfl) _
      have hB := bup2 HB0.out B.out
      refine bodyPost_ret (v := .tuple #[.agg #[.slice none 0 0], .bool false]) (by simp [results, Try.results83, go_sem, d2]) rfl ⟨_, rfl, ot_nil _ _ _, hB.trans (hc.below hB.size (fun i hi he => by omega))⟩




end Go.Proofs.Ytjmofmdcegefgaa

