/-
  The walks of CutFile.
-/
import Derived.Test.YtfbkngjaadjeaaaTbx
import Derived.Test.YtfbkngjaadjeaaaTby
namespace Go.Proofs.Ytfbkngjaadjeaaa
open Go.RowKit

/-- A row cut from p on, as far as j. -/
def rcn (l : List Int) (p j : Nat) : List Int := l.mapIdx fun i x => if p ≤ i ∧ i < j then -1 else x
theorem rcn_len (l : List Int) (p j : Nat) : (rcn l p j).length = l.length := by simp [rcn]
theorem rcn_start (l : List Int) (p : Nat) : rcn l p p = l := by
  refine List.ext_getElem (by simp [rcn]) fun i h1 h2 => ?_
  simp only [rcn, List.getElem_mapIdx]
  rw [if_neg (by omega)]
theorem rcn_step (l : List Int) (p j : Nat) (hp : p ≤ j) : (rcn l p j).set j (-1) = rcn l p (j + 1) := by
  refine List.ext_getElem (by simp [rcn]) fun i h1 h2 => ?_
  rw [List.getElem_set]
  simp only [rcn, List.getElem_mapIdx]
  by_cases e : j = i
  · subst e; rw [if_pos rfl, if_pos (by omega)]
  · rw [if_neg e]
    by_cases h : p ≤ i ∧ i < j
    · rw [if_pos h, if_pos (by omega)]
    · rw [if_neg h, if_neg (by omega)]
theorem rcn_end (l : List Int) (p j : Nat) (hp : p ≤ l.length) (hj : l.length ≤ j) : rcn l p j = rcut l p := by
  refine List.ext_getElem (by simp [rcn, rcut]; omega) fun i h1 h2 => ?_
  have hi : i < l.length := by rw [rcn_len] at h1; exact h1
  simp only [rcn, List.getElem_mapIdx, rcut]
  by_cases h : p ≤ i
  · rw [if_pos ⟨h, by omega⟩, List.getElem_append_right (by simp; omega)]
    simp
  · rw [if_neg (by omega), List.getElem_append_left (by simp; omega)]
    simp
theorem tcut_in {t : List (List Int)} {f p : Nat} (hv : tabVal t = true) (hf : f < t.length) (hp : p ≤ 6) : tcut t f p = t.set f (rcut t[f] p) := by
  have h8 := tab_len hv
  have e1 : (f : Int).toNat = f := by omega
  have e2 : (p : Int).toNat = p := by omega
  rw [tcut, if_pos ⟨hv, inB_yes (by omega) (by omega), inB_yes (by omega) (by omega)⟩, e1, e2, getD_at hf]
theorem tcut_out {t : List (List Int)} {f p : Int} (h : ¬ (tabVal t = true ∧ (0 ≤ f ∧ f ≤ 7) ∧ (0 ≤ p ∧ p ≤ 6))) : tcut t f p = [] := by
  rw [tcut, if_neg]
  rintro ⟨h1, h2, h3⟩
  refine h ⟨h1, ?_, ?_⟩
  · refine Classical.byContradiction fun hh => ?_
    rw [inB_no (by omega)] at h2
    cases h2
  · refine Classical.byContradiction fun hh => ?_
    rw [inB_no (by omega)] at h3
    cases h3
def CtR (w : World) (C lo hi A n : Nat) (cap : Nat) (xss : List (List Int)) (wr : World) : Prop :=
  OT wr lo hi (.slice (some ⟨A, 0, none⟩) n cap) xss ∧ Below w.heap.size w wr ∧
    wr.heap[C]? = some (.cells #[.slice (some ⟨A, 0, none⟩) n cap] 33) ∧ wr.heap[w.heap.size + 1]? = some (.cells #[.slice none 0 0] 33)



set_option maxHeartbeats 2000000 in
theorem specCut_any (v : Value) (t : List (List Int)) (f p : Int) (lo hi : Nat) (w : World) (h : RT w lo hi v t) :
    Calls Try.prog 52 #[.agg #[v], .int .i64 f, .int .i64 p] w (NewT (tcut t f p) w) := by
  obtain ⟨a, cap, b, off, rfl, -⟩ := h.open
  have HB0 := Lib.hid (two_below w (.cells #[.slice a t.length cap] 33) (.cells #[.slice none 0 0] 33))
  have H := Lib.hid (h.below HB0.out)
  obtain ⟨x0, x1⟩ := two_new (w := w) (.cells #[.slice a t.length cap] 33) (.cells #[.slice none 0 0] 33) (Below.refl _ _)
  have X0 := Lib.hid x0
  have X1 := Lib.hid x1
  clear h x0 x1
  by_cases hg : tabVal t = true ∧ (0 ≤ f ∧ f ≤ 7) ∧ (0 ≤ p ∧ p ≤ 6)
  · obtain ⟨hv, ⟨hf0, hf1⟩, hp0, hp1⟩ := hg
    obtain ⟨f, rfl⟩ := Int.eq_ofNat_of_zero_le hf0
    obtain ⟨p, rfl⟩ := Int.eq_ofNat_of_zero_le hp0
    have h8 := tab_len hv
    have hlt : f < t.length := by omega
    have h6 := tab_row hv hlt
    rw [tcut_in hv hlt (by omega)]
    have H6 := Lib.hid h6
    have H8 := Lib.hid h8
    have HV := Lib.hid hv
    have hp6 : p ≤ 6 := by omega
    have hi1 : inB (f : Int) 0 7 = true := inB_yes (by omega) (by omega)
    have hi2 : inB (p : Int) 0 6 = true := inB_yes (by omega) (by omega)
    clear h8 h6 hv
    go_enter Try.func52, Try.ntmps52
    go_wp2_with fail
    refine (specTbv_any _ t lo hi _ H.out).mono ?_
    rintro e w1 ⟨rfl, c⟩
    have B := Lib.hid c
    have hv' : tabVal t = true := HV.out
    obtain ⟨hb, -⟩ := one_at (box_keep X0.out B.out)
    clear c
    go_wp2_with (go_at_call 44; refine (l1In_any _ _ _ _).mono ?_; rintro e w' ⟨rfl, rfl⟩)
    refine (copy_any _ t lo hi _ (H.out.below B.out) HV.out).mono ?_
    rintro e w2 ⟨v2, rfl, o2, c⟩
    obtain ⟨A, cap2, rfl, -, -⟩ : ∃ A cap2, v2 = .slice (some ⟨A, 0, none⟩) t.length cap2 ∧ w1.heap.size ≤ A ∧ A < w2.heap.size := by
      obtain ⟨vs, k1, k2, -⟩ := o2
      obtain ⟨g, cap2, rfl, h1, h2, -⟩ := own_shape1 k1 (by omega)
      exact ⟨g, cap2, rfl, h1, h2⟩
    have c2 := balloc w2 (.cells #[.slice (some ⟨A, 0, none⟩) t.length cap2] 33)
    have z1 := B.out.size
    simp at z1
    have z2 := c.size
    have HS : Hid (CtR w w2.heap.size w1.heap.size w2.heap.size A t.length cap2 t (w2.alloc (.cells #[.slice (some ⟨A, 0, none⟩) t.length cap2] 33))) :=
      Lib.hid ⟨o2.below c2, bup2 HB0.out (bup2 B.out (bup2 c c2)), heap_alloc_new w2 _, box_keep X1.out (bup2 B.out (bup2 c c2))⟩
    clear hb c c2 o2 X0 X1 HB0
    go_wp2_with fail
    go_loopw [8] (fun i wr => ∃ j : Nat, p ≤ j ∧ j ≤ 6 ∧ i = .int .i64 j ∧ CtR w w2.heap.size w1.heap.size w2.heap.size A t.length cap2 (t.set f (rcn t[f] p j)) wr) (fun i _ => 6 - (intOf i).toNat)
    case atStart => exact ⟨p, Nat.le_refl _, hp6, rfl, by rw [rcn_start, List.set_getElem_self]; exact HS.out⟩
    case round =>
      obtain ⟨j, hj0, hj, rfl, hR⟩ := hrel
      obtain ⟨wo, rfl⟩ : ∃ wo : World, wo = wr := ⟨_, rfl⟩
      clear HS
      have HR := Lib.hid hR
      clear hR
      obtain ⟨hcc, -⟩ := one_at HR.out.2.2.1
      by_cases hjl : j < 6
      · have hfl : f < (t.set f (rcn t[f] p j)).length := by rw [List.length_set]; exact hlt
        have e1 : ((t.set f (rcn t[f] p j))[f]'hfl) = rcn t[f] p j := by simp
        have hl6 : ((t.set f (rcn t[f] p j))[f]'hfl).length = t[f].length := by rw [e1, rcn_len]
        have hjr : j < ((t.set f (rcn t[f] p j))[f]'hfl).length := by rw [hl6]; have := H6.out; omega
        obtain ⟨a', cap', g, cap3, ev, -, hcu, hcap3, ⟨u3, hu3⟩, hfz, ⟨hg1, hg2⟩, hput⟩ := HR.out.1.store f j hfl hjr
        simp only [Value.slice.injEq, Option.some.injEq, Addr.mk.injEq, and_true] at ev
        obtain ⟨rfl, -, -⟩ := ev
        rw [hl6] at hcu hcap3
        have hp := hput (-1) (by unfold I64; omega)
        simp only [e1] at hp
        rw [List.set_set, rcn_step _ _ _ hj0] at hp
        have hc : Chg (fun b => b = g) wo (wo.setCell ⟨g, j, none⟩ (.int .i64 (-1))) := Chg.setCell (S := fun b => b = g) (Chg.refl _ wo) (p := ⟨g, j, none⟩) (.inr rfl) _
        have HF : Hid (CtR w w2.heap.size w1.heap.size w2.heap.size A t.length cap2 (t.set f (rcn t[f] p (j + 1))) (wo.setCell ⟨g, j, none⟩ (.int .i64 (-1)))) :=
          Lib.hid ⟨hp, HR.out.2.1.trans (hc.below HR.out.2.1.size (fun i hi he => by omega)), box_chg HR.out.2.2.1 hc (by omega), box_chg HR.out.2.2.2 hc (by omega)⟩
        have hj6 : j < t[f].length := by have := H6.out; omega
        have hj6b : t[f].length ≤ 9 := by have := H6.out; omega
        have hi8 : t.length ≤ 9 := by have := H8.out; omega
        clear hput hp hc hjr hl6 e1 hfl
        go_wp2_with fail
        go_roundw
        case rel => exact ⟨j + 1, by omega, by omega, by go_num, HF.out⟩
        case measure => simp [intOf]; omega
      · obtain ⟨d2, d3⟩ := one_at HR.out.2.2.2
        have hj6 : j = 6 := by omega
        subst hj6
        go_wp2_with fail
        have hc : Chg (fun b => b = w.heap.size + 1) wo (wo.setCell ⟨w.heap.size + 1, 0, none⟩ (.slice (some ⟨A, 0, none⟩) t.length cap2)) := Chg.setCell (S := fun b => b = w.heap.size + 1) (Chg.refl _ wo) (p := ⟨w.heap.size + 1, 0, none⟩) (.inr rfl) _
        have hO := HR.out.1.chg hc (fun b hb _ hs => by omega)
        rw [rcn_end _ _ _ (by rw [H6.out]; exact hp6) (by rw [H6.out]; exact Nat.le_refl _)] at hO
        have zz := (Array.getElem?_eq_some_iff.1 HR.out.2.2.1).1
        refine bodyPost_ret (v := .agg #[.slice (some ⟨A, 0, none⟩) t.length cap2]) (by simp [results, Try.results52, go_sem, d2]) rfl ⟨_, rfl, (hO.wide (by omega)).mono (by have := hc.size; omega), HR.out.2.1.trans (hc.below HR.out.2.1.size (fun i hi he => by omega))⟩
  · rw [tcut_out hg]
    rcases (show (tabVal t = false) ∨ (tabVal t = true ∧ inB f 0 7 = false) ∨ (tabVal t = true ∧ inB f 0 7 = true ∧ inB p 0 6 = false) from by
      cases hv : tabVal t with
      | false => exact .inl rfl
      | true =>
        rw [hv] at hg
        by_cases hf : 0 ≤ f ∧ f ≤ 7
        · exact .inr (.inr ⟨rfl, inB_yes hf.1 hf.2, inB_no (by simp at hg; omega)⟩)
        · exact .inr (.inl ⟨rfl, inB_no (by omega)⟩)) with hv | ⟨hv, h1⟩ | ⟨hv, h1, h2⟩
    all_goals
      have HV := Lib.hid hv
      clear hg hv
      go_enter Try.func52, Try.ntmps52
      go_wp2_with fail
      refine (specTbv_any _ t lo hi _ H.out).mono ?_
      rintro e w1 ⟨rfl, c⟩
      have B := Lib.hid c
      have hv' := HV.out
      obtain ⟨d2, d3⟩ := one_at (box_keep X1.out c)
      clear c
      go_wp2_with (go_at_call 44; refine (l1In_any _ _ _ _).mono ?_; rintro e w' ⟨rfl, rfl⟩)
      have hc : Chg (fun b => b = w.heap.size + 1) w1 (w1.setCell ⟨w.heap.size + 1, 0, none⟩ (.slice none 0 0)) := Chg.setCell (S := fun b => b = w.heap.size + 1) (Chg.refl _ w1) (p := ⟨w.heap.size + 1, 0, none⟩) (.inr rfl) _
      have hB := bup2 HB0.out B.out
      refine bodyPost_ret (v := .agg #[.slice none 0 0]) (by simp [results, Try.results52, go_sem, d2]) rfl ⟨_, rfl, ot_nil _ _ _, hB.trans (hc.below hB.size (fun i hi he => by omega))⟩


end Go.Proofs.Ytfbkngjaadjeaaa
