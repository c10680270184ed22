/-
  Texts of this claim, laid together: Tbk, Tbn.
-/
import Derived.Test.YtjmofmdcegefgaaQ08
import Derived.Test.YtjmofmdcegefgaaQ09
namespace Go.Proofs.Ytjmofmdcegefgaa
open Go.RowKit

/-- A row cut from p on, as far as j. -/
def rcn (l : List Int) (p j : Nat) : List Int := l.mapIdx fun i x => if p ≤ i ∧ i < j then -1 else x
theorem rcn_len (l : List Int) (p j : Nat) : (rcn l p j).length = l.length := by simp [rcn]
theorem rcn_start (l : List Int) (p : Nat) : rcn l p p = l := by
  refine List.ext_getElem (by simp [rcn]) fun i h1 h2 => ?_
  simp only [rcn, List.getElem_mapIdx]
  rw [if_neg (by omega)]
theorem rcn_step (l : List Int) (p j : Nat) (hp : p ≤ j) : (rcn l p j).set j (-1) = rcn l p (j + 1) := by
  refine List.ext_getElem (by simp [rcn]) fun i h1 h2 => ?_
  rw [List.getElem_set]
  simp only [rcn, List.getElem_mapIdx]
  by_cases e : j = i
  · subst e; rw [if_pos rfl, if_pos (by omega)]
  · rw [if_neg e]
    by_cases h : p ≤ i ∧ i < j
    · rw [if_pos h, if_pos (by omega)]
    · rw [if_neg h, if_neg (by omega)]
theorem rcn_end (l : List Int) (p j : Nat) (hp : p ≤ l.length) (hj : l.length ≤ j) : rcn l p j = rcut l p := by
  refine List.ext_getElem (by simp [rcn, rcut]; omega) fun i h1 h2 => ?_
  have hi : i < l.length := by rw [rcn_len] at h1; exact h1
  simp only [rcn, List.getElem_mapIdx, rcut]
  by_cases h : p ≤ i
  · rw [if_pos ⟨h, by omega⟩, List.getElem_append_right (by simp; omega)]
    simp
  · rw [if_neg (by omega), List.getElem_append_left (by simp; omega)]
    simp
theorem tcut_in {t : List (List Int)} {f p : Nat} (hv : tabVal t = true) (hf : f < t.length) (hp : p ≤ 6) : tcut t f p = t.set f (rcut t[f] p) := by
  have h8 := tab_len hv
  have e1 : (f : Int).toNat = f := by omega
  have e2 : (p : Int).toNat = p := by omega
  rw [tcut, if_pos ⟨hv, inB_yes (by omega) (by omega), inB_yes (by omega) (by omega)⟩, e1, e2, getD_at hf]
theorem tcut_out {t : List (List Int)} {f p : Int} (h : ¬ (tabVal t = true ∧ (0 ≤ f ∧ f ≤ 7) ∧ (0 ≤ p ∧ p ≤ 6))) : tcut t f p = [] := by
  rw [tcut, if_neg]
  rintro ⟨h1, h2, h3⟩
  refine h ⟨h1, ?_, ?_⟩
  · refine Classical.byContradiction fun hh => ?_
    rw [inB_no (by omega)] at h2
    cases h2
  · refine Classical.byContradiction fun hh => ?_
    rw [inB_no (by omega)] at h3
    cases h3
def CtR (w : World) (C lo hi A n : Nat) (cap : Nat) (xss : List (List Int)) (wr : World) : Prop :=
  OT wr lo hi (.slice (some ⟨A, 0, none⟩) n cap) xss ∧ Below w.heap.size w wr ∧
    wr.heap[C]? = some (.cells #[.slice (some ⟨A, 0, none⟩) n cap] 26) ∧ wr.heap[w.heap.size + 1]? = some (.cells #[.slice none 0 0] 26)



set_option maxHeartbeats 2000000 in
theorem specCut_any (v : Value) (t : List (List Int)) (f p : Int) (lo hi : Nat) (w : World) (h : RT w lo hi v t) :
    Calls Try.prog 70 #[.agg #[v], .int .i64 f, .int .i64 p] w (NewT (tcut t f p) w) := by
  obtain ⟨a, cap, b, off, rfl, -⟩ := h.open
  have HB0 := Lib.hid (two_below w (.cells #[.slice a t.length cap] 26) (.cells #[.slice none 0 0] 26))
  have H := Lib.hid (h.below HB0.out)
  obtain ⟨x0, x1⟩ := two_new (w := w) (.cells #[.slice a t.length cap] 26) (.cells #[.slice none 0 0] 26) (Below.refl _ _)
  have X0 := Lib.hid x0
  have X1 := Lib.hid x1
  clear h x0 x1
  by_cases hg : tabVal t = true ∧ (0 ≤ f ∧ f ≤ 7) ∧ (0 ≤ p ∧ p ≤ 6)
  · obtain ⟨hv, ⟨hf0, hf1⟩, hp0, hp1⟩ := hg
    obtain ⟨f, rfl⟩ := Int.eq_ofNat_of_zero_le hf0
    obtain ⟨p, rfl⟩ := Int.eq_ofNat_of_zero_le hp0
    have h8 := tab_len hv
    have hlt : f < t.length := by omega
    have h6 := tab_row hv hlt
    rw [tcut_in hv hlt (by omega)]
    have H6 := Lib.hid h6
    have H8 := Lib.hid h8
    have HV := Lib.hid hv
    have hp6 : p ≤ 6 := by omega
    have hi1 : inB (f : Int) 0 7 = true := inB_yes (by omega) (by omega)
    have hi2 : inB (p : Int) 0 6 = true := inB_yes (by omega) (by omega)
    clear h8 h6 hv
    go_enter Try.func70, Try.ntmps70
    go_wp2_with fail
    refine (specTbv_any _ t lo hi _ H.out).mono ?_
    rintro e w1 ⟨rfl, c⟩
    have B := Lib.hid c
    have hv' : tabVal t = true := HV.out
    obtain ⟨hb, -⟩ := one_at (box_keep X0.out B.out)
    clear c
    go_wp2_with (go_at_call 56; refine (l1In_any _ _ _ _).mono ?_; rintro e w' ⟨rfl, rfl⟩)
    refine (copy_any _ t lo hi _ (H.out.below B.out) HV.out).mono ?_
    rintro e w2 ⟨v2, rfl, o2, c⟩
    obtain ⟨A, cap2, rfl, -, -⟩ : ∃ A cap2, v2 = .slice (some ⟨A, 0, none⟩) t.length cap2 ∧ w1.heap.size ≤ A ∧ A < w2.heap.size := by
      obtain ⟨vs, k1, k2, -⟩ := o2
      obtain ⟨g, cap2, rfl, h1, h2, -⟩ := own_shape1 k1 (by omega)
      exact ⟨g, cap2, rfl, h1, h2⟩
    have c2 := balloc w2 (.cells #[.slice (some ⟨A, 0, none⟩) t.length cap2] 26)
    have z1 := B.out.size
    simp at z1
    have z2 := c.size
    have HS : Hid (CtR w w2.heap.size w1.heap.size w2.heap.size A t.length cap2 t (w2.alloc (.cells #[.slice (some ⟨A, 0, none⟩) t.length cap2] 26))) :=
      Lib.hid ⟨o2.below c2, bup2 HB0.out (bup2 B.out (bup2 c c2)), heap_alloc_new w2 _, box_keep X1.out (bup2 B.out (bup2 c c2))⟩
    clear hb c c2 o2 X0 X1 HB0
    go_wp2_with fail
    go_loopw [8] (fun i wr => ∃ j : Nat, p ≤ j ∧ j ≤ 6 ∧ i = .int .i64 j ∧ CtR w w2.heap.size w1.heap.size w2.heap.size A t.length cap2 (t.set f (rcn t[f] p j)) wr) (fun i _ => 6 - (intOf i).toNat)
    case atStart => exact ⟨p, Nat.le_refl _, hp6, rfl, by rw [rcn_start, List.set_getElem_self]; exact HS.out⟩
    case round =>
      obtain ⟨j, hj0, hj, rfl, hR⟩ := hrel
      obtain ⟨wo, rfl⟩ : ∃ wo : World, wo = wr := ⟨_, rfl⟩
      clear HS
      have HR := Lib.hid hR
      clear hR
      obtain ⟨hcc, -⟩ := one_at HR.out.2.2.1
      by_cases hjl : j < 6
      · have hfl : f < (t.set f (rcn t[f] p j)).length := by rw [List.length_set]; exact hlt
        have e1 : ((t.set f (rcn t[f] p j))[f]'hfl) = rcn t[f] p j := by simp
        have hl6 : ((t.set f (rcn t[f] p j))[f]'hfl).length = t[f].length := by rw [e1, rcn_len]
        have hjr : j < ((t.set f (rcn t[f] p j))[f]'hfl).length := by rw [hl6]; have := H6.out; omega
        obtain ⟨a', cap', g, cap3, ev, -, hcu, hcap3, ⟨u3, hu3⟩, hfz, ⟨hg1, hg2⟩, hput⟩ := HR.out.1.store f j hfl hjr
        simp only [Value.slice.injEq, Option.some.injEq, Addr.mk.injEq, and_true] at ev
        obtain ⟨rfl, -, -⟩ := ev
        rw [hl6] at hcu hcap3
        have hp := hput (-1) (by unfold I64; omega)
        simp only [e1] at hp
        rw [List.set_set, rcn_step _ _ _ hj0] at hp
        have hc : Chg (fun b => b = g) wo (wo.setCell ⟨g, j, none⟩ (.int .i64 (-1))) := Chg.setCell (S := fun b => b = g) (Chg.refl _ wo) (p := ⟨g, j, none⟩) (.inr rfl) _
        have HF : Hid (CtR w w2.heap.size w1.heap.size w2.heap.size A t.length cap2 (t.set f (rcn t[f] p (j + 1))) (wo.setCell ⟨g, j, none⟩ (.int .i64 (-1)))) :=
          Lib.hid ⟨hp, HR.out.2.1.trans (hc.below HR.out.2.1.size (fun i hi he => by omega)), box_chg HR.out.2.2.1 hc (by omega), box_chg HR.out.2.2.2 hc (by omega)⟩
        have hj6 : j < t[f].length := by have := H6.out; omega
        have hj6b : t[f].length ≤ 9 := by have := H6.out; omega
        have hi8 : t.length ≤ 9 := by have := H8.out; omega
        clear hput hp hc hjr hl6 e1 hfl
        go_wp2_with fail
        go_roundw
        case rel => exact ⟨j + 1, by omega, by omega, by go_num, HF.out⟩
        case measure => simp [intOf]; omega
      · obtain ⟨d2, d3⟩ := one_at HR.out.2.2.2
        have hj6 : j = 6 := by omega
        subst hj6
        go_wp2_with fail
        have hc : Chg (fun b => b = w.heap.size + 1) wo (wo.setCell ⟨w.heap.size + 1, 0, none⟩ (.slice (some ⟨A, 0, none⟩) t.length cap2)) := Chg.setCell (S := fun b => b = w.heap.size + 1) (Chg.refl _ wo) (p := ⟨w.heap.size + 1, 0, none⟩) (.inr rfl) _
        have hO := HR.out.1.chg hc (fun b hb _ hs => by omega)
        rw [rcn_end _ _ _ (by rw [H6.out]; exact hp6) (by rw [H6.out]; exact Nat.le_refl _)] at hO
        have zz := (Array.getElem?_eq_some_iff.1 HR.out.2.2.1).1
        refine bodyPost_ret (v := .agg #[.slice (some ⟨A, 0, none⟩) t.length cap2]) (by simp [results, Try.results70, go_sem, d2]) rfl ⟨_, rfl, (hO.wide (by omega)).mono (by have := hc.size; omega), HR.out.2.1.trans (hc.below HR.out.2.1.size (fun i hi he => by omega))⟩
  · rw [tcut_out hg]
    rcases (show (tabVal t = false) ∨ (tabVal t = true ∧ inB f 0 7 = false) ∨ (tabVal t = true ∧ inB f 0 7 = true ∧ inB p 0 6 = false) from by
      cases hv : tabVal t with
      | false => exact .inl rfl
      | true =>
        rw [hv] at hg
        by_cases hf : 0 ≤ f ∧ f ≤ 7
        · exact .inr (.inr ⟨rfl, inB_yes hf.1 hf.2, inB_no (by simp at hg; omega)⟩)
        · exact .inr (.inl ⟨rfl, inB_no (by omega)⟩)) with hv | ⟨hv, h1⟩ | ⟨hv, h1, h2⟩
    all_goals
      have HV := Lib.hid hv
      clear hg hv
      go_enter Try.func70, Try.ntmps70
      go_wp2_with fail
      refine (specTbv_any _ t lo hi _ H.out).mono ?_
      rintro e w1 ⟨rfl, c⟩
      have B := Lib.hid c
      have hv' := HV.out
      obtain ⟨d2, d3⟩ := one_at (box_keep X1.out c)
      clear c
      go_wp2_with (go_at_call 56; refine (l1In_any _ _ _ _).mono ?_; rintro e w' ⟨rfl, rfl⟩)
      have hc : Chg (fun b => b = w.heap.size + 1) w1 (w1.setCell ⟨w.heap.size + 1, 0, none⟩ (.slice none 0 0)) := Chg.setCell (S := fun b => b = w.heap.size + 1) (Chg.refl _ w1) (p := ⟨w.heap.size + 1, 0, none⟩) (.inr rfl) _
      have hB := bup2 HB0.out B.out
      refine bodyPost_ret (v := .agg #[.slice none 0 0]) (by simp [results, Try.results70, go_sem, d2]) rfl ⟨_, rfl, ot_nil _ _ _, hB.trans (hc.below hB.size (fun i hi he => by omega))⟩


end Go.Proofs.Ytjmofmdcegefgaa

namespace Go.Proofs.Ytjmofmdcegefgaa
open Go.RowKit

/-- 'append(out, row)'. -/
theorem ap_row {w : World} {ops : Array Oper} {rest : List Oper} {o : Oper} {a : Act} {Q : Exit → Act → World → Prop} (hgd : o.guard = none) (s x : Operand)
    (ho : o.op = .call { callee := .builtin .append, args := #[s, x], argTypes := #[24, 24] }) (lo L : Nat) (sl : Value) (xss : List (List Int)) (u8 : Value) (x8 : List Int) (hs : a.eval s = sl) (hO : OT w lo L sl xss) (h8 : OI w L u8 x8) (hL : L ≤ w.heap.size) (hlo : lo ≤ L)
    (hx : a.eval x = .slice (some ⟨w.heap.size, 0, none⟩) 1 1) (hn : xss.length ≤ 1000000)
    (h : ∀ v' w', OT w' lo w'.heap.size v' (xss ++ [x8]) → Chg (fun b => sl.ownBlock = some b) w w' → wpList Try.prog ops Q rest (a.put o.dst v') w') : wpList Try.prog ops Q (o :: rest) a (w.alloc (.cells #[u8] 31)) := by
  obtain ⟨i0, hi0, hz0, hz1, hz2⟩ := info_parts Try.infoS
  obtain ⟨vs, k1, k2, k3⟩ := hO
  obtain ⟨a8, c8, b8, f8, rfl, -⟩ := h8.ri.open
  refine wpList_append_own (w.alloc (.cells #[.slice a8 x8.length c8] 31)) hgd s x 24 ho lo 31 i0 (.slice none 0 0) 1 24 Try.underlying24 hi0 hz0 hz1 hz2 rfl (by decide) sl xss.length vs hs (k1.alloc _) ⟨w.heap.size, 0, none⟩ 1 1 [.slice a8 x8.length c8] hx rfl (cell_one_new _ _ _) (fun u hu => by simp at hu; subst hu; rfl) (by simp [maxLen]; omega) (by omega) (by simp; omega) fun v' w' h1 h2 _ => ?_
  have hc : Chg (fun b => sl.ownBlock = some b) w w' := ((Chg.refl _ w).alloc _).grown h2 (fun b hb => .inr hb)
  refine h v' w' ⟨vs ++ [.slice a8 x8.length c8], by simpa using h1, fun b hb => (h1.lt b hb).2, ?_⟩ hc
  have hin : Inn IntRow w' lo L vs xss := k3.chg2 hc fun k u' b hu' hb1 hb2 => by
    have hk : k < xss.length := by rw [← k3.1]; exact (List.getElem?_eq_some_iff.1 hu').1
    have ho' : OI w lo u' xss[k] := (k3.2.1 k hk u' hu').1
    exact own_apart ho'.1 k1 (by decide) b hb1 hb2
  have h8' : OI w' L (.slice a8 x8.length c8) x8 := h8.chg hc fun b hb _ hs => by have := k2 b hs; omega
  exact hin.snoc (R := IntRow) (u := .slice a8 x8.length c8) (x := x8) (h8'.wide hlo) (fun b hb => h8'.lt b hb) (by have := hc.size; omega)

/-- The empty table. -/
def R6 : List Int := List.replicate 6 (-1)
def T0 (k : Nat) : List (List Int) := List.replicate k R6
theorem T0_succ (k : Nat) : T0 k ++ [R6] = T0 (k + 1) := by unfold T0; rw [List.replicate_succ']
def NwR (w : World) (sl : Value) (k L : Nat) (wr : World) : Prop :=
  OT wr (w.heap.size + 1 + 1) L sl (T0 k) ∧ Below w.heap.size w wr ∧ wr.heap[w.heap.size + 1]? = some (.cells #[sl] 26) ∧ wr.heap[w.heap.size]? = some (.cells #[.slice none 0 0] 26) ∧ w.heap.size + 1 + 1 ≤ L ∧ L ≤ wr.heap.size
theorem NwR.up {w wr w' : World} {sl : Value} {k L : Nat} (h : NwR w sl k L wr) (c : Chg (fun b => L ≤ b) wr w') : NwR w sl k L w' := by
  obtain ⟨h1, h2, h3, h4, h5, h6⟩ := h
  exact ⟨h1.chg c (fun b _ hb hs => by omega), h2.trans (c.below h2.size (fun i hi he => by omega)), box_chg h3 c (by omega), box_chg h4 c (by omega), h5, Nat.le_trans h6 c.size⟩

theorem nw_app {w wi w4 : World} {sl v' : Value} {k L : Nat} (h : NwR w sl k L wi) (o4 : OT w4 (w.heap.size + 1 + 1) w4.heap.size v' (T0 k ++ [R6])) (c4 : Chg (fun b => sl.ownBlock = some b) wi w4) :
    OT w4 (w.heap.size + 1 + 1) w4.heap.size v' (T0 (k + 1)) ∧ Below w.heap.size w w4 ∧ w4.heap[w.heap.size + 1]? = some (.cells #[sl] 26) ∧ w4.heap[w.heap.size]? = some (.cells #[.slice none 0 0] 26) ∧ w.heap.size + 1 + 1 ≤ w4.heap.size := by
  obtain ⟨⟨vs, k1, k2, -⟩, h2, h3, h4, h5, h6⟩ := h
  rw [T0_succ] at o4
  have hs : ∀ b, sl.ownBlock = some b → w.heap.size + 1 + 1 ≤ b := fun b hb => (k1.lt b hb).1
  exact ⟨o4, h2.trans (c4.below h2.size (fun i hi he => by have := hs i he; omega)), box_chg h3 c4 (fun he => by have := hs _ he; omega), box_chg h4 c4 (fun he => by have := hs _ he; omega), by have := c4.size; omega⟩
theorem nw_set {w w4 : World} {sl v' : Value} {k : Nat} (h : OT w4 (w.heap.size + 1 + 1) w4.heap.size v' (T0 (k + 1)) ∧ Below w.heap.size w w4 ∧ w4.heap[w.heap.size + 1]? = some (.cells #[sl] 26) ∧ w4.heap[w.heap.size]? = some (.cells #[.slice none 0 0] 26) ∧ w.heap.size + 1 + 1 ≤ w4.heap.size) :
    NwR w v' (k + 1) (w4.setCell ⟨w.heap.size + 1, 0, none⟩ v').heap.size (w4.setCell ⟨w.heap.size + 1, 0, none⟩ v') := by
  obtain ⟨h1, h2, h3, h4, h5⟩ := h
  have hc : Chg (fun b => b = w.heap.size + 1) w4 (w4.setCell ⟨w.heap.size + 1, 0, none⟩ v') := Chg.setCell (S := fun b => b = w.heap.size + 1) (Chg.refl _ w4) (p := ⟨w.heap.size + 1, 0, none⟩) (.inr rfl) _
  exact ⟨(h1.chg hc (fun b hb _ hs => by omega)).mono hc.size, h2.trans (hc.below h2.size (fun i hi he => by omega)), box_set h3 _, box_chg h4 hc (by omega), by have := hc.size; omega, Nat.le_refl _⟩

set_option maxHeartbeats 2000000 in
theorem new_any (w : World) : Calls Try.prog 61 #[] w (NewT (T0 8) w) := by
  obtain ⟨x0, x1⟩ := two_new (w := w) (.cells #[.slice none 0 0] 26) (.cells #[.slice none 0 0] 26) (Below.refl _ _)
  have HS : Hid (NwR w (.slice none 0 0) 0 ((w.alloc (.cells #[.slice none 0 0] 26)).alloc (.cells #[.slice none 0 0] 26)).heap.size ((w.alloc (.cells #[.slice none 0 0] 26)).alloc (.cells #[.slice none 0 0] 26))) :=
    Lib.hid ⟨ot_nil _ _ _, two_below w _ _, x1, x0, by simp, Nat.le_refl _⟩
  clear x0 x1
  go_enter Try.func61, Try.ntmps61
  go_wp2_with fail
  go_loopw [2, 3, 4] (fun i _ _ wr => ∃ k sl, k ≤ 8 ∧ i = .int .i64 (k : Nat) ∧ NwR w sl k wr.heap.size wr) (fun i _ _ _ => 8 - (intOf i).toNat)
  case atStart => exact ⟨0, _, by omega, rfl, HS.out⟩
  case round =>
    obtain ⟨k, sl, hk, rfl, hR⟩ := hrel
    obtain ⟨wo, rfl⟩ : ∃ wo : World, wo = wr := ⟨_, rfl⟩
    clear HS
    have HR := Lib.hid hR
    clear hR
    by_cases hkl : k < 8
    · have HS2 : Hid (OI (wo.alloc (.cells #[] 3)) wo.heap.size (.slice (some ⟨wo.heap.size, 0, none⟩) 0 0) [] ∧ NwR w sl k wo.heap.size (wo.alloc (.cells #[] 3))) := Lib.hid ⟨oi_empty _ _ _ (Nat.le_refl _) rfl, HR.out.up (below_chg (balloc _ _) _)⟩
      have hkd : decide ((k : Int) < 8) = true := by simp; omega
      go_wp2_with fail
      go_loopw [3, 4] (fun s i wr => ∃ j, j ≤ 6 ∧ i = .int .i64 (j : Nat) ∧ OI wr wo.heap.size s (List.replicate j (-1)) ∧ NwR w sl k wo.heap.size wr) (fun _ i _ => 6 - (intOf i).toNat)
      case atStart => exact ⟨0, by omega, rfl, HS2.out.1, HS2.out.2⟩
      case round =>
        obtain ⟨j, hj, rfl, ho, hN⟩ := hrel
        obtain ⟨wi, rfl⟩ : ∃ wi : World, wi = wr := ⟨_, rfl⟩
        clear HS2
        have hz := hN.2.2.2.2.2
        have HO := Lib.hid (And.intro ho hN)
        clear hN
        by_cases hjl : j < 6
        · clear ho
          go_wp2_with (at_builtin; refine ap1_int rfl _ _ rfl wo.heap.size u3 (List.replicate j (-1)) (-1) rfl HO.out.1 rfl (by simp; omega) hz (by unfold I64; omega) ?_; intro v' w4 o4 c4; have O4 := Lib.hid o4.1; have B4 := Lib.hid (HO.out.2.up c4); clear o4 c4)
          go_roundw
          case rel =>
            refine ⟨j + 1, by omega, ?_, ?_, ?_⟩
            · go_num
            · rw [List.replicate_succ']; exact O4.out
            · exact B4.out
          case measure => simp [intOf]; omega
        · have hj6 : j = 6 := by omega
          subst hj6
          obtain ⟨a3, c3, b3, f3, rfl, -⟩ := ho.ri.open
          clear ho
          obtain ⟨d1, -⟩ := one_at HO.out.2.2.2.1
          replace HO := HO.out
          rw [show (List.replicate 6 (-1 : Int)).length = 6 by simp] at HO
          replace HO := Lib.hid HO
          go_wp2_with (at_builtin; refine ap_row rfl _ _ rfl (w.heap.size + 1 + 1) wo.heap.size sl (T0 k) (.slice a3 6 c3) R6 rfl HO.out.2.1 HO.out.1 hz HO.out.2.2.2.2.2.1 rfl (by simp [T0]; omega) ?_; intro v' w4 o4 c4; obtain ⟨a5, c5, b5, f5, ev, -⟩ := o4.rt.open; rw [show (T0 k ++ [R6]).length = k + 1 by simp [T0]] at ev; subst ev; have O4 := Lib.hid (nw_app HO.out.2 o4 c4); obtain ⟨d4, d5⟩ := one_at O4.out.2.2.1; clear o4 c4)
          have HF := Lib.hid (nw_set O4.out)
          go_roundw
          case rel => exact ⟨k + 1, _, by omega, by go_num, HF.out⟩
          case measure => simp [intOf]; omega
    · have hk8 : k = 8 := by omega
      subst hk8
      obtain ⟨a3, c3, b3, f3, rfl, -⟩ := HR.out.1.rt.open
      have h8 : (T0 8).length = 8 := by simp [T0]
      replace HR := HR.out
      rw [h8] at HR
      replace HR := Lib.hid HR
      obtain ⟨d1, -⟩ := one_at HR.out.2.2.1
      obtain ⟨d2, d3⟩ := one_at HR.out.2.2.2.1
      go_wp2_with fail
      have hc : Chg (fun b => b = w.heap.size) wo (wo.setCell ⟨w.heap.size, 0, none⟩ (.slice a3 8 c3)) := Chg.setCell (S := fun b => b = w.heap.size) (Chg.refl _ wo) (p := ⟨w.heap.size, 0, none⟩) (.inr rfl) _
      have hO := HR.out.1.chg hc (fun b hb _ hs => by omega)
      refine bodyPost_ret (v := .agg #[.slice a3 8 c3]) (by simp [results, Try.results61, go_sem, d2]) rfl ⟨_, rfl, (hO.wide (by omega)).mono hc.size, HR.out.2.1.trans (hc.below HR.out.2.1.size (fun i hi he => by omega))⟩

end Go.Proofs.Ytjmofmdcegefgaa

