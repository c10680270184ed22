/-
  The walk of spec.l7New.
-/
import Derived.Test.YtpfekeflkmafcaaTby
namespace Go.Proofs.Ytpfekeflkmafcaa
open Go.RowKit

/-- 'append(out, row)'. -/
theorem ap_row {w : World} {ops : Array Oper} {rest : List Oper} {o : Oper} {a : Act} {Q : Exit → Act → World → Prop} (hgd : o.guard = none) (s x : Operand)
    (ho : o.op = .call { callee := .builtin .append, args := #[s, x], argTypes := #[24, 24] }) (lo L : Nat) (sl : Value) (xss : List (List Int)) (u8 : Value) (x8 : List Int) (hs : a.eval s = sl) (hO : OT w lo L sl xss) (h8 : OI w L u8 x8) (hL : L ≤ w.heap.size) (hlo : lo ≤ L)
    (hx : a.eval x = .slice (some ⟨w.heap.size, 0, none⟩) 1 1) (hn : xss.length ≤ 1000000)
    (h : ∀ v' w', OT w' lo w'.heap.size v' (xss ++ [x8]) → Chg (fun b => sl.ownBlock = some b) w w' → wpList Try.prog ops Q rest (a.put o.dst v') w') : wpList Try.prog ops Q (o :: rest) a (w.alloc (.cells #[u8] 45)) := by
  obtain ⟨i0, hi0, hz0, hz1, hz2⟩ := info_parts Try.infoS
  obtain ⟨vs, k1, k2, k3⟩ := hO
  obtain ⟨a8, c8, b8, f8, rfl, -⟩ := h8.ri.open
  refine wpList_append_own (w.alloc (.cells #[.slice a8 x8.length c8] 45)) hgd s x 24 ho lo 45 i0 (.slice none 0 0) 1 24 Try.underlying24 hi0 hz0 hz1 hz2 rfl (by decide) sl xss.length vs hs (k1.alloc _) ⟨w.heap.size, 0, none⟩ 1 1 [.slice a8 x8.length c8] hx rfl (cell_one_new _ _ _) (fun u hu => by simp at hu; subst hu; rfl) (by simp [maxLen]; omega) (by omega) (by simp; omega) fun v' w' h1 h2 _ => ?_
  have hc : Chg (fun b => sl.ownBlock = some b) w w' := ((Chg.refl _ w).alloc _).grown h2 (fun b hb => .inr hb)
  refine h v' w' ⟨vs ++ [.slice a8 x8.length c8], by simpa using h1, fun b hb => (h1.lt b hb).2, ?_⟩ hc
  have hin : Inn IntRow w' lo L vs xss := k3.chg2 hc fun k u' b hu' hb1 hb2 => by
    have hk : k < xss.length := by rw [← k3.1]; exact (List.getElem?_eq_some_iff.1 hu').1
    have ho' : OI w lo u' xss[k] := (k3.2.1 k hk u' hu').1
    exact own_apart ho'.1 k1 (by decide) b hb1 hb2
  have h8' : OI w' L (.slice a8 x8.length c8) x8 := h8.chg hc fun b hb _ hs => by have := k2 b hs; omega
  exact hin.snoc (R := IntRow) (u := .slice a8 x8.length c8) (x := x8) (h8'.wide hlo) (fun b hb => h8'.lt b hb) (by have := hc.size; omega)

/-- The empty table. -/
def R6 : List Int := List.replicate 6 (-1)
def T0 (k : Nat) : List (List Int) := List.replicate k R6
theorem T0_succ (k : Nat) : T0 k ++ [R6] = T0 (k + 1) := by unfold T0; rw [List.replicate_succ']
def NwR (w : World) (sl : Value) (k L : Nat) (wr : World) : Prop :=
  OT wr (w.heap.size + 1 + 1) L sl (T0 k) ∧ Below w.heap.size w wr ∧ wr.heap[w.heap.size + 1]? = some (.cells #[sl] 26) ∧ wr.heap[w.heap.size]? = some (.cells #[.slice none 0 0] 26) ∧ w.heap.size + 1 + 1 ≤ L ∧ L ≤ wr.heap.size
theorem NwR.up {w wr w' : World} {sl : Value} {k L : Nat} (h : NwR w sl k L wr) (c : Chg (fun b => L ≤ b) wr w') : NwR w sl k L w' := by
  obtain ⟨h1, h2, h3, h4, h5, h6⟩ := h
  exact ⟨h1.chg c (fun b _ hb hs => by omega), h2.trans (c.below h2.size (fun i hi he => by omega)), box_chg h3 c (by omega), box_chg h4 c (by omega), h5, Nat.le_trans h6 c.size⟩

theorem nw_app {w wi w4 : World} {sl v' : Value} {k L : Nat} (h : NwR w sl k L wi) (o4 : OT w4 (w.heap.size + 1 + 1) w4.heap.size v' (T0 k ++ [R6])) (c4 : Chg (fun b => sl.ownBlock = some b) wi w4) :
    OT w4 (w.heap.size + 1 + 1) w4.heap.size v' (T0 (k + 1)) ∧ Below w.heap.size w w4 ∧ w4.heap[w.heap.size + 1]? = some (.cells #[sl] 26) ∧ w4.heap[w.heap.size]? = some (.cells #[.slice none 0 0] 26) ∧ w.heap.size + 1 + 1 ≤ w4.heap.size := by
  obtain ⟨⟨vs, k1, k2, -⟩, h2, h3, h4, h5, h6⟩ := h
  rw [T0_succ] at o4
  have hs : ∀ b, sl.ownBlock = some b → w.heap.size + 1 + 1 ≤ b := fun b hb => (k1.lt b hb).1
  exact ⟨o4, h2.trans (c4.below h2.size (fun i hi he => by have := hs i he; omega)), box_chg h3 c4 (fun he => by have := hs _ he; omega), box_chg h4 c4 (fun he => by have := hs _ he; omega), by have := c4.size; omega⟩
theorem nw_set {w w4 : World} {sl v' : Value} {k : Nat} (h : OT w4 (w.heap.size + 1 + 1) w4.heap.size v' (T0 (k + 1)) ∧ Below w.heap.size w w4 ∧ w4.heap[w.heap.size + 1]? = some (.cells #[sl] 26) ∧ w4.heap[w.heap.size]? = some (.cells #[.slice none 0 0] 26) ∧ w.heap.size + 1 + 1 ≤ w4.heap.size) :
    NwR w v' (k + 1) (w4.setCell ⟨w.heap.size + 1, 0, none⟩ v').heap.size (w4.setCell ⟨w.heap.size + 1, 0, none⟩ v') := by
  obtain ⟨h1, h2, h3, h4, h5⟩ := h
  have hc : Chg (fun b => b = w.heap.size + 1) w4 (w4.setCell ⟨w.heap.size + 1, 0, none⟩ v') := Chg.setCell (S := fun b => b = w.heap.size + 1) (Chg.refl _ w4) (p := ⟨w.heap.size + 1, 0, none⟩) (.inr rfl) _
  exact ⟨(h1.chg hc (fun b hb _ hs => by omega)).mono hc.size, h2.trans (hc.below h2.size (fun i hi he => by omega)), box_set h3 _, box_chg h4 hc (by omega), by have := hc.size; omega, Nat.le_refl _⟩

set_option maxHeartbeats 2000000 in
theorem new_any (w : World) : Calls Try.prog 25 #[] w (NewT (T0 8) w) := by
  obtain ⟨x0, x1⟩ := two_new (w := w) (.cells #[.slice none 0 0] 26) (.cells #[.slice none 0 0] 26) (Below.refl _ _)
  have HS : Hid (NwR w (.slice none 0 0) 0 ((w.alloc (.cells #[.slice none 0 0] 26)).alloc (.cells #[.slice none 0 0] 26)).heap.size ((w.alloc (.cells #[.slice none 0 0] 26)).alloc (.cells #[.slice none 0 0] 26))) :=
    Lib.hid ⟨ot_nil _ _ _, two_below w _ _, x1, x0, by simp, Nat.le_refl _⟩
  clear x0 x1
  go_enter Try.func25, Try.ntmps25
  go_wp2_with fail
  go_loopw [2, 3, 4] (fun i _ _ wr => ∃ k sl, k ≤ 8 ∧ i = .int .i64 (k : Nat) ∧ NwR w sl k wr.heap.size wr) (fun i _ _ _ => 8 - (intOf i).toNat)
  case atStart => exact ⟨0, _, by omega, rfl, HS.out⟩
  case round =>
    obtain ⟨k, sl, hk, rfl, hR⟩ := hrel
    obtain ⟨wo, rfl⟩ : ∃ wo : World, wo = wr := ⟨_, rfl⟩
    clear HS
    have HR := Lib.hid hR
    clear hR
    by_cases hkl : k < 8
    · have HS2 : Hid (OI (wo.alloc (.cells #[] 3)) wo.heap.size (.slice (some ⟨wo.heap.size, 0, none⟩) 0 0) [] ∧ NwR w sl k wo.heap.size (wo.alloc (.cells #[] 3))) := Lib.hid ⟨oi_empty _ _ _ (Nat.le_refl _) rfl, HR.out.up (below_chg (balloc _ _) _)⟩
      have hkd : decide ((k : Int) < 8) = true := by simp; omega
      go_wp2_with fail
      go_loopw [3, 4] (fun s i wr => ∃ j, j ≤ 6 ∧ i = .int .i64 (j : Nat) ∧ OI wr wo.heap.size s (List.replicate j (-1)) ∧ NwR w sl k wo.heap.size wr) (fun _ i _ => 6 - (intOf i).toNat)
      case atStart => exact ⟨0, by omega, rfl, HS2.out.1, HS2.out.2⟩
      case round =>
        obtain ⟨j, hj, rfl, ho, hN⟩ := hrel
        obtain ⟨wi, rfl⟩ : ∃ wi : World, wi = wr := ⟨_, rfl⟩
        clear HS2
        have hz := hN.2.2.2.2.2
        have HO := Lib.hid (And.intro ho hN)
        clear hN
        by_cases hjl : j < 6
        · clear ho
          go_wp2_with (at_builtin; refine ap1_int rfl _ _ rfl wo.heap.size u3 (List.replicate j (-1)) (-1) rfl HO.out.1 rfl (by simp; omega) hz (by unfold I64; omega) ?_; intro v' w4 o4 c4; have O4 := Lib.hid o4.1; have B4 := Lib.hid (HO.out.2.up c4); clear o4 c4)
          go_roundw
          case rel =>
            refine ⟨j + 1, by omega, ?_, ?_, ?_⟩
            · go_num
            · rw [List.replicate_succ']; exact O4.out
            · exact B4.out
          case measure => simp [intOf]; omega
        · have hj6 : j = 6 := by omega
          subst hj6
          obtain ⟨a3, c3, b3, f3, rfl, -⟩ := ho.ri.open
          clear ho
          obtain ⟨d1, -⟩ := one_at HO.out.2.2.2.1
          replace HO := HO.out
          rw [show (List.replicate 6 (-1 : Int)).length = 6 by simp] at HO
          replace HO := Lib.hid HO
          go_wp2_with (at_builtin; refine ap_row rfl _ _ rfl (w.heap.size + 1 + 1) wo.heap.size sl (T0 k) (.slice a3 6 c3) R6 rfl HO.out.2.1 HO.out.1 hz HO.out.2.2.2.2.2.1 rfl (by simp [T0]; omega) ?_; intro v' w4 o4 c4; obtain ⟨a5, c5, b5, f5, ev, -⟩ := o4.rt.open; rw [show (T0 k ++ [R6]).length = k + 1 by simp [T0]] at ev; subst ev; have O4 := Lib.hid (nw_app HO.out.2 o4 c4); obtain ⟨d4, d5⟩ := one_at O4.out.2.2.1; clear o4 c4)
          have HF := Lib.hid (nw_set O4.out)
          go_roundw
          case rel => exact ⟨k + 1, _, by omega, by go_num, HF.out⟩
          case measure => simp [intOf]; omega
    · have hk8 : k = 8 := by omega
      subst hk8
      obtain ⟨a3, c3, b3, f3, rfl, -⟩ := HR.out.1.rt.open
      have h8 : (T0 8).length = 8 := by simp [T0]
      replace HR := HR.out
      rw [h8] at HR
      replace HR := Lib.hid HR
      obtain ⟨d1, -⟩ := one_at HR.out.2.2.1
      obtain ⟨d2, d3⟩ := one_at HR.out.2.2.2.1
      go_wp2_with fail
      have hc : Chg (fun b => b = w.heap.size) wo (wo.setCell ⟨w.heap.size, 0, none⟩ (.slice a3 8 c3)) := Chg.setCell (S := fun b => b = w.heap.size) (Chg.refl _ wo) (p := ⟨w.heap.size, 0, none⟩) (.inr rfl) _
      have hO := HR.out.1.chg hc (fun b hb _ hs => by omega)
      refine bodyPost_ret (v := .agg #[.slice a3 8 c3]) (by simp [results, Try.results25, go_sem, d2]) rfl ⟨_, rfl, (hO.wide (by omega)).mono hc.size, HR.out.2.1.trans (hc.below HR.out.2.1.size (fun i hi he => by omega))⟩

end Go.Proofs.Ytpfekeflkmafcaa
