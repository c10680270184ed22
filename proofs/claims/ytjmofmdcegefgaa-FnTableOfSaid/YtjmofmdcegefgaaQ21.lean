/-
  Texts of this claim, laid together: Tbt.
-/
import Derived.Test.YtjmofmdcegefgaaQ01
import Derived.Test.YtjmofmdcegefgaaQ08
import Derived.Test.YtjmofmdcegefgaaQ10
namespace Go.Proofs.Ytjmofmdcegefgaa
open Go.RowKit
set_option linter.unusedSimpArgs false

/-- A row's block holds ints; the table's holds slices. -/
theorem OT.typ {w : World} {lo hi a n cap f g m cap' : Nat} {xss : List (List Int)} (h : OT w lo hi (.slice (some ⟨a, 0, none⟩) n cap) xss) (hf : f < xss.length) (hc : w.cell? ⟨a, f, none⟩ = some (.slice (some ⟨g, 0, none⟩) m cap')) : ∃ cur, w.heap[g]? = some (.cells cur 3 (0, 0)) := by
  obtain ⟨vs, h1, h2, h3⟩ := h
  obtain ⟨u, hu, ho, hb⟩ := h3.get f hf
  have ho' : OI w lo u xss[f] := ho
  obtain ⟨a', c', e1, -⟩ := own_shape1 h1 (show 0 < xss.length by omega)
  simp only [Value.slice.injEq, Option.some.injEq, Addr.mk.injEq, and_true] at e1
  obtain ⟨rfl, rfl, rfl⟩ := e1
  have e : w.cell? ⟨a, f, none⟩ = some u := by rw [h1.cellAt f (by omega)]; exact hu
  rw [hc] at e
  obtain rfl := Option.some.inj e
  rcases ho'.1.2 with ⟨h0, -⟩ | ⟨g', c', cur, hv, -, hg, -⟩
  · cases h0
  · simp only [Value.slice.injEq, Option.some.injEq, Addr.mk.injEq, and_true] at hv
    obtain ⟨rfl, -, -⟩ := hv
    exact ⟨cur, hg⟩
theorem OT.atyp {w : World} {lo hi a n cap : Nat} {xss : List (List Int)} (h : OT w lo hi (.slice (some ⟨a, 0, none⟩) n cap) xss) : ∃ cur, w.heap[a]? = some (.cells cur 31 (0, 0)) := by
  obtain ⟨vs, h1, -⟩ := h
  rcases h1.2 with ⟨h0, -⟩ | ⟨g', c', cur, hv, -, hg, -⟩
  · cases h0
  · simp only [Value.slice.injEq, Option.some.injEq, Addr.mk.injEq, and_true] at hv
    obtain ⟨rfl, -, -⟩ := hv
    exact ⟨cur, hg⟩
theorem typ_ne {w : World} {b c : Nat} {cs ds : Array Value} {t u : TypeId} (h1 : w.heap[b]? = some (.cells cs t (0, 0))) (h2 : w.heap[c]? = some (.cells ds u (0, 0))) (hne : t ≠ u) : b ≠ c := by
  rintro rfl
  rw [h1] at h2
  simp only [Option.some.injEq, Obj.cells.injEq] at h2
  exact hne h2.2.1

/-- What 'make' of ints leaves. -/
def MkR (n : Nat) (w : World) (v : Value) (w' : World) : Prop := v = .slice (some ⟨w.heap.size, 0, none⟩) n n ∧ OI w' w.heap.size (.slice (some ⟨w.heap.size, 0, none⟩) n n) (List.replicate n 0) ∧ Below w.heap.size w w'

def EtR (w w1 : World) (z : List (List Int)) (wr : World) : Prop :=
  OT wr (w.heap.size + 1) wr.heap.size (.slice (some ⟨w.heap.size + 1, 0, none⟩) 8 8) z ∧ Below w.heap.size w wr ∧
    wr.heap[w1.heap.size]? = some (.cells #[.slice (some ⟨w.heap.size + 1, 0, none⟩) 8 8] 26) ∧ wr.heap[w.heap.size]? = some (.cells #[.slice none 0 0] 26)
theorem et_start {w w1 : World} (hown : OT w1 (w.alloc (.cells #[.slice none 0 0] 26)).heap.size w1.heap.size (.slice (some ⟨(w.alloc (.cells #[.slice none 0 0] 26)).heap.size, 0, none⟩) 8 8) (List.replicate 8 []))
    (hb1 : Below (w.alloc (.cells #[.slice none 0 0] 26)).heap.size (w.alloc (.cells #[.slice none 0 0] 26)) w1) :
    EtR w w1 (pad (T0 8) 0) (w1.alloc (.cells #[.slice (some ⟨w.heap.size + 1, 0, none⟩) 8 8] 26)) ∧ w.heap.size + 1 < w1.heap.size := by
  have c := balloc w1 (.cells #[.slice (some ⟨w.heap.size + 1, 0, none⟩) 8 8] 26)
  have e : (w.alloc (.cells #[.slice none 0 0] 26)).heap.size = w.heap.size + 1 := by simp
  have hx := box_keep (heap_alloc_new w (.cells #[.slice none 0 0] 26)) hb1
  rw [e] at hown
  have z1 : w.heap.size + 1 < w1.heap.size := by
    obtain ⟨vs, h1, h2, -⟩ := hown
    exact h2 _ rfl
  refine ⟨⟨?_, bup2 (balloc w _) (bup2 hb1 c), heap_alloc_new w1 _, box_keep hx c⟩, z1⟩
  rw [pad_zero, show (T0 8).length = 8 by simp [T0]]
  exact (hown.below c).mono c.size
/-- A row of which j numbers are laid. -/
def R6j (j : Nat) : List Int := List.replicate j (-1) ++ List.replicate (6 - j) 0
theorem r6j_set {j : Nat} (hj : j < 6) : (R6j j).set j (-1) = R6j (j + 1) := by
  unfold R6j
  rw [List.set_append_right _ _ (by simp), List.length_replicate, Nat.sub_self, show 6 - j = (6 - (j + 1)) + 1 by omega, List.replicate_succ, List.set_cons_zero, List.replicate_succ', List.append_assoc]
  rfl
theorem t0_at {k : Nat} (hk : k < 8) : (T0 8)[k]'(by simpa [T0] using hk) = R6 := by simp only [T0, List.getElem_replicate]
theorem et_row {k : Nat} (hk : k < 8) : (pad (T0 8) k).set k (R6j 6) = pad (T0 8) (k + 1) := by
  have h := pad_set (T0 8) k (by simpa [T0] using hk)
  rw [t0_at hk] at h
  exact h

set_option maxHeartbeats 4000000 in
set_option maxRecDepth 4000 in
theorem empty_any (w : World) : Calls Try.prog 60 #[] w (NewT (T0 8) w) := by
  go_enter Try.func60, Try.ntmps60
  go_wp2_with (refine mk_rows rfl _ _ rfl 8 rfl rfl (by omega) ?_; intro w1 hown hb1; go_loud (have HS := Lib.hid (et_start hown hb1)); go_loud (have hbx := (one_at HS.out.1.2.2.1).1); have z1 := HS.out.2; clear hown hb1)
  go_wp2_with fail
  go_loopw [2, 3, 9] (fun _ _ i wr => ∃ k : Nat, k ≤ 8 ∧ i = .int .i64 k ∧ EtR w w1 (pad (T0 8) k) wr) (fun _ _ i _ => 8 - (intOf i).toNat)
  case atStart => exact ⟨0, by omega, rfl, HS.out.1⟩
  case round =>
    obtain ⟨k, hk, rfl, hR⟩ := hrel
    obtain ⟨wo, rfl⟩ : ∃ wo : World, wo = wr := ⟨_, rfl⟩
    clear HS hbx
    have HR := Lib.hid hR
    clear hR
    have hzo : w1.heap.size < wo.heap.size := (Array.getElem?_eq_some_iff.1 HR.out.2.2.1).1
    have hwz : w.heap.size + 1 ≤ wo.heap.size := by omega
    obtain ⟨hbx, -⟩ := one_at HR.out.2.2.1
    by_cases hk8 : k < 8
    · have hki : decide ((k : Int) < 8) = true := by simp; omega
      have hki2 : (k : Int) < 8 := by omega
      go_wp2_with fail
      refine region_held_n 6 (S := fun w' => Chg (fun b => b = w.heap.size + 1) wo w') (by kernel_rfl) (by kernel_rfl) (below_chg (bdrew _) _) (fun hS0 => ?_)
      refine hs_take (fuel := 5) 0 (some 12) (.pointer (some ⟨w1.heap.size, 0, none⟩)) rfl rfl (by kernel_rfl) (by kernel_rfl) (by kernel_rfl) (fun _ _ _ h => h) (by rfl) (fun wq hq => ?_) (by assumption) ?_
      · go_simp
      simp only [Act.put, List.setIfInBounds_toArray, List.set_cons_zero, List.set_cons_succ]
      refine hs_take (fuel := 4) 1 (some 13) (.slice (some ⟨w.heap.size + 1, 0, none⟩) 8 8) rfl rfl (by kernel_rfl) (by kernel_rfl) (by kernel_rfl) (fun _ _ _ h => h) (by rfl) (fun wq hq => ?_) (by assumption) ?_
      · have p1 := hq.cell (p := ⟨w1.heap.size, 0, none⟩) hzo (by show ¬ w1.heap.size = _; omega)
        rw [hbx] at p1
        go_simp
      simp only [Act.put, List.setIfInBounds_toArray, List.set_cons_zero, List.set_cons_succ]
      refine hs_take (fuel := 3) 2 (some 14) (.int .i64 k) rfl rfl (by kernel_rfl) (by kernel_rfl) (by kernel_rfl) (fun _ _ _ h => h) (by rfl) (fun wq hq => ?_) (by assumption) ?_
      · go_simp
      simp only [Act.put, List.setIfInBounds_toArray, List.set_cons_zero, List.set_cons_succ]
      refine wpAnyH_ready (fuel := 2) (rs := [3]) (by kernel_rfl) (by simp) (AllReadyH.cons rfl (fun K hK => ?_) AllReadyH.nil)
      rw [if_pos (by rfl)]
      refine Frees.wp (R := MkR 6 wo.drew) (frees_mk (.const (.int .i64 6)) (.const (.int .i64 6)) rfl 6 rfl rfl (by omega) fun w2 o2 b2 => ⟨rfl, o2, b2⟩) (fun v2 w2 m2 => ?_)
      obtain ⟨rfl, o2, b2⟩ := m2
      refine hK.out _ _ ?_ (fun hS => ?_)
      · exact below_chg (bup2 (bdrew wo) b2) _
      refine hs_take (fuel := 1) 4 (some 16) (.pointer (some ⟨w.heap.size + 1, k, none⟩)) rfl rfl (by kernel_rfl) (by kernel_rfl) (by kernel_rfl) (fun _ _ _ h => h) (by rfl) (fun wq hq => ?_) (by assumption) ?_
      · go_simp
      simp only [Act.put, List.setIfInBounds_toArray, List.set_cons_zero, List.set_cons_succ]
      refine wpAnyH_ready (fuel := 0) (rs := [5]) (by kernel_rfl) (by simp) (AllReadyH.cons rfl (fun K hK => ?_) AllReadyH.nil)
      have hO2 := (HR.out.1.below (bup2 (bdrew wo) b2))
      obtain ⟨A2, cap2, e2, -, ⟨u3, hcu3⟩, hf3, -, hput⟩ := hO2.row (hi' := w2.heap.size) k (by rw [pad_len _ _ (by simpa [T0] using hk)]; simpa [T0] using hk8)
      simp only [Value.slice.injEq, Option.some.injEq, Addr.mk.injEq, and_true] at e2
      obtain ⟨rfl, -, -⟩ := e2
      have hp := hput _ _ (o2.wide hwz) (fun b hb => o2.lt b hb) b2.size
      have HP := Lib.hid hp
      clear hput hO2 hp
      go_simp
      refine hK.out _ _ ?_ (fun hS => ?_)
      · exact Chg.setCell (S := fun b => b = w.heap.size + 1) (below_chg (bup2 (bdrew wo) b2) _) (p := ⟨w.heap.size + 1, k, none⟩) (.inr rfl) _
      refine wpAnyH_done (by kernel_rfl) ?_ _
      have hAg := HP.out
      rw [show wo.drew.heap.size = wo.heap.size from rfl] at hAg
      obtain ⟨w3, hw3⟩ : ∃ w3, w3 = w2.setCell ⟨w.heap.size + 1, k, none⟩ (.slice (some ⟨wo.heap.size, 0, none⟩) 6 6) := ⟨_, rfl⟩
      have hz3 : w2.heap.size = w3.heap.size := by rw [hw3]; simp [World.setCell]
      rw [← hw3] at hAg hS ⊢
      have hE : EtR w w1 ((pad (T0 8) k).set k (R6j 0)) w3 := by
        refine ⟨?_, HR.out.2.1.trans (hS.below HR.out.2.1.size (fun i hi he => by omega)), box_chg HR.out.2.2.1 hS (by omega), box_chg HR.out.2.2.2 hS (by omega)⟩
        rw [hz3] at hAg
        exact hAg
      have HE := Lib.hid hE
      have hkl : k < ((pad (T0 8) k).set k (R6j 0)).length := by rw [List.length_set, pad_len _ _ (by simpa [T0] using hk)]; simpa [T0] using hk8
      obtain ⟨A', cap', u4, e1, -, hcu4, ho4, hb4, -⟩ := hE.1.inner k hkl
      simp only [Value.slice.injEq, Option.some.injEq, Addr.mk.injEq, and_true] at e1
      obtain ⟨rfl, -, -⟩ := e1
      have hl4 : (((pad (T0 8) k).set k (R6j 0))[k]'hkl).length = 6 := by simp [R6j]
      obtain ⟨g, cap4, rfl, -, -, -⟩ := own_shape1 ho4.1 (by rw [hl4]; omega)
      rw [hl4] at hcu4
      obtain ⟨hbx3, -⟩ := one_at hE.2.2.1
      clear hE hAg hw3 hz3 hS hS0 hkl hl4 ho4 hb4 HP hcu3 hf3 o2 b2 hbx
      go_wp2_with fail
      go_loopw [3, 23] (fun _ i wr => ∃ j : Nat, j ≤ 6 ∧ i = .int .i64 j ∧ EtR w w1 ((pad (T0 8) k).set k (R6j j)) wr) (fun _ i _ => 6 - (intOf i).toNat)
      case atStart => exact ⟨0, by omega, rfl, HE.out⟩
      case round =>
        obtain ⟨j, hj, rfl, hR⟩ := hrel
        obtain ⟨wi, rfl⟩ : ∃ wi : World, wi = wr := ⟨_, rfl⟩
        clear HE hbx3 hcu4
        have HR := Lib.hid hR
        clear hR
        obtain ⟨hbx, -⟩ := one_at HR.out.2.2.1
        by_cases hj6 : j < 6
        · have hkl : k < ((pad (T0 8) k).set k (R6j j)).length := by rw [List.length_set, pad_len _ _ (by simpa [T0] using hk)]; simpa [T0] using hk8
          have e1 : (((pad (T0 8) k).set k (R6j j))[k]'hkl) = R6j j := by simp
          have hl6 : (((pad (T0 8) k).set k (R6j j))[k]'hkl).length = 6 := by rw [e1]; simp [R6j]; omega
          obtain ⟨a', cap', g, cap3, ev, -, hcu, hcap3, ⟨u3, hu3⟩, hfz, ⟨hg1, hg2⟩, hput⟩ := HR.out.1.store k j hkl (by rw [hl6]; exact hj6)
          simp only [Value.slice.injEq, Option.some.injEq, Addr.mk.injEq, and_true] at ev
          obtain ⟨rfl, -, -⟩ := ev
          obtain ⟨cur, hcur⟩ := HR.out.1.typ hkl hcu
          have hgC : g ≠ w1.heap.size := typ_ne hcur HR.out.2.2.1 (by decide)
          rw [hl6] at hcu hcap3
          have hp := hput (-1) (by unfold I64; omega)
          simp only [e1] at hp
          rw [List.set_set, r6j_set hj6] at hp
          have hc : Chg (fun b => b = g) wi (wi.setCell ⟨g, j, none⟩ (.int .i64 (-1))) := Chg.setCell (S := fun b => b = g) (Chg.refl _ wi) (p := ⟨g, j, none⟩) (.inr rfl) _
          have HF : Hid (EtR w w1 ((pad (T0 8) k).set k (R6j (j + 1))) (wi.setCell ⟨g, j, none⟩ (.int .i64 (-1)))) :=
            Lib.hid ⟨hp.mono hc.size, HR.out.2.1.trans (hc.below HR.out.2.1.size (fun i hi he => by omega)), box_chg HR.out.2.2.1 hc (by omega), box_chg HR.out.2.2.2 hc (by omega)⟩
          have hji : decide ((j : Int) < 6) = true := by simp; omega
          have hji2 : (j : Int) < 6 := by omega
          clear hput hp hc hl6 e1 hkl hcur hgC
          go_wp2_with fail
          go_roundw
          case rel => exact ⟨j + 1, by omega, by go_num, HF.out⟩
          case measure => simp [intOf]; omega
        · obtain rfl : j = 6 := by omega
          have hE := HR.out
          rw [et_row hk8] at hE
          have HF := Lib.hid hE
          clear hE hbx
          go_wp2_with fail
          go_roundw
          case rel => exact ⟨k + 1, by omega, by go_num, HF.out⟩
          case measure => simp [intOf]; omega
    · obtain rfl : k = 8 := by omega
      obtain ⟨d2, d3⟩ := one_at HR.out.2.2.2
      go_wp2_with fail
      have hc : Chg (fun b => b = w.heap.size) wo (wo.setCell ⟨w.heap.size, 0, none⟩ (.slice (some ⟨w.heap.size + 1, 0, none⟩) 8 8)) := Chg.setCell (S := fun b => b = w.heap.size) (Chg.refl _ wo) (p := ⟨w.heap.size, 0, none⟩) (.inr rfl) _
      have hO := HR.out.1.chg hc (fun b hb _ hs => by omega)
      rw [pad_all (T0 8) 8 (by simp [T0])] at hO
      refine bodyPost_ret (v := .agg #[.slice (some ⟨w.heap.size + 1, 0, none⟩) 8 8]) (by simp [results, Try.results60, go_sem, d2]) rfl ⟨_, rfl, (hO.wide (by omega)).mono hc.size, HR.out.2.1.trans (hc.below HR.out.2.1.size (fun i hi he => by omega))⟩

end Go.Proofs.Ytjmofmdcegefgaa

