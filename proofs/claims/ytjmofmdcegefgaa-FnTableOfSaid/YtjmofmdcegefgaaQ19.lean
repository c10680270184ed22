/-
  Texts of this claim, laid together: Bcw.
-/
import Derived.Test.YtjmofmdcegefgaaQ07
import Derived.Test.YtjmofmdcegefgaaQ11
import Derived.Test.YtjmofmdcegefgaaQ17
import Derived.Test.YtjmofmdcegefgaaQ18
namespace Go.Proofs.Ytjmofmdcegefgaa
open Go.RowKit

set_option maxHeartbeats 2000000 in
set_option maxRecDepth 4000 in
theorem implBcs_any (v tv : Value) (d : List Bk) (t : List (List Int)) (lo hi lo2 hi2 : Nat) (w : World) (h : RD w lo hi v d) (h2 : RT w lo2 hi2 tv t) : Calls Try.prog 13 #[v, .agg #[tv]] w (NewI (bcs d t) w) := by
  obtain ⟨a, cap, b, off, rfl, q1, q2, q3, -⟩ := h.open
  obtain ⟨a2, cap2, b2, off2, rfl, -⟩ := h2.open
  have hb0 := balloc w (.cells #[.slice a2 t.length cap2] 26)
  have X0 := Lib.hid (heap_alloc_new w (.cells #[.slice a2 t.length cap2] 26))
  have HD := Lib.hid (h.below hb0)
  have HT := Lib.hid (h2.below hb0)
  have HB0 := Lib.hid hb0
  clear h h2 hb0 q3
  cases hv : dvOk d
  · have HU := Lib.hid (bcs_dv (t := t) hv)
    have c1 := fun wx h => implDvv_any (.slice a d.length cap) d lo hi wx h
    rw [hv] at c1
    have C1 := Lib.hid c1
    clear c1 hv
    go_enter Try.func13, Try.ntmps13
    go_wp2_with fail
    refine (C1.out _ HD.out).mono ?_
    rintro e w1 ⟨rfl, b1⟩
    have HF := Lib.hid (bup2 HB0.out b1)
    clear b1
    go_wp2_with fail
    all_goals (go_ret; exact ⟨_, rfl, by rw [HU.out]; exact oi_nil _ _, HF.out⟩)
  · have HV := Lib.hid hv
    have hl12 := (dv_len hv).2
    have c1 := fun wx h => implDvv_any (.slice a d.length cap) d lo hi wx h
    rw [hv] at c1
    have C1 := Lib.hid c1
    clear c1 hv
    cases hv : tabVal t
    · have HU := Lib.hid (bcs_tb (d := d) hv)
      have c1 := fun wx h => implTbv_any (.slice a2 t.length cap2) t lo2 hi2 wx h
      rw [hv] at c1
      have C2 := Lib.hid c1
      clear c1 hv
      go_enter Try.func13, Try.ntmps13
      go_wp2_with fail
      refine (C1.out _ HD.out).mono ?_
      rintro e w1 ⟨rfl, b1⟩
      have HB1 := Lib.hid (And.intro (bup2 HB0.out b1) (And.intro b1 (box_keep X0.out b1)))
      obtain ⟨d1, -⟩ := one_at HB1.out.2.2
      clear b1
      go_wp2_with fail
      refine (C2.out _ (HT.out.below HB1.out.2.1)).mono ?_
      rintro e w2 ⟨rfl, b2⟩
      have HF := Lib.hid (bup2 HB1.out.1 b2)
      clear b2
      go_wp2_with fail
      all_goals (go_ret; exact ⟨_, rfl, by rw [HU.out]; exact oi_nil _ _, HF.out⟩)
    · have HVT := Lib.hid hv
      have HU := Lib.hid (bcs_yes HV.out hv)
      have c1 := fun wx h => implTbv_any (.slice a2 t.length cap2) t lo2 hi2 wx h
      rw [hv] at c1
      have C2 := Lib.hid c1
      have C3 := Lib.hid (fun wx h => implUsed_any (.slice a2 t.length cap2) t lo2 hi2 wx h)
      have hlu := used_len t
      clear c1 hv
      go_enter Try.func13, Try.ntmps13
      go_wp2_with fail
      refine (C1.out _ HD.out).mono ?_
      rintro e w1 ⟨rfl, b1⟩
      have HB1 := Lib.hid (And.intro (bup2 HB0.out b1) (And.intro b1 (box_keep X0.out b1)))
      obtain ⟨d1, -⟩ := one_at HB1.out.2.2
      clear b1
      go_wp2_with fail
      refine (C2.out _ (HT.out.below HB1.out.2.1)).mono ?_
      rintro e w2 ⟨rfl, b2⟩
      have HB2 := Lib.hid (And.intro (bup2 HB1.out.1 b2) (And.intro (bup2 HB1.out.2.1 b2) (box_keep HB1.out.2.2 b2)))
      clear b2 d1
      go_wp2_with (refine mk_ints rfl _ _ rfl d.length rfl rfl (by omega) ?_; rintro w3 ⟨cs, hown, rfl⟩ hb3; obtain ⟨d1, -⟩ := one_at (box_keep HB2.out.2.2 hb3))
      have z2 := HB2.out.2.1.size
      have z3 := hb3.size
      simp only [World.size_alloc] at z2
      have ho3 : OI w3 (w.heap.size + 1) (.slice (some ⟨w2.heap.size, 0, none⟩) d.length d.length) (cntN d [] d.length) := by
        refine ⟨?_, fun x hx => ?_⟩
        · rw [cntN_len, cntN_nil, List.map_replicate]
          exact own_wide hown (by omega)
        · rw [cntN_nil] at hx
          rw [List.eq_of_mem_replicate hx]
          unfold I64; omega
      have HO3 := Lib.hid (And.intro ho3 hb3)
      clear hown ho3 hb3
      go_wp2_with fail
      refine (C3.out _ (HT.out.below (bup2 HB2.out.2.1 HO3.out.2))).mono ?_
      rintro e w4 ⟨vu, rfl, o4, b4⟩
      have z4 := b4.size
      have hlt3 := (HO3.out.1.lt w2.heap.size rfl).2
      obtain ⟨au, capu, bu, offu, rfl, u1, u2, u3', -⟩ := o4.ri.open
      have HR0 : Hid (BcR w w3.heap.size w4.heap.size (.slice a2 t.length cap2) (.slice (some ⟨w2.heap.size, 0, none⟩) d.length d.length) (cntN d ((used t).take 0) d.length) (.slice au (used t).length capu) (used t) w4) :=
        Lib.hid ⟨HO3.out.1.below b4, fun b hb => by simp only [Value.ownBlock, Option.some.injEq] at hb; omega, o4.ri, bup2 HB2.out.1 (bup2 HO3.out.2 b4), ⟨by omega, Nat.le_refl _, z4⟩, box_keep (box_keep HB2.out.2.2 HO3.out.2) b4⟩
      have HDD := Lib.hid (bup2 (bup2 HB2.out.2.1 HO3.out.2) b4)
      clear o4 b4 d1 HO3 HB2 HB1 C1 C2 C3 X0
      go_wp2_with fail
      go_loopw [7, 22] (fun _ i wr => ∃ k : Nat, k ≤ (used t).length ∧ i = .int .i64 k ∧ BcR w w3.heap.size w4.heap.size (.slice a2 t.length cap2) (.slice (some ⟨w2.heap.size, 0, none⟩) d.length d.length) (cntN d ((used t).take k) d.length) (.slice au (used t).length capu) (used t) wr ∧ Below (w.heap.size + 1) (w.alloc (.cells #[.slice a2 t.length cap2] 26)) wr) (fun _ i _ => (used t).length - (intOf i).toNat)
      case atStart => exact ⟨0, Nat.zero_le _, rfl, HR0.out, by have := HDD.out; simpa using this⟩
      case round =>
        obtain ⟨k, hk, rfl, hR, hbr⟩ := hrel
        have HR := Lib.hid (And.intro hR hbr)
        clear hR hbr HR0 HDD
        by_cases hlt : k < (used t).length
        · obtain rfl := u3' (by omega)
          have hki : (k : Int) < ((used t).length : Int) := by omega
          obtain ⟨x, hx, hx48⟩ := used_at HVT.out hlt
          have hc := HR.out.1.red.cell hlt
          rw [hx] at hc
          have htk : (used t).take (k + 1) = (used t).take k ++ [(x : Int)] := by rw [List.take_succ_eq_append_getElem hlt, hx]
          have HTK := Lib.hid htk
          clear htk hx u3'
          by_cases hin : x < 4 * d.length
          · have hini : (x : Int) < (d.length : Int) * 4 := by omega
            have HRB : Hid (Below (w.alloc (.cells #[.slice a2 t.length cap2] 26)).heap.size (w.alloc (.cells #[.slice a2 t.length cap2] 26)) wr) := Lib.hid (by have := HR.out.2; simpa using this)
            have c4 := fun wx h => implPat_any (.slice a d.length cap) d x lo hi wx h HV.out hin
            obtain ⟨p, hp⟩ : ∃ p, p = dat d x := ⟨_, rfl⟩
            rw [← hp] at c4
            have hrf := rdp_full HV.out x
            rw [← hp] at hrf
            simp only [hin, decide_true, Bool.true_and] at hrf
            obtain ⟨f, fi, pl, va, st⟩ := p
            cases f
            · have HN := Lib.hid (cntN_no (us := (used t).take k) (n := d.length) hrf)
              have C4 := Lib.hid c4
              clear c4 hp hrf
              go_wp2_with fail
              refine (C4.out _ (HD.out.below HRB.out)).mono ?_
              rintro e w5 ⟨rfl, b5⟩
              unfold pgv
              have HR5 := Lib.hid (And.intro (HR.out.1.keep b5) (HR.out.2.trans (b5.mono (by have := HR.out.1.ord; omega))))
              clear b5
              go_wp2_with fail
              rw [fld_full]
              simp only [Result.andThen_ok]
              rw [Oper.upon_value]
              go_wp2_with fail
              go_roundw
              case rel => exact ⟨k + 1, by omega, by go_num, by rw [HTK.out, HN.out]; exact HR5.out.1, HR5.out.2⟩
              case measure => simp [intOf]; omega
            · have hx4 : x / 4 < d.length := by omega
              have hn := cntN_yes (us := (used t).take k) (n := d.length) hrf hx4
              have hk12 : x / 4 < (cntN d ((used t).take k) d.length).length := by rw [cntN_len]; exact hx4
              have hat := cntN_at d ((used t).take k) hk12
              have hle := cnt_le d ((used t).take k) (x / 4 : Nat)
              rw [List.length_take] at hle
              generalize cnt d ((used t).take k) (x / 4 : Nat) = c at hn hat hle
              have HN := Lib.hid hn
              have HAT := Lib.hid hat
              clear hn
              have C4 := Lib.hid c4
              have h4i : (x : Int) / 4 < (d.length : Int) := by omega
              clear c4 hp hrf hat
              go_wp2_with fail
              refine (C4.out _ (HD.out.below HRB.out)).mono ?_
              rintro e w5 ⟨rfl, b5⟩
              unfold pgv
              have HR5 := Lib.hid (And.intro (HR.out.1.keep b5) (HR.out.2.trans (b5.mono (by have := HR.out.1.ord; omega))))
              obtain ⟨⟨e1, e2⟩, -⟩ := HR5.out.1.set hk12
              rw [HAT.out] at e1
              have hcle : (c : Int) ≤ 48 := by omega
              have HS := Lib.hid (And.intro ((HR5.out.1.set hk12).2 ((c : Int) + 1) (by unfold I64; omega)) (HR5.out.2.setCell (p := ⟨w2.heap.size, x / 4, none⟩) (by show w.heap.size + 1 ≤ w2.heap.size; omega) (.int .i64 ((c : Int) + 1))))
              clear b5
              go_wp2_with fail
              rw [fld_full]
              simp only [Result.andThen_ok]
              rw [Oper.upon_value]
              go_wp2_with fail
              go_roundw
              case rel => exact ⟨k + 1, by omega, by go_num, by rw [HTK.out, HN.out]; exact HS.out.1, HS.out.2⟩
              case measure => simp [intOf]; omega
          · have hini : ¬ (x : Int) < (d.length : Int) * 4 := by omega
            have hrf := rdp_full HV.out x
            simp only [hin, decide_false, Bool.false_and] at hrf
            have HN := Lib.hid (cntN_no (us := (used t).take k) (n := d.length) hrf)
            clear hrf
            go_wp2_with fail
            go_roundw
            case rel => exact ⟨k + 1, by omega, by go_num, by rw [HTK.out, HN.out]; exact HR.out.1, HR.out.2⟩
            case measure => simp [intOf]; omega
        · have hki : ¬ (k : Int) < ((used t).length : Int) := by omega
          have hall : (used t).take k = used t := List.take_of_length_le (by omega)
          have HF := HR.out.1
          rw [hall, ← HU.out] at HF
          have HF2 := Lib.hid HF
          clear HF hall
          go_wp2_with fail
          go_ret
          exact ⟨_, rfl, HF2.out.own.wide (by omega), HF2.out.bel⟩

set_option maxHeartbeats 2000000 in
set_option maxRecDepth 4000 in
theorem specBcs_any (v tv : Value) (d : List Bk) (t : List (List Int)) (lo hi lo2 hi2 : Nat) (w : World) (h : RD w lo hi v d) (h2 : RT w lo2 hi2 tv t) : Calls Try.prog 38 #[v, .agg #[tv]] w (NewI (bcs d t) w) := by
  obtain ⟨a, cap, b, off, rfl, q1, q2, q3, -⟩ := h.open
  obtain ⟨a2, cap2, b2, off2, rfl, -⟩ := h2.open
  have e1 : (w.alloc (.cells #[.slice a2 t.length cap2] 26)).heap.size = w.heap.size + 1 := by simp
  have hb0 := two_below w (.cells #[.slice a2 t.length cap2] 26) (.cells #[] 3)
  have X0 := Lib.hid (box_keep (heap_alloc_new w (.cells #[.slice a2 t.length cap2] 26)) (balloc _ (.cells #[] 3)))
  have HO := Lib.hid (oi_empty (w.alloc (.cells #[.slice a2 t.length cap2] 26)) (w.heap.size + 1) (w.heap.size + 1) (by omega) e1)
  have HD0 := Lib.hid h
  have HT0 := Lib.hid h2
  have HD := Lib.hid (h.below hb0)
  have HT := Lib.hid (h2.below hb0)
  have HB0 := Lib.hid hb0
  have e2 : ((w.alloc (.cells #[.slice a2 t.length cap2] 26)).alloc (.cells #[] 3)).heap.size = w.heap.size + 2 := by simp
  have C3 := Lib.hid (fun wx h => specUsed_any (.slice a2 t.length cap2) t lo2 hi2 wx h)
  have hlu := used_len t
  obtain ⟨wz, hwz⟩ : ∃ wz : World, wz = (w.alloc (.cells #[.slice a2 t.length cap2] 26)).alloc (.cells #[] 3) := ⟨_, rfl⟩
  have HWZ := Lib.hid hwz
  rw [← hwz] at X0 HO HD HT HB0 e2
  obtain ⟨d1, -⟩ := one_at X0.out
  rw [hwz] at d1
  clear h h2 hb0 q3 e1 hwz
  have key : ∀ w3 vu, OI w3 wz.heap.size vu (used t) → Below wz.heap.size wz w3 → BcR w wz.heap.size w3.heap.size (.slice a2 t.length cap2) (.slice (some ⟨w.heap.size + 1, 0, none⟩) 0 0) [] vu (used t) w3 ∧ Below wz.heap.size wz w3 := fun w3 vu o b => by
    have := b.size
    exact ⟨⟨HO.out.below b, fun k hk => by simp only [Value.ownBlock, Option.some.injEq] at hk; omega, o.ri, bup2 HB0.out b, ⟨by omega, Nat.le_refl _, by omega⟩, box_keep X0.out b⟩, b⟩
  have HK := Lib.hid key
  clear key
  cases hv : dvOk d
  · have HU := Lib.hid (bcs_dv (t := t) hv)
    have c1 := fun wx h => specDvv_any (.slice a d.length cap) d lo hi wx h
    rw [hv] at c1
    have C1 := Lib.hid c1
    clear c1 hv
    go_enter Try.func38, Try.ntmps38
    go_wp2_with fail
    rw [← HWZ.out]
    refine (C3.out _ HT.out).mono ?_
    rintro e w3 ⟨vu, rfl, o3, b3⟩
    obtain ⟨au, capu, bu, offu, rfl, u1, u2, u3', -⟩ := o3.ri.open
    have HR := Lib.hid (HK.out _ _ o3 b3)
    clear o3 b3 HK d1
    go_wp2_with fail
    refine wp_loop_rounds 1 ?_
    rw [rounds_succ]
    by_cases hd0 : d.length = 0
    · have hd1 : ¬ (0 : Int) < (d.length : Int) := by omega
      go_wp2_with fail
      go_ret
      exact ⟨_, rfl, by rw [HU.out]; exact HR.out.1.own.wide (by omega), HR.out.1.bel⟩
    · have hd1 : 0 < d.length := by omega
      go_wp2_with fail
      refine (C1.out _ (HD.out.below HR.out.2)).mono ?_
      rintro e w4 ⟨rfl, b4⟩
      have HF := Lib.hid (HR.out.1.keep b4)
      clear b4
      go_wp2_with fail
      go_ret
      exact ⟨_, rfl, by rw [HU.out]; exact HF.out.own.wide (by omega), HF.out.bel⟩
  · have HV := Lib.hid hv
    have hl12 := (dv_len hv).2
    have hl1 := (dv_len hv).1
    have c1 := fun wx h => specDvv_any (.slice a d.length cap) d lo hi wx h
    rw [hv] at c1
    have C1 := Lib.hid c1
    clear c1 hv
    cases hv : tabVal t
    · have HU := Lib.hid (bcs_tb (d := d) hv)
      have c1 := fun wx h => specTbv_any (.slice a2 t.length cap2) t lo2 hi2 wx h
      rw [hv] at c1
      have C2 := Lib.hid c1
      clear c1 hv
      go_enter Try.func38, Try.ntmps38
      go_wp2_with fail
      rw [← HWZ.out]
      refine (C3.out _ HT.out).mono ?_
      rintro e w3 ⟨vu, rfl, o3, b3⟩
      obtain ⟨au, capu, bu, offu, rfl, u1, u2, u3', -⟩ := o3.ri.open
      have HR := Lib.hid (HK.out _ _ o3 b3)
      clear o3 b3 HK d1
      go_wp2_with fail
      refine wp_loop_rounds 1 ?_
      rw [rounds_succ]
      have hd1 : 0 < d.length := by omega
      go_wp2_with fail
      refine (C1.out _ (HD.out.below HR.out.2)).mono ?_
      rintro e w4 ⟨rfl, b4⟩
      have HR4 := Lib.hid (And.intro (HR.out.1.keep b4) (bup2 HR.out.2 b4))
      obtain ⟨d1, -⟩ := one_at HR4.out.1.box
      clear b4
      go_wp2_with fail
      refine (C2.out _ (HT.out.below HR4.out.2)).mono ?_
      rintro e w5 ⟨rfl, b5⟩
      have HF := Lib.hid (HR4.out.1.keep b5)
      clear b5
      go_wp2_with fail
      go_ret
      exact ⟨_, rfl, by rw [HU.out]; exact HF.out.own.wide (by omega), HF.out.bel⟩
    · have HVT := Lib.hid hv
      have HU := Lib.hid (bcs_yes HV.out hv)
      have c1 := fun wx h => specTbv_any (.slice a2 t.length cap2) t lo2 hi2 wx h
      rw [hv] at c1
      have C2 := Lib.hid c1
      have C4 := Lib.hid (fun n wx h hn => specRdp_any (.slice a d.length cap) d n lo hi wx h hn)
      clear c1 hv
      go_enter Try.func38, Try.ntmps38
      go_wp2_with fail
      rw [← HWZ.out]
      refine (C3.out _ HT.out).mono ?_
      rintro e w3 ⟨vu, rfl, o3, b3⟩
      obtain ⟨au, capu, bu, offu, rfl, u1, u2, u3', -⟩ := o3.ri.open
      have HR := Lib.hid (HK.out _ _ o3 b3)
      clear o3 b3 HK d1 C3
      go_wp2_with fail
      go_loopw [5, 7, 8, 9, 10, 11] (fun u i _ _ _ _ wr => ∃ n : Nat, n ≤ d.length ∧ i = .int .i64 n ∧ BcR w wz.heap.size w3.heap.size (.slice a2 t.length cap2) u (cntN d (used t) n) (.slice au (used t).length capu) (used t) wr ∧ Below w.heap.size w wr) (fun _ i _ _ _ _ _ => d.length - (intOf i).toNat)
      case atStart => exact ⟨0, Nat.zero_le _, rfl, by rw [cntN_zero]; exact HR.out.1, HR.out.1.bel⟩
      case round =>
        obtain ⟨n, hn, rfl, hR, hbr⟩ := hrel
        have HQ := Lib.hid (And.intro hR hbr)
        clear hR hbr HR
        by_cases hlt : n < d.length
        · have hni : (n : Int) < (d.length : Int) := by omega
          go_wp2_with fail
          refine (C1.out _ (HD0.out.below HQ.out.2)).mono ?_
          rintro e w4 ⟨rfl, b4⟩
          have HR4 := Lib.hid (And.intro (HQ.out.1.keep b4) (bup2 HQ.out.2 b4))
          obtain ⟨d1, -⟩ := one_at HR4.out.1.box
          clear b4 HQ
          go_wp2_with fail
          refine (C2.out _ (HT0.out.below HR4.out.2)).mono ?_
          rintro e w5 ⟨rfl, b5⟩
          have HR5 := Lib.hid (And.intro (HR4.out.1.keep b5) (bup2 HR4.out.2 b5))
          clear b5 HR4 d1
          go_wp2_with fail
          go_loopw [8, 9, 10, 11] (fun c i _ _ wr => ∃ k : Nat, k ≤ (used t).length ∧ i = .int .i64 k ∧ c = .int .i64 (cnt d ((used t).take k) n) ∧ BcR w wz.heap.size w3.heap.size (.slice a2 t.length cap2) u5 (cntN d (used t) n) (.slice au (used t).length capu) (used t) wr ∧ Below w.heap.size w wr) (fun _ i _ _ _ => (used t).length - (intOf i).toNat)
          case atStart => exact ⟨0, Nat.zero_le _, rfl, rfl, HR5.out.1, HR5.out.2⟩
          case round =>
            obtain ⟨k, hk, rfl, rfl, hR, hbr⟩ := hrel
            have HQ := Lib.hid (And.intro hR hbr)
            clear hR hbr HR5
            have hle := cnt_le d ((used t).take k) n
            rw [List.length_take] at hle
            by_cases hlk : k < (used t).length
            · obtain rfl := u3' (by omega)
              have hki : (k : Int) < ((used t).length : Int) := by omega
              obtain ⟨x, hx, hx48⟩ := used_at HVT.out hlk
              have hc := HQ.out.1.red.cell hlk
              have hst := cnt_take (d := d) hlk n
              rw [hx] at hc hst
              have c4 := fun wx h => C4.out (x : Int) wx h (by unfold I64; omega)
              generalize rdp d x = r at hst c4
              obtain ⟨⟨f0, fi, pl, va, st⟩, f⟩ := r
              have C5 := Lib.hid c4
              clear u3' hx c4
              cases f
              · simp only [Bool.false_eq_true, false_and, if_false, Nat.add_zero] at hst
                have HST := Lib.hid hst
                clear hst
                go_wp2_with fail
                refine (C5.out _ (HD0.out.below HQ.out.2)).mono ?_
                rintro e w6 ⟨rfl, b6⟩
                unfold pgv
                have b7 := bup2 b6 (balloc w6 (.cells #[.bool f0, .int .i64 fi, .int .i64 pl, .int .i64 va, .int .i64 st] 53))
                have HQ7 := Lib.hid (And.intro (HQ.out.1.keep b7) (bup2 HQ.out.2 b7))
                clear b6 b7
                go_wp2_with fail
                go_roundw
                case rel => exact ⟨k + 1, by omega, by go_num, by rw [HST.out], HQ7.out.1, HQ7.out.2⟩
                case measure => simp [intOf]; omega
              · have b7 := fun w6 => balloc w6 (.cells #[.bool f0, .int .i64 fi, .int .i64 pl, .int .i64 va, .int .i64 st] 53)
                by_cases hq : (x : Int) / 4 = (n : Int)
                · rw [if_pos ⟨rfl, hq⟩] at hst
                  have HST := Lib.hid hst
                  clear hst
                  go_wp2_with fail
                  refine (C5.out _ (HD0.out.below HQ.out.2)).mono ?_
                  rintro e w6 ⟨rfl, b6⟩
                  unfold pgv
                  have b7' := bup2 b6 (b7 w6)
                  have HQ7 := Lib.hid (And.intro (HQ.out.1.keep b7') (bup2 HQ.out.2 b7'))
                  have hc2 := cell_later b7' hc
                  have hqb : ((x : Int) / 4 == (n : Int)) = true := by simpa using hq
                  clear b6 b7 b7' hq
                  go_wp2_with fail
                  go_roundw
                  case rel => exact ⟨k + 1, by omega, by go_num, by rw [HST.out]; go_num, HQ7.out.1, HQ7.out.2⟩
                  case measure => simp [intOf]; omega
                · rw [if_neg (fun h => hq h.2)] at hst
                  have HST := Lib.hid hst
                  clear hst
                  go_wp2_with fail
                  refine (C5.out _ (HD0.out.below HQ.out.2)).mono ?_
                  rintro e w6 ⟨rfl, b6⟩
                  unfold pgv
                  have b7' := bup2 b6 (b7 w6)
                  have HQ7 := Lib.hid (And.intro (HQ.out.1.keep b7') (bup2 HQ.out.2 b7'))
                  have hc2 := cell_later b7' hc
                  have hqb : ((x : Int) / 4 == (n : Int)) = false := by simpa using hq
                  clear b6 b7 b7' hq
                  go_wp2_with fail
                  go_roundw
                  case rel => exact ⟨k + 1, by omega, by go_num, by rw [HST.out]; try go_num, HQ7.out.1, HQ7.out.2⟩
                  case measure => simp [intOf]; omega
            · have hki : ¬ (k : Int) < ((used t).length : Int) := by omega
              have hall : (used t).take k = used t := List.take_of_length_le (by omega)
              rw [hall] at hle ⊢
              have hcl := cntN_len d (used t) n
              have hz := HQ.out.1.ord
              go_wp2_with (at_builtin; refine ap1_intA rfl _ _ rfl (w.heap.size + 1) u5 (cntN d (used t) n) (cnt d (used t) n) rfl HQ.out.1.own rfl (by omega) (by omega) (by unfold I64; omega) ?_; intro v' w4 o4 c4; have HF := Lib.hid (And.intro (HQ.out.1.app o4.1 o4.2 c4) (HQ.out.1.app o4.1 o4.2 c4).bel); clear o4 c4)
              go_roundw
              case rel => exact ⟨n + 1, by omega, by go_num, by rw [cntN_succ]; exact HF.out.1, HF.out.2⟩
              case measure => simp [intOf]; omega
        · have hni : ¬ (n : Int) < (d.length : Int) := by omega
          obtain rfl : n = d.length := by omega
          have HF := HQ.out.1
          rw [← HU.out] at HF
          have HF2 := Lib.hid HF
          clear HF
          go_wp2_with fail
          go_ret
          exact ⟨_, rfl, HF2.out.own.wide (by omega), HF2.out.bel⟩

end Go.Proofs.Ytjmofmdcegefgaa

