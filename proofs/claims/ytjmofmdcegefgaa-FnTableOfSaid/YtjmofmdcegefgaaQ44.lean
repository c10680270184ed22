/-
  Texts of this claim, laid together: LfFv, LfTo.
-/
import Derived.Test.YtjmofmdcegefgaaQ08
import Derived.Test.YtjmofmdcegefgaaQ22
import Derived.Test.YtjmofmdcegefgaaQ24
import Derived.Test.YtjmofmdcegefgaaQ36
import Derived.Test.YtjmofmdcegefgaaQ43
namespace Go.Proofs.Ytjmofmdcegefgaa
open Go.RowKit
set_option linter.unusedSimpArgs false
set_option linter.unusedVariables false
set_option linter.unnecessarySimpa false

theorem tab_bd {t : List (List Int)} (h : tabVal t = true) {f p : Nat} (hf : f < t.length) (hp : p < t[f].length) : -1 ≤ t[f][p] ∧ t[f][p] ≤ 47 :=
  (okP_iff.1 (tabVal_iff.1 h).2.2).1 _ (List.mem_flatten.2 ⟨t[f], List.getElem_mem hf, List.getElem_mem hp⟩)
theorem tget_i (t : List (List Int)) (f p : Int) : I64 (tget t f p) := by
  by_cases hv : tabVal t = true
  · by_cases hb : 0 ≤ f ∧ f ≤ 7 ∧ 0 ≤ p ∧ p ≤ 5
    · obtain ⟨h1, h2, h3, h4⟩ := hb
      obtain ⟨f, rfl⟩ := Int.eq_ofNat_of_zero_le h1
      obtain ⟨p, rfl⟩ := Int.eq_ofNat_of_zero_le h3
      have hf : f < t.length := by have := tab_len hv; omega
      have hp : p < t[f].length := by have := tab_row hv hf; omega
      have := tab_bd hv hf hp
      rw [tget_in hv hf hp]
      unfold I64; omega
    · rw [tget_out hb]; unfold I64; omega
  · rw [tget_bad (by simpa using hv)]; unfold I64; omega
theorem implRdp_is (v : Value) (d : List Bk) (n : Int) (lo hi : Nat) (w : World) (h : RD w lo hi v d) (hn : I64 n) (p : Pg) (b : Bool) (e : rdp d n = (p, b)) :
    Calls Try.prog 28 #[v, .int .i64 n] w fun e w' => e = .returned (.tuple #[.agg #[.bool p.full, .int .i64 p.file, .int .i64 p.place, .int .i64 p.value, .int .i64 p.stamp], .bool b]) ∧ Below w.heap.size w w' := by
  have c := implRdp_any v d n lo hi w h hn
  rw [e] at c
  exact c
theorem implGet_is2 (v : Value) (t : List (List Int)) (f p : Int) (lo hi : Nat) (w : World) (h : RT w lo hi v t) (x : Int) (hx : x = tget t f p) :
    Calls Try.prog 29 #[.agg #[v], .int .i64 f, .int .i64 p] w fun e w' => e = .returned (.int .i64 x) ∧ Below w.heap.size w w' := by
  subst hx
  exact implGet_any v t f p lo hi w h
theorem implFvs_is (v tv : Value) (d : List Bk) (t : List (List Int)) (f : Int) (lo hi lo2 hi2 : Nat) (w : World) (h : RD w lo hi v d) (h2 : RT w lo2 hi2 tv t) (hfi : I64 f) (xs : List Int) (b : Bool) (e : fvs d t f = (xs, b)) :
    Calls Try.prog 31 #[v, .agg #[tv], .int .i64 f] w fun e w' => ∃ v, e = .returned (.tuple #[v, .bool b]) ∧ OI w' w.heap.size v xs ∧ Below w.heap.size w w' := by
  have c := implFvs_any v tv d t f lo hi lo2 hi2 w h h2 hfi
  rw [e] at c
  exact c
theorem specFvs_is (v tv : Value) (d : List Bk) (t : List (List Int)) (f : Int) (lo hi lo2 hi2 : Nat) (w : World) (h : RD w lo hi v d) (h2 : RT w lo2 hi2 tv t) (hfi : I64 f) (xs : List Int) (b : Bool) (e : fvs d t f = (xs, b)) :
    Calls Try.prog 34 #[v, .agg #[tv], .int .i64 f] w fun e w' => ∃ v, e = .returned (.tuple #[v, .bool b]) ∧ OI w' w.heap.size v xs ∧ Below w.heap.size w w' := by
  have c := specFvs_any v tv d t f lo hi lo2 hi2 w h h2 hfi
  rw [e] at c
  exact c
theorem implFsz_is (v : Value) (t : List (List Int)) (f : Int) (lo hi : Nat) (w : World) (h : RT w lo hi v t) (x : Int) (hx : x = fsz t f) :
    Calls Try.prog 36 #[.agg #[v], .int .i64 f] w fun e w' => e = .returned (.int .i64 x) ∧ Below w.heap.size w w' := by
  subst hx
  exact implFsz_any v t f lo hi w h

set_option maxHeartbeats 4000000 in
set_option maxRecDepth 4000 in
theorem FnFileValues_walk (w : World) (v : Value) (bs : List Int) (h : RB w 0 w.heap.size v bs) :
    Calls Try.prog 7 #[v] w fun e w' => e = .returned (.bool true) ∧ Below w.heap.size w w' := by
  have HB := Lib.hid h
  obtain ⟨a, cap, b, off, rfl, -⟩ := h.open
  clear h
  by_cases hl : bs.length ≤ 1048576
  · go_enter Try.func7, Try.ntmps7
    go_wp2_with fail
    refine (dFileValues _ _ bs HB.out).mono ?_
    rintro e w1 ⟨v1, d, v2, t, f, rfl, hrd, hsm, hrt, ⟨f0, f1⟩, b1⟩
    obtain ⟨a1, cap1, b1', off1, rfl, -⟩ := hrd.open
    obtain ⟨a2, cap2, b2', off2, rfl, -⟩ := hrt.open
    have H1 := Lib.hid (lvs_new hrd hrt b1)
    have hdl := hsm.1
    have hfi : I64 f := by unfold I64; omega
    have HFI := Lib.hid hfi
    have hx0 := fvs_len d t f
    have hat := fun h => fvs_at (d := d) (t := t) (f := f) h
    have hno := fun h => fvs_none (d := d) (t := t) (f := f) h
    obtain ⟨⟨xs, ok⟩, hr⟩ : ∃ r, fvs d t f = r := ⟨_, rfl⟩
    rw [hr] at hx0 hat hno
    simp only at hx0 hat hno
    have HR0 := Lib.hid hr
    have HAT := Lib.hid hat
    have HNO := Lib.hid hno
    have hxl : xs.length ≤ 1048576 := by omega
    clear hrd hrt b1 hsm HB hfi hat hno hr
    go_wp2_with fail
    refine (implFvs_is _ _ d t f _ _ _ _ _ H1.out.rd H1.out.rt HFI.out xs ok HR0.out).mono ?_
    rintro e w2 ⟨vx, rfl, ox, b2⟩
    have H2 : Hid (LvX w w1.heap.size w1.heap.size (.slice a1 d.length cap1) d (.slice a2 t.length cap2) t 0 vx xs w2) := Lib.hid ⟨H1.out.below b2, ox.ri.wide (by omega) (Nat.le_refl _)⟩
    have d2 := H2.out.1.cell
    obtain ⟨a3, cap3, b3', off3, rfl, q1, q2, -⟩ := H2.out.2.open
    clear b2 H1 ox
    go_wp2_with fail
    refine (specFvs_is _ _ d t f _ _ _ _ _ H2.out.1.rd H2.out.1.rt HFI.out xs ok HR0.out).mono ?_
    rintro e w3 ⟨v3, rfl, o3, b3⟩
    have H3 := Lib.hid (And.intro (H2.out.below b3) o3)
    obtain ⟨a4, cap4, b4', off4, rfl, -⟩ := o3.ri.open
    clear b3 o3 H2 d2
    go_wp2_with fail
    refine (sameInts_yes2 _ _ xs _ _ _ _ _ H3.out.1.2 H3.out.2.ri hxl).mono ?_
    rintro e w4 ⟨rfl, b4⟩
    have H4 := Lib.hid (H3.out.1.below b4)
    clear b4 H3
    cases ok
    · have hnil := HNO.out rfl
      have HF := Lib.hid H4.out.1.bel
      subst hnil
      clear H4 HAT HNO HR0
      go_wp2_with fail
      refine (alive_any _).mono ?_
      rintro e w' ⟨rfl, rfl⟩
      go_wp2_with fail
      all_goals (go_ret; exact ⟨rfl, HF.out⟩)
    · have HA := Lib.hid (HAT.out rfl)
      clear HAT HNO HR0
      go_wp2_with fail
      go_loopw [10, 11, 12] (fun i _ _ wr => ∃ k : Nat, k ≤ xs.length ∧ i = .int .i64 k ∧ LvX w w1.heap.size w1.heap.size (.slice a1 d.length cap1) d (.slice a2 t.length cap2) t 0 (.slice a3 xs.length cap3) xs wr) (fun i _ _ _ => 20 - (intOf i).toNat)
      case atStart => exact ⟨0, by omega, rfl, H4.out⟩
      case round =>
        obtain ⟨k, hk, rfl, hR⟩ := hrel
        obtain ⟨wo, rfl⟩ : ∃ wo : World, wo = wr := ⟨_, rfl⟩
        have HR := Lib.hid hR
        have d4 := hR.1.cell
        clear hR H4
        by_cases hlt : k < xs.length
        · have hki : (k : Int) < (xs.length : Int) := by omega
          have hv := HA.out.2 k _ (List.getElem?_eq_getElem hlt)
          obtain ⟨x, hx⟩ : ∃ x, x = tget t f k := ⟨_, rfl⟩
          have hxi := tget_i t f k
          rw [← hx] at hv hxi
          have HX := Lib.hid hx
          have HXI := Lib.hid hxi
          obtain ⟨⟨p, there⟩, hr⟩ : ∃ r, rdp d x = r := ⟨_, rfl⟩
          have HR1 := Lib.hid hr
          rw [hr] at hv
          simp only at hv
          have HVV := Lib.hid hv
          clear hx hxi hr hv
          go_wp2_with fail
          refine (implGet_is2 _ t f k _ _ _ HR.out.1.rt x HX.out).mono ?_
          rintro e w5 ⟨rfl, b5⟩
          have H5 := Lib.hid (HR.out.below b5)
          clear b5 HR d4
          go_wp2_with fail
          refine (implRdp_is _ d x _ _ _ H5.out.1.rd HXI.out p there HR1.out).mono ?_
          rintro e w6 ⟨rfl, b6⟩
          have H6 := Lib.hid ((H5.out.below b6).below (balloc w6 (.cells #[.bool p.full, .int .i64 p.file, .int .i64 p.place, .int .i64 p.value, .int .i64 p.stamp] 53)))
          have X6 := Lib.hid (heap_alloc_new w6 (.cells #[.bool p.full, .int .i64 p.file, .int .i64 p.place, .int .i64 p.value, .int .i64 p.stamp] 53))
          clear b6 H5
          go_wp2_with fail
          generalize w6.alloc (.cells #[.bool p.full, .int .i64 p.file, .int .i64 p.place, .int .i64 p.value, .int .i64 p.stamp] 53) = w7 at H6 X6 ⊢
          obtain ⟨z0, z1, z2, z3, z4⟩ := five0 X6.out
          obtain ⟨a5, cap5, b5, off5, e5, -, -, s3, s4⟩ := H6.out.2.open
          obtain rfl := s3 (by omega)
          simp only [Value.slice.injEq, true_and] at e5
          obtain ⟨rfl, rfl⟩ := e5
          have c1 := s4 k hlt
          rw [← HVV.out] at c1
          generalize p.value = pv at c1 z3
          clear s3 s4 X6 z0 z1 z2 z4 HVV
          go_quiet (fail)
          go_wp2_with fail
          go_roundw
          case rel => exact ⟨k + 1, by omega, by go_num, H6.out.below (bdN _ _)⟩
          case measure => simp [intOf]; omega
        · have hki : ¬ (k : Int) < (xs.length : Int) := by omega
          obtain ⟨g, hg⟩ : ∃ g, g = fsz t f := ⟨_, rfl⟩
          have HG := Lib.hid hg
          have hge : ((xs.length : Int) == g) = true := by rw [hg, HA.out.1]; simp
          clear hg
          go_wp2_with fail
          refine (implFsz_is _ t f _ _ _ HR.out.1.rt g HG.out).mono ?_
          rintro e w5 ⟨rfl, b5⟩
          have HF := Lib.hid (HR.out.1.below b5).bel
          clear b5 HR d4
          go_wp2_with fail
          all_goals (go_ret; exact ⟨rfl, HF.out⟩)
  · go_enter Try.func7, Try.ntmps7
    go_wp2_with fail
    all_goals (go_ret; exact ⟨rfl, Below.refl _ _⟩)

end Go.Proofs.Ytjmofmdcegefgaa

namespace Go.Proofs.Ytjmofmdcegefgaa
open Go.RowKit
set_option linter.unusedSimpArgs false
set_option linter.unusedVariables false
set_option linter.unnecessarySimpa false

theorem sameTable_yes2 (v v2 : Value) (xs : List (List Int)) (lo hi lo2 hi2 : Nat) (w : World) (h : RT w lo hi v xs) (h2 : RT w lo2 hi2 v2 xs) (hx : tsz xs ≤ 1048576) :
    Calls Try.prog 25 #[.agg #[v], .agg #[v2]] w fun e w' => e = .returned (.bool true) ∧ Below w.heap.size w w' := by
  have c := sameTable_any v v2 xs xs lo hi lo2 hi2 w h h2 hx hx
  rw [show sameLL xs xs = true from by simp [sameLL]] at c
  exact c
theorem tof_tsz (d : List Bk) : tsz (tof d) ≤ 1048576 := by
  cases hv : dvOk d
  · rw [tof_bad hv]; decide
  · have h := tof_val hv
    have := tsz_six (tab_len h) (fun l hl => by
      obtain ⟨f, hf, e⟩ := List.getElem_of_mem hl
      rw [← e, tab_row h hf]
      exact Nat.le_refl _)
    omega
theorem implTbv_is (v : Value) (t : List (List Int)) (lo hi : Nat) (w : World) (h : RT w lo hi v t) (b : Bool) (hb : tabVal t = b) :
    Calls Try.prog 32 #[.agg #[v]] w fun e w' => e = .returned (.bool b) ∧ Below w.heap.size w w' := by
  subst hb
  exact implTbv_any v t lo hi w h
theorem implDvv_is (v : Value) (d : List Bk) (lo hi : Nat) (w : World) (h : RD w lo hi v d) (b : Bool) (hb : dvOk d = b) :
    Calls Try.prog 27 #[v] w fun e w' => e = .returned (.bool b) ∧ Below w.heap.size w w' := by
  subst hb
  exact implDvv_any v d lo hi w h
theorem implSpl_is (f g x1 s1 x2 s2 : Int) (w : World) (h1 : pgOk ⟨true, f, g, x1, s1⟩ = true) (h2 : pgOk ⟨true, f, g, x2, s2⟩ = true) :
    Calls Try.prog 30 #[.agg #[.bool true, .int .i64 f, .int .i64 g, .int .i64 x1, .int .i64 s1], .agg #[.bool true, .int .i64 f, .int .i64 g, .int .i64 x2, .int .i64 s2]] w fun e w' => e = .returned (.bool true) ∧ Below w.heap.size w w' :=
  implSpl_yes ⟨true, f, g, x1, s1⟩ ⟨true, f, g, x2, s2⟩ w h1 h2 rfl rfl rfl rfl

set_option maxHeartbeats 8000000 in
set_option maxRecDepth 4000 in
theorem FnTableOf_walk (w : World) (v : Value) (bs : List Int) (h : RB w 0 w.heap.size v bs) :
    Calls Try.prog 6 #[v] w fun e w' => e = .returned (.bool true) ∧ Below w.heap.size w w' := by
  have HB := Lib.hid h
  obtain ⟨a, cap, b, off, rfl, -⟩ := h.open
  clear h
  by_cases hl : bs.length ≤ 1048576
  · go_enter Try.func6, Try.ntmps6
    go_wp2_with fail
    refine (dTableOf _ _ bs HB.out).mono ?_
    rintro e w1 ⟨v1, d, rfl, hrd, hsm, b1⟩
    obtain ⟨a1, cap1, b1', off1, rfl, -, -, q3, -⟩ := hrd.open
    have hdl := hsm.1
    have HRD := Lib.hid hrd
    have HB1 := Lib.hid b1
    clear hrd b1 hsm HB
    go_wp2_with fail
    refine (implTof_any _ d _ _ _ HRD.out).mono ?_
    rintro e w2 ⟨v2, rfl, o2, b2⟩
    have hts := tof_tsz d
    have HEX := Lib.hid (And.intro (@tof_bad d) (And.intro (@tof_val d) (And.intro (fun (hv : dvOk d = true) (m : Nat) (hm : m < 4 * d.length) (hf : (dat d m).full = true) => tof_get hv hm hf) (fun (hv : dvOk d = true) (f : Nat) (hf : f < 8) => tof_vals hv hf))))
    obtain ⟨t, ht⟩ : ∃ t, t = tof d := ⟨_, rfl⟩
    rw [← ht] at o2 hts HEX
    have HTN := Lib.hid ht
    obtain ⟨a2, cap2, b2', off2, rfl, -⟩ := o2.rt.open
    have H2 := Lib.hid (lvs_new (w0 := w) ((HRD.out.below b2).wide (Nat.le_refl _) b2.size) (o2.rt.wide HB1.out.size (Nat.le_refl _)) (bup2 HB1.out b2))
    clear o2 b2 ht HRD HB1
    go_wp2_with fail
    generalize w2.alloc (.cells #[.slice a2 t.length cap2] 26) = w3 at H2 ⊢
    have d2 := H2.out.cell
    refine region_held_n 5 (S := fun w' => Below w3.heap.size w3 w') (by kernel_rfl) (by kernel_rfl) (bdrew _) (fun hS0 => ?_)
    refine hs_take (fuel := 4) 0 (some 20) (Value.agg #[Value.slice a2 t.length cap2]) rfl rfl (by kernel_rfl) (by kernel_rfl) (by kernel_rfl) (fun _ _ _ h => h) (by rfl) (fun wq hq => ?_) (by assumption) ?_
    · have p0 := cell_later hq d2
      go_simp
    simp only [Act.put, List.setIfInBounds_toArray, List.set_cons_zero, List.set_cons_succ]
    refine hs_take (fuel := 3) 1 (some 21) (Value.slice a1 d.length cap1) rfl rfl (by kernel_rfl) (by kernel_rfl) (by kernel_rfl) (fun _ _ _ h => h) (by rfl) (fun wq hq => ?_) (by assumption) ?_
    · go_simp
    simp only [Act.put, List.setIfInBounds_toArray, List.set_cons_zero, List.set_cons_succ]
    refine wpAnyH_ready (fuel := 2) (rs := [2]) (by kernel_rfl) (by simp) (AllReadyH.cons rfl (fun K hK => ?_) AllReadyH.nil)
    go_simp
    refine (specTof_any _ d _ _ _ (H2.out.below (bdrew w3)).rd).mono ?_
    rintro e w4 ⟨v4, rfl, o4, b4⟩
    rw [← HTN.out] at o4
    obtain ⟨a4, cap4, b4', off4, rfl, -⟩ := o4.rt.open
    have H4 := Lib.hid (And.intro ((H2.out.below (bdrew w3)).below b4) o4)
    have hS4 : Below w3.heap.size w3 w4 := bup2 (bdrew w3) b4
    clear o4 b4
    refine hK.out _ _ ?_ (fun hS => ?_)
    · exact hS4
    refine wpAnyH_ready (fuel := 1) (rs := [3]) (by kernel_rfl) (by simp) (AllReadyH.cons rfl (fun K hK => ?_) AllReadyH.nil)
    go_simp
    refine (sameTable_yes2 _ _ t _ _ _ _ _ H4.out.1.rt H4.out.2.rt hts).mono ?_
    rintro e w5 ⟨rfl, b5⟩
    have H5 := Lib.hid (H4.out.1.below b5)
    have hS5 : Below w3.heap.size w3 w5 := bup2 hS4 b5
    clear b5 H4
    refine hK.out _ _ ?_ (fun hS => ?_)
    · exact hS5
    refine hs_take (fuel := 0) 4 (some 24) (.bool false) rfl rfl (by kernel_rfl) (by kernel_rfl) (by kernel_rfl) (fun _ _ _ h => h) (by rfl) (fun wq hq => ?_) (by assumption) ?_
    · go_simp
    simp only [Act.put, List.setIfInBounds_toArray, List.set_cons_zero, List.set_cons_succ]
    refine wpAnyH_done (by kernel_rfl) ?_ _
    clear hS0 hS4 hS5 d2
    go_wp2_with fail
    cases hv : dvOk d
    · have hnil := HEX.out.1 hv
      have HV := Lib.hid hv
      have d5 := H5.out.cell
      clear hv HEX HTN
      refine (implDvv_is _ d _ _ _ H5.out.rd false HV.out).mono ?_
      rintro e w6 ⟨rfl, b6⟩
      have H6 := Lib.hid (H5.out.below b6)
      clear b6 H5 d5
      have d6 := H6.out.cell
      subst hnil
      go_wp2_with fail
      refine (sameTable_yes2 _ _ [] _ _ 0 0 _ H6.out.rt (rt_nil _ _ _) (by decide)).mono ?_
      rintro e w7 ⟨rfl, b7⟩
      have HF := Lib.hid (H6.out.below b7).bel
      clear b7 H6 d6
      go_wp2_with fail
      refine (alive_any _).mono ?_
      rintro e w' ⟨rfl, rfl⟩
      go_wp2_with fail
      all_goals (go_ret; exact ⟨rfl, HF.out⟩)
    · have HV := Lib.hid hv
      have HTV := Lib.hid (HEX.out.2.1 hv)
      have HGT := Lib.hid (HEX.out.2.2.1 hv)
      have HVS := Lib.hid (HEX.out.2.2.2 hv)
      have hd1 := (dv_len hv).1
      obtain rfl := q3 (by omega)
      clear hv HEX HTN q3
      refine (implDvv_is _ d _ _ _ H5.out.rd true HV.out).mono ?_
      rintro e w6 ⟨rfl, b6⟩
      have H6 := Lib.hid (H5.out.below b6)
      clear b6 H5
      go_wp2_with fail
      go_loopw [5, 6, 7, 8, 9] (fun i _ _ _ _ wr => ∃ k : Nat, k ≤ 4 * d.length ∧ i = .int .i64 k ∧ LvS w w2.heap.size w2.heap.size (.slice (some ⟨b1', off1, none⟩) d.length cap1) d (.slice a2 t.length cap2) t wr) (fun i _ _ _ _ _ => 60 - (intOf i).toNat)
      case atStart => exact ⟨0, by omega, rfl, H6.out⟩
      case round =>
        obtain ⟨k, hk, rfl, hR⟩ := hrel
        obtain ⟨wo, rfl⟩ : ∃ wo : World, wo = wr := ⟨_, rfl⟩
        have HR := Lib.hid hR
        clear hR H6
        by_cases hlt : k < 4 * d.length
        · have hki : decide ((k : Int) < 4 * (d.length : Int)) = true := by simp; omega
          have HPK := Lib.hid (dat_ok HV.out hlt)
          have HRK := Lib.hid (rdp_in HV.out hlt)
          have HGK := Lib.hid (HGT.out k hlt)
          obtain ⟨p, hp⟩ : ∃ p, p = dat d k := ⟨_, rfl⟩
          rw [← hp] at HPK HRK HGK
          obtain ⟨pf, fi, pl, va, st⟩ := p
          simp only at HRK HGK
          clear hp
          have HKI : Hid (I64 (k : Int)) := Lib.hid (by unfold I64; omega)
          go_wp2_with fail
          refine (implRdp_is _ d k _ _ _ HR.out.rd HKI.out ⟨pf, fi, pl, va, st⟩ pf HRK.out).mono ?_
          rintro e w7 ⟨rfl, b7⟩
          simp only
          cases pf
          · have H7 := Lib.hid ((HR.out.below b7).below (balloc w7 (.cells #[.bool false, .int .i64 fi, .int .i64 pl, .int .i64 va, .int .i64 st] 53)))
            clear b7 HR
            go_wp2_with fail
            go_roundw
            case rel => exact ⟨k + 1, by omega, by go_num, H7.out⟩
            case measure => simp [intOf]; omega
          · have H7 := Lib.hid ((HR.out.below b7).below (balloc w7 (.cells #[.bool true, .int .i64 fi, .int .i64 pl, .int .i64 va, .int .i64 st] 53)))
            have X7 := Lib.hid (heap_alloc_new w7 (.cells #[.bool true, .int .i64 fi, .int .i64 pl, .int .i64 va, .int .i64 st] 53))
            obtain ⟨m, g1, g2, g3, g4, g5, g6⟩ := HGK.out rfl
            have hm4 : m < 4 * d.length := by
              unfold rdp at g2
              split at g2
              · omega
              · simp at g2
            have HPM := Lib.hid (dat_ok HV.out hm4)
            obtain ⟨pm, hpm⟩ : ∃ pm, pm = dat d m := ⟨_, rfl⟩
            rw [← hpm] at g2 g3 g4 g5 g6 HPM
            obtain ⟨pf2, fi2, pl2, va2, st2⟩ := pm
            simp only at g3 g4 g5 g6
            subst g3 g5 g6
            have HG1 := Lib.hid g1.symm
            have HG2 := Lib.hid g2
            have HMI : Hid (I64 (m : Int)) := Lib.hid (by unfold I64; omega)
            have hst : decide (st2 < st) = false := by simpa using g4
            have d7 := H7.out.cell
            obtain ⟨z0, z1, z2, z3, z4⟩ := five0 (p := ⟨true, fi2, pl2, va, st⟩) X7.out
            clear b7 HR HGK g1 g2 g4 hpm
            go_wp2_with fail
            refine (implGet_is2 _ t fi2 pl2 _ _ _ H7.out.rt m HG1.out).mono ?_
            rintro e w8 ⟨rfl, b8⟩
            have H8 := Lib.hid (H7.out.below b8)
            replace X7 := Lib.hid (box_keep X7.out b8)
            clear b8 H7 d7 z0 z1 z2 z3 z4
            go_wp2_with fail
            refine (implRdp_is _ d m _ _ _ H8.out.rd HMI.out ⟨true, fi2, pl2, va2, st2⟩ true HG2.out).mono ?_
            rintro e w9 ⟨rfl, b9⟩
            simp only
            have H9 := Lib.hid ((H8.out.below b9).below (balloc w9 (.cells #[.bool true, .int .i64 fi2, .int .i64 pl2, .int .i64 va2, .int .i64 st2] 53)))
            replace X7 := Lib.hid (box_keep X7.out (bup2 b9 (balloc w9 (.cells #[.bool true, .int .i64 fi2, .int .i64 pl2, .int .i64 va2, .int .i64 st2] 53))))
            have X9 := Lib.hid (heap_alloc_new w9 (.cells #[.bool true, .int .i64 fi2, .int .i64 pl2, .int .i64 va2, .int .i64 st2] 53))
            obtain ⟨z0, z1, z2, z3, z4⟩ := five0 (p := ⟨true, fi2, pl2, va, st⟩) X7.out
            obtain ⟨y0, y1, y2, y3, y4⟩ := five0 (p := ⟨true, fi2, pl2, va2, st2⟩) X9.out
            clear b9 H8
            go_wp2_with fail
            refine (implSpl_is fi2 pl2 va st va2 st2 _ HPK.out HPM.out).mono ?_
            rintro e w10 ⟨rfl, b10⟩
            have H10 := Lib.hid (H9.out.below b10)
            clear b10 H9 z0 z1 z2 z3 z4 y0 y1 y2 y3 y4 X7 X9
            go_wp2_with fail
            go_roundw
            case rel => exact ⟨k + 1, by omega, by go_num, H10.out⟩
            case measure => simp [intOf]; omega
        · have hki : decide ((k : Int) < 4 * (d.length : Int)) = false := by simp; omega
          go_wp2_with fail
          go_loopw [10, 11, 12] (fun i _ _ wr => ∃ f : Nat, f ≤ 8 ∧ i = .int .i64 f ∧ LvS w w2.heap.size w2.heap.size (.slice (some ⟨b1', off1, none⟩) d.length cap1) d (.slice a2 t.length cap2) t wr) (fun i _ _ _ => 8 - (intOf i).toNat)
          case atStart => exact ⟨0, by omega, rfl, HR.out⟩
          case round =>
            obtain ⟨f, hf, rfl, hR⟩ := hrel
            obtain ⟨wn, rfl⟩ : ∃ wn : World, wn = wr := ⟨_, rfl⟩
            have HQ := Lib.hid hR
            have d8 := hR.cell
            clear hR HR
            by_cases hf8 : f < 8
            · have hfi : decide ((f : Int) < 8) = true := by simp; omega
              have hvs := HVS.out f hf8
              obtain ⟨⟨xs, ok⟩, hr⟩ : ∃ r, fvs d t f = r := ⟨_, rfl⟩
              rw [hr] at hvs
              simp only at hvs
              subst hvs
              have HFS := Lib.hid hr
              have HFI : Hid (I64 (f : Int)) := Lib.hid (by unfold I64; omega)
              clear hr
              go_wp2_with fail
              refine (implFvs_is _ _ d t f _ _ _ _ _ HQ.out.rd HQ.out.rt HFI.out xs true HFS.out).mono ?_
              rintro e w8 ⟨vx, rfl, -, b8⟩
              have H8 := Lib.hid (HQ.out.below b8)
              clear b8 HQ d8
              go_wp2_with fail
              go_roundw
              case rel => exact ⟨f + 1, by omega, by go_num, H8.out⟩
              case measure => simp [intOf]; omega
            · obtain rfl : f = 8 := by omega
              go_wp2_with fail
              refine (implTbv_is _ t _ _ _ HQ.out.rt true HTV.out).mono ?_
              rintro e w8 ⟨rfl, b8⟩
              have HF := Lib.hid (HQ.out.below b8).bel
              clear b8 HQ d8
              go_wp2_with fail
              all_goals (go_ret; exact ⟨rfl, HF.out⟩)
  · go_enter Try.func6, Try.ntmps6
    go_wp2_with fail
    all_goals (go_ret; exact ⟨rfl, Below.refl _ _⟩)

end Go.Proofs.Ytjmofmdcegefgaa

