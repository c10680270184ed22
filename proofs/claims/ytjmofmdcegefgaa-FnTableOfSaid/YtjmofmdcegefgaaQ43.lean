/-
  Texts of this claim, laid together: Fvw.
-/
import Derived.Test.YtjmofmdcegefgaaQ06
import Derived.Test.YtjmofmdcegefgaaQ11
import Derived.Test.YtjmofmdcegefgaaQ15
import Derived.Test.YtjmofmdcegefgaaQ16
namespace Go.Proofs.Ytjmofmdcegefgaa
open Go.RowKit

/-- Numbers in new memory and a word of truth. -/
def NewIB (r : List Int × Bool) (w : World) (e : Ending) (w' : World) : Prop := ∃ v, e = .returned (.tuple #[v, .bool r.2]) ∧ OI w' w.heap.size v r.1 ∧ Below w.heap.size w w'
/-- The state of the walks. -/
def FvR (w : World) (sl u : Value) (xs : List Int) (wr : World) : Prop := BcR w (w.heap.size + 1) (w.heap.size + 1) sl u xs (.slice none 0 0) [] wr
theorem ri_nil (w : World) (lo hi : Nat) : RI w lo hi (.slice none 0 0) [] :=
  ⟨⟨by simp, none, 0, 0, 0, rfl, Nat.le_refl _, by simp [maxLen], fun h => by simp at h, fun j hj => by simp at hj⟩, fun p hp => by simp at hp⟩
theorem FvR.mk' {w wr : World} {sl u : Value} {xs : List Int} (o : OI wr (w.heap.size + 1) u xs) (b : Below w.heap.size w wr) (hz : w.heap.size + 1 ≤ wr.heap.size) (x : wr.heap[w.heap.size]? = some (.cells #[sl] 26)) : FvR w sl u xs wr :=
  ⟨o, fun b hb => by have := o.lt b hb; omega, ri_nil _ _ _, b, ⟨Nat.le_refl _, hz, Nat.le_refl _⟩, x⟩

/-- What the reader says at an entry. -/
theorem fval_neg {d : List Bk} {t : List (List Int)} {f k : Nat} {x : Int} (hx : tat t f k = x) (h : x < 0) : fval d t f k = some 0 := by unfold fval; rw [if_pos (by omega)]
theorem fval_pos {d : List Bk} {t : List (List Int)} {f k : Nat} {x : Int} (hx : tat t f k = x) (h : ¬ x < 0) {p : Pg} {b : Bool} (hr : rdp d x = (p, b)) : fval d t f k = if b = true ∧ p.file = f ∧ p.place = k then some p.value else none := by
  unfold fval
  rw [hx, if_neg h, hr]

theorem pad_at (l : List Int) {k n : Nat} (hl : l.length = k) (hk : k < n) (x : Int) : (l ++ List.replicate (n - k) 0).set k x = (l ++ [x]) ++ List.replicate (n - (k + 1)) 0 := by
  subst hl
  rw [List.set_append_right _ _ (Nat.le_refl _), Nat.sub_self, show n - l.length = (n - (l.length + 1)) + 1 by omega, List.replicate_succ, List.set_cons_zero]
  simp
theorem pad0_more (l : List Int) {k n : Nat} (hk : k < n) : l ++ List.replicate (n - k) 0 = (l ++ [0]) ++ List.replicate (n - (k + 1)) 0 := by
  rw [show n - k = (n - (k + 1)) + 1 by omega, List.replicate_succ]
  simp
theorem pad_end (l : List Int) {k n : Nat} (hk : n ≤ k) : l ++ List.replicate (n - k) 0 = l := by
  rw [show n - k = 0 by omega]; simp

set_option maxHeartbeats 4000000 in
set_option maxRecDepth 4000 in
theorem implFvs_any (v tv : Value) (d : List Bk) (t : List (List Int)) (f : Int) (lo hi lo2 hi2 : Nat) (w : World) (h : RD w lo hi v d) (h2 : RT w lo2 hi2 tv t) (hfi : I64 f) :
    Calls Try.prog 31 #[v, .agg #[tv], .int .i64 f] w (NewIB (fvs d t f) w) := by
  obtain ⟨a, cap, b, off, rfl, q1, q2, q3, -⟩ := h.open
  obtain ⟨a2, cap2, b2, off2, rfl, t1, t2, t3, t4⟩ := h2.open
  have hb0 := balloc w (.cells #[.slice a2 t.length cap2] 26)
  have X0 := Lib.hid (heap_alloc_new w (.cells #[.slice a2 t.length cap2] 26))
  have HD0 := Lib.hid h
  have HT := Lib.hid (h2.below hb0)
  have HB0 := Lib.hid hb0
  have Q4 := Lib.hid t4
  have C0 := Lib.hid (fun wx h => implFsz_any (.slice a2 t.length cap2) t f lo2 hi2 wx h)
  clear h h2 hb0 q3 t4
  by_cases hneg : fsz t f < 0
  · have HU := Lib.hid (fvs_neg (d := d) hneg)
    go_enter Try.func31, Try.ntmps31
    go_wp2_with fail
    refine (C0.out _ HT.out).mono ?_
    rintro e w1 ⟨rfl, b1⟩
    have HF := Lib.hid (bup2 HB0.out b1)
    clear b1
    go_wp2_with fail
    all_goals (refine bodyPost_ret (v := .tuple #[.slice none 0 0, .bool false]) (by simp [results, Try.results31, go_sem]) rfl ?_; exact ⟨_, by rw [HU.out], by rw [HU.out]; exact oi_nil _ _, HF.out⟩)
  · obtain ⟨hvt, f0, f7⟩ := fsz_ok hneg
    obtain ⟨f, rfl⟩ := Int.eq_ofNat_of_zero_le f0
    obtain ⟨n, hn, hn6, -⟩ := fsz_nat hvt (f := f) (by omega)
    have HN := Lib.hid hn
    rw [hn] at C0
    have h8 := tab_len hvt
    have HVT := Lib.hid hvt
    cases hv : dvOk d
    · have HU := Lib.hid (fvs_dv (t := t) (f := f) hv)
      have c1 := fun wx h => implDvv_any (.slice a d.length cap) d lo hi wx h
      rw [hv] at c1
      have C1 := Lib.hid c1
      have hn0 : ¬ (n : Int) < 0 := by omega
      clear c1 hv hn hvt hneg h8
      go_enter Try.func31, Try.ntmps31
      go_wp2_with fail
      refine (C0.out _ HT.out).mono ?_
      rintro e w1 ⟨rfl, b1⟩
      have HB1 := Lib.hid (bup2 HB0.out b1)
      clear b1
      go_wp2_with fail
      refine (C1.out _ (HD0.out.below HB1.out)).mono ?_
      rintro e w2 ⟨rfl, b2⟩
      have HF := Lib.hid (bup2 HB1.out b2)
      clear b2
      go_wp2_with fail
      all_goals (refine bodyPost_ret (v := .tuple #[.slice none 0 0, .bool false]) (by simp [results, Try.results31, go_sem]) rfl ?_; exact ⟨_, by rw [HU.out], by rw [HU.out]; exact oi_nil _ _, HF.out⟩)
    · have HV := Lib.hid hv
      have c1 := fun wx h => implDvv_any (.slice a d.length cap) d lo hi wx h
      rw [hv] at c1
      have C1 := Lib.hid c1
      have C2 := Lib.hid (fun x wx h hx => implRdp_any (.slice a d.length cap) d x lo hi wx h hx)
      have hn0 : ¬ (n : Int) < 0 := by omega
      have hft : f < t.length := by omega
      have hfl : (f : Int) < (t.length : Int) := by omega
      obtain rfl := t3 (by omega)
      obtain ⟨u, hcu, hu⟩ := Q4.out f hft
      obtain ⟨a3, cap3, b3, off3, rfl, r1, r2, r3, r4⟩ := hu.open
      have h6 := tab_row hvt hft
      obtain rfl := r3 (by omega)
      have H6 := Lib.hid h6
      have hrow : ∀ k (hk : k < t[f].length), ∃ x, tat t f k = x ∧ w.cell? ⟨b3, off3 + k, none⟩ = some (.int .i64 x) ∧ I64 x := fun k hk => ⟨_, tat_eq hft hk, r4 k hk, by have := tab_at hvt hft hk; unfold I64; omega⟩
      have HROW := Lib.hid hrow
      have HCU := Lib.hid hcu
      clear c1 hv hn hvt hneg h8 r3 r4 hu hcu hrow h6 t3
      go_enter Try.func31, Try.ntmps31
      go_wp2_with fail
      refine (C0.out _ HT.out).mono ?_
      rintro e w1 ⟨rfl, b1⟩
      have HB1 := Lib.hid (And.intro (bup2 HB0.out b1) (box_keep X0.out b1))
      have z1 := b1.size
      simp only [World.size_alloc] at z1
      clear b1
      go_wp2_with fail
      refine (C1.out _ (HD0.out.below HB1.out.1)).mono ?_
      rintro e w2 ⟨rfl, b2⟩
      have HB2 := Lib.hid (And.intro (bup2 HB1.out.1 b2) (box_keep HB1.out.2 b2))
      have z2 := b2.size
      clear b2
      go_wp2_with (refine mk_ints rfl _ _ rfl n rfl rfl (by omega) ?_; rintro w3 ⟨cs, hown, rfl⟩ hb3)
      have HR : Hid (FvR w (.slice (some ⟨b2, off2, none⟩) t.length cap2) (.slice (some ⟨w2.heap.size, 0, none⟩) n n) ([] ++ List.replicate (n - 0) 0) w3) := by
        refine Lib.hid (FvR.mk' ⟨?_, fun x hx => ?_⟩ (bup2 HB2.out.1 hb3) (by have := hb3.size; omega) (box_keep HB2.out.2 hb3))
        · simp only [List.nil_append, Nat.sub_zero, List.length_replicate, List.map_replicate]
          exact own_wide hown (by omega)
        · simp only [List.nil_append] at hx
          rw [List.eq_of_mem_replicate hx]
          unfold I64; omega
      clear hown hb3
      go_wp2_with fail
      go_loopw [10, 11, 12, 13, 27] (fun _ _ _ _ i wr => ∃ (k : Nat) (l : List Int), k ≤ n ∧ i = .int .i64 k ∧ fvN d t f k = some l ∧ FvR w (.slice (some ⟨b2, off2, none⟩) t.length cap2) (.slice (some ⟨w2.heap.size, 0, none⟩) n n) (l ++ List.replicate (n - k) 0) wr) (fun _ _ _ _ i _ => n - (intOf i).toNat)
      case atStart => exact ⟨0, [], Nat.zero_le _, rfl, rfl, HR.out⟩
      case round =>
        obtain ⟨k, l, hk, rfl, hl, hR⟩ := hrel
        have HL := Lib.hid hl
        have HQ := Lib.hid hR
        have hll := fvN_len hl
        clear hl hR HR
        by_cases hlt : k < n
        · have hki : (k : Int) < (n : Int) := by omega
          have hk6 : (k : Int) < (t[f].length : Int) := by have := H6.out; omega
          obtain ⟨x, hx, hcx, hxi⟩ := HROW.out k (by have := H6.out; omega)
          obtain ⟨d1, -⟩ := one_at HQ.out.box
          have d2 := cell_later HQ.out.bel HCU.out
          have d3 := cell_later HQ.out.bel hcx
          have HX := Lib.hid (And.intro hx hxi)
          clear hx hcx hxi
          by_cases hx0 : x < 0
          · have HS := HQ.out
            rw [pad0_more l hlt] at HS
            have HS2 := Lib.hid (And.intro (fvN_yes HL.out (fval_neg HX.out.1 hx0)) HS)
            clear HS
            go_wp2_with fail
            go_roundw
            case rel => exact ⟨k + 1, l ++ [0], by omega, by go_num, HS2.out.1, HS2.out.2⟩
            case measure => simp [intOf]; omega
          · have c2 := fun wx h => C2.out x wx h HX.out.2
            have hri := rdp_value (d := d) (n := x)
            obtain ⟨r, hr⟩ : ∃ r, rdp d x = r := ⟨_, rfl⟩
            have hfv := fun p b (h : rdp d x = (p, b)) => fval_pos HX.out.1 hx0 h
            rw [hr] at c2 hri
            obtain ⟨⟨g0, fi, pl, va, st⟩, ok⟩ := r
            have hf2 := hfv _ _ hr
            simp only at hf2
            have C3 := Lib.hid c2
            have HRI := Lib.hid hri
            clear c2 hfv hr hri
            have hcond : (ok = true ∧ fi = (f : Int) ∧ pl = (k : Int)) ∨ (ok = false) ∨ (ok = true ∧ (fi != (f : Int)) = true) ∨ (ok = true ∧ (fi != (f : Int)) = false ∧ (pl != (k : Int)) = true) := by
              cases ok
              · exact .inr (.inl rfl)
              · by_cases h1 : fi = (f : Int)
                · by_cases h2 : pl = (k : Int)
                  · exact .inl ⟨rfl, h1, h2⟩
                  · exact .inr (.inr (.inr ⟨rfl, by simpa using h1, by simpa using h2⟩))
                · exact .inr (.inr (.inl ⟨rfl, by simpa using h1⟩))
            rcases hcond with ⟨rfl, e1, e2⟩ | rfl | ⟨rfl, e1⟩ | ⟨rfl, e1, e2⟩
            · rw [if_pos ⟨rfl, e1, e2⟩] at hf2
              have HS2 := Lib.hid (fvN_yes HL.out hf2)
              have e3 : (fi != (f : Int)) = false := by simpa using e1
              have e4 : (pl != (k : Int)) = false := by simpa using e2
              have hkl : k < (l ++ List.replicate (n - k) (0 : Int)).length := by rw [List.length_append, List.length_replicate]; omega
              clear hf2 e1 e2
              go_wp2_with fail
              refine (C3.out _ (HD0.out.below HQ.out.bel)).mono ?_
              rintro e w5 ⟨rfl, b5⟩
              unfold pgv
              have b6 := bup2 b5 (balloc w5 (.cells #[.bool g0, .int .i64 fi, .int .i64 pl, .int .i64 va, .int .i64 st] 53))
              have HQ6 := Lib.hid (HQ.out.keep b6)
              obtain ⟨⟨s1, s2⟩, -⟩ := HQ6.out.set hkl
              have HS := (HQ6.out.set hkl).2 va HRI.out.1
              rw [pad_at l hll hlt] at HS
              have HS3 := Lib.hid HS
              clear b5 b6 HS
              go_wp2_with fail
              go_roundw
              case rel => exact ⟨k + 1, l ++ [va], by omega, by go_num, HS2.out, HS3.out⟩
              case measure => simp [intOf]; omega
            all_goals
              rw [if_neg (by simp_all)] at hf2
              have HU := Lib.hid (fvs_no HV.out HN.out (fvN_up (fvN_no (n := k) hf2) (by omega)))
              clear hf2
              go_wp2_with fail
              refine (C3.out _ (HD0.out.below HQ.out.bel)).mono ?_
              rintro e w5 ⟨rfl, b5⟩
              unfold pgv
              have b6 := bup2 b5 (balloc w5 (.cells #[.bool g0, .int .i64 fi, .int .i64 pl, .int .i64 va, .int .i64 st] 53))
              have HQ6 := Lib.hid (HQ.out.keep b6)
              clear b5 b6
              go_wp2_with fail
              refine bodyPost_ret (v := .tuple #[.slice none 0 0, .bool false]) (by simp [results, Try.results31, go_sem]) rfl ?_
              exact ⟨_, by rw [HU.out], by rw [HU.out]; exact oi_nil _ _, HQ6.out.bel⟩
        · have hki : ¬ (k : Int) < (n : Int) := by omega
          obtain rfl : k = n := by omega
          have HU := Lib.hid (fvs_yes HV.out HN.out HL.out)
          have HS := HQ.out
          rw [pad_end l (Nat.le_refl _)] at HS
          have HS2 := Lib.hid HS
          clear HS
          go_wp2_with fail
          refine bodyPost_ret (v := .tuple #[.slice (some ⟨w2.heap.size, 0, none⟩) k k, .bool true]) (by simp [results, Try.results31, go_sem]) rfl ?_
          exact ⟨_, by rw [HU.out], by rw [HU.out]; exact HS2.out.own.wide (by omega), HS2.out.bel⟩

set_option maxHeartbeats 4000000 in
set_option maxRecDepth 4000 in
theorem specFvs_any (v tv : Value) (d : List Bk) (t : List (List Int)) (f : Int) (lo hi lo2 hi2 : Nat) (w : World) (h : RD w lo hi v d) (h2 : RT w lo2 hi2 tv t) (hfi : I64 f) :
    Calls Try.prog 34 #[v, .agg #[tv], .int .i64 f] w (NewIB (fvs d t f) w) := by
  obtain ⟨a, cap, b, off, rfl, q1, q2, q3, -⟩ := h.open
  obtain ⟨a2, cap2, b2, off2, rfl, t1, t2, t3, t4⟩ := h2.open
  have e1 : (w.alloc (.cells #[.slice a2 t.length cap2] 26)).heap.size = w.heap.size + 1 := by simp
  have hb0 := two_below w (.cells #[.slice a2 t.length cap2] 26) (.cells #[] 3)
  have HR0 : Hid (FvR w (.slice a2 t.length cap2) (.slice (some ⟨w.heap.size + 1, 0, none⟩) 0 0) [] ((w.alloc (.cells #[.slice a2 t.length cap2] 26)).alloc (.cells #[] 3))) :=
    Lib.hid (FvR.mk' (oi_empty _ _ _ (by omega) e1) hb0 (by simp) (box_keep (heap_alloc_new w (.cells #[.slice a2 t.length cap2] 26)) (balloc _ (.cells #[] 3))))
  have HD0 := Lib.hid h
  have HT := Lib.hid h2
  have HB0 := Lib.hid hb0
  have Q4 := Lib.hid t4
  have C0 := Lib.hid (fun wx h => specFsz_any (.slice a2 t.length cap2) t f lo2 hi2 wx h)
  clear h h2 hb0 q3 t4 e1
  cases hv : dvOk d
  · have HU := Lib.hid (fvs_dv (t := t) (f := f) hv)
    have c1 := fun wx h => specDvv_any (.slice a d.length cap) d lo hi wx h
    rw [hv] at c1
    have C1 := Lib.hid c1
    clear c1 hv
    go_enter Try.func34, Try.ntmps34
    go_wp2_with fail
    refine (C1.out _ (HD0.out.below HB0.out)).mono ?_
    rintro e w1 ⟨rfl, b1⟩
    have HF := Lib.hid (HR0.out.keep b1)
    clear b1
    go_wp2_with fail
    all_goals (refine bodyPost_ret (v := .tuple #[.slice (some ⟨w.heap.size + 1, 0, none⟩) 0 0, .bool false]) (by simp [results, Try.results34, go_sem]) rfl ?_; exact ⟨_, by rw [HU.out], by rw [HU.out]; exact HF.out.own.wide (by omega), HF.out.bel⟩)
  · have HV := Lib.hid hv
    have c1 := fun wx h => specDvv_any (.slice a d.length cap) d lo hi wx h
    rw [hv] at c1
    have C1 := Lib.hid c1
    clear c1 hv
    by_cases hneg : fsz t f < 0
    · have HU := Lib.hid (fvs_neg (d := d) hneg)
      go_enter Try.func34, Try.ntmps34
      go_wp2_with fail
      refine (C1.out _ (HD0.out.below HB0.out)).mono ?_
      rintro e w1 ⟨rfl, b1⟩
      have HR := Lib.hid (HR0.out.keep b1)
      obtain ⟨d1, -⟩ := one_at HR.out.box
      clear b1
      go_wp2_with fail
      refine (C0.out _ (HT.out.below HR.out.bel)).mono ?_
      rintro e w2 ⟨rfl, b2⟩
      have HF := Lib.hid (HR.out.keep b2)
      clear b2
      go_wp2_with fail
      all_goals (refine bodyPost_ret (v := .tuple #[.slice (some ⟨w.heap.size + 1, 0, none⟩) 0 0, .bool false]) (by simp [results, Try.results34, go_sem]) rfl ?_; exact ⟨_, by rw [HU.out], by rw [HU.out]; exact HF.out.own.wide (by omega), HF.out.bel⟩)
    · obtain ⟨hvt, f0, f7⟩ := fsz_ok hneg
      obtain ⟨f, rfl⟩ := Int.eq_ofNat_of_zero_le f0
      obtain ⟨n, hn, hn6, -⟩ := fsz_nat hvt (f := f) (by omega)
      have HN := Lib.hid hn
      rw [hn] at C0
      have h8 := tab_len hvt
      have C2 := Lib.hid (fun x wx h hx => specRdp_any (.slice a d.length cap) d x lo hi wx h hx)
      have hn0 : ¬ (n : Int) < 0 := by omega
      have hft : f < t.length := by omega
      have hfl : (f : Int) < (t.length : Int) := by omega
      obtain rfl := t3 (by omega)
      obtain ⟨u, hcu, hu⟩ := Q4.out f hft
      obtain ⟨a3, cap3, b3, off3, rfl, r1, r2, r3, r4⟩ := hu.open
      have h6 := tab_row hvt hft
      obtain rfl := r3 (by omega)
      have H6 := Lib.hid h6
      have hrow : ∀ k (hk : k < t[f].length), ∃ x, tat t f k = x ∧ w.cell? ⟨b3, off3 + k, none⟩ = some (.int .i64 x) ∧ I64 x := fun k hk => ⟨_, tat_eq hft hk, r4 k hk, by have := tab_at hvt hft hk; unfold I64; omega⟩
      have HROW := Lib.hid hrow
      have HCU := Lib.hid hcu
      clear hn hvt hneg h8 r3 r4 hu hcu hrow h6 t3
      go_enter Try.func34, Try.ntmps34
      go_wp2_with fail
      refine (C1.out _ (HD0.out.below HB0.out)).mono ?_
      rintro e w1 ⟨rfl, b1⟩
      have HR := Lib.hid (HR0.out.keep b1)
      obtain ⟨d1, -⟩ := one_at HR.out.box
      clear b1
      go_wp2_with fail
      refine (C0.out _ (HT.out.below HR.out.bel)).mono ?_
      rintro e w2 ⟨rfl, b2⟩
      have HR2 := Lib.hid (HR.out.keep b2)
      clear b2 d1 HR HR0
      go_wp2_with fail
      go_loopw [8, 9, 10, 11, 44, 57] (fun u i _ _ _ _ wr => ∃ (k : Nat) (l : List Int), k ≤ n ∧ i = .int .i64 k ∧ fvN d t f k = some l ∧ FvR w (.slice (some ⟨b2, off2, none⟩) t.length cap2) u l wr) (fun _ i _ _ _ _ _ => n - (intOf i).toNat)
      case atStart => exact ⟨0, [], Nat.zero_le _, rfl, rfl, HR2.out⟩
      case round =>
        obtain ⟨k, l, hk, rfl, hl, hR⟩ := hrel
        have HL := Lib.hid hl
        have HQ := Lib.hid hR
        have hll := fvN_len hl
        obtain ⟨d1, -⟩ := one_at hR.box
        clear hl hR HR2
        go_wp2_with fail
        refine (C0.out _ (HT.out.below HQ.out.bel)).mono ?_
        rintro e w3 ⟨rfl, b3'⟩
        have HQ3 := Lib.hid (HQ.out.keep b3')
        clear b3' d1 HQ
        by_cases hlt : k < n
        · have hki : (k : Int) < (n : Int) := by omega
          have hk6 : (k : Int) < (t[f].length : Int) := by have := H6.out; omega
          obtain ⟨x, hx, hcx, hxi⟩ := HROW.out k (by have := H6.out; omega)
          obtain ⟨d1, -⟩ := one_at HQ3.out.box
          have d2 := cell_later HQ3.out.bel HCU.out
          have d3 := cell_later HQ3.out.bel hcx
          have HX := Lib.hid (And.intro hx (And.intro hxi hcx))
          clear hx hcx hxi
          have c2 := fun wx h => C2.out x wx h HX.out.2.1
          have hri := rdp_value (d := d) (n := x)
          obtain ⟨r, hr⟩ : ∃ r, rdp d x = r := ⟨_, rfl⟩
          have hfv := fun p b (h : rdp d x = (p, b)) hx0 => fval_pos HX.out.1 hx0 h
          rw [hr] at c2 hri
          obtain ⟨⟨g0, fi, pl, va, st⟩, ok⟩ := r
          have hf2 := hfv _ _ hr
          simp only at hf2
          have C3 := Lib.hid c2
          have HRI := Lib.hid hri
          have HF2 := Lib.hid hf2
          clear c2 hfv hr hri hf2
          go_wp2_with fail
          refine (C3.out _ (HD0.out.below HQ3.out.bel)).mono ?_
          rintro e w5 ⟨rfl, b5⟩
          unfold pgv
          have b6 := bup2 b5 (balloc w5 (.cells #[.bool g0, .int .i64 fi, .int .i64 pl, .int .i64 va, .int .i64 st] 53))
          have X5 := heap_alloc_new w5 (.cells #[.bool g0, .int .i64 fi, .int .i64 pl, .int .i64 va, .int .i64 st] 53)
          obtain ⟨s0, s1, s2, s3, s4⟩ := five_at (p := ⟨g0, fi, pl, va, st⟩) X5
          simp only [Nat.zero_add] at s1 s2 s3 s4
          have HQ6 := Lib.hid (HQ3.out.keep b6)
          have d1' := cell_later b6 d1
          have d2' := cell_later b6 d2
          have d3' := cell_later b6 d3
          have zq := HQ6.out.ord.2.1
          clear b5 b6 d1 d2 d3 HQ3 X5
          generalize hw6 : w5.alloc (.cells #[.bool g0, .int .i64 fi, .int .i64 pl, .int .i64 va, .int .i64 st] 53) = w6 at *
          by_cases hx0 : x < 0
          · have HS2 := Lib.hid (fvN_yes HL.out (fval_neg HX.out.1 hx0))
            go_wp2_with (at_builtin; refine ap1_intA rfl _ _ rfl (w.heap.size + 1) u8 l 0 rfl HQ6.out.own rfl (by omega) (by omega) (by unfold I64; omega) ?_; intro v' w7 o7 c7; have HS := Lib.hid (HQ6.out.app o7.1 o7.2 c7); clear o7 c7)
            go_roundw
            case rel => exact ⟨k + 1, l ++ [0], by omega, by go_num, HS2.out, HS.out⟩
            case measure => simp [intOf]; omega
          · have hf2 := HF2.out (by omega)
            have hcond : (ok = true ∧ fi = (f : Int) ∧ pl = (k : Int)) ∨ (ok = false) ∨ (ok = true ∧ (fi == (f : Int)) = false) ∨ (ok = true ∧ (fi == (f : Int)) = true ∧ (pl == (k : Int)) = false) := by
              cases ok
              · exact .inr (.inl rfl)
              · by_cases h1 : fi = (f : Int)
                · by_cases h2 : pl = (k : Int)
                  · exact .inl ⟨rfl, h1, h2⟩
                  · exact .inr (.inr (.inr ⟨rfl, by simpa using h1, by simpa using h2⟩))
                · exact .inr (.inr (.inl ⟨rfl, by simpa using h1⟩))
            rcases hcond with ⟨rfl, e1, e2⟩ | rfl | ⟨rfl, e1⟩ | ⟨rfl, e1, e2⟩
            · rw [if_pos ⟨rfl, e1, e2⟩] at hf2
              have HS2 := Lib.hid (fvN_yes HL.out hf2)
              have e3 : (fi == (f : Int)) = true := by simpa using e1
              have e4 : (pl == (k : Int)) = true := by simpa using e2
              have hva := HRI.out.1
              clear hf2 e1 e2
              go_wp2_with (at_builtin; refine ap1_intA rfl _ _ rfl (w.heap.size + 1) u8 l va rfl HQ6.out.own rfl (by omega) (by omega) hva ?_; intro v' w7 o7 c7; have HS := Lib.hid (HQ6.out.app o7.1 o7.2 c7); clear o7 c7)
              go_roundw
              case rel => exact ⟨k + 1, l ++ [va], by omega, by go_num, HS2.out, HS.out⟩
              case measure => simp [intOf]; omega
            all_goals
              rw [if_neg (by simp_all)] at hf2
              have HU := Lib.hid (fvs_no HV.out HN.out (fvN_up (fvN_no (n := k) hf2) (by omega)))
              have HE := Lib.hid (And.intro (oi_empty w6 w.heap.size w6.heap.size (by omega) rfl) (bup2 HQ6.out.bel (balloc w6 (.cells #[] 3))))
              clear hf2
              go_wp2_with fail
              refine bodyPost_ret (v := .tuple #[.slice (some ⟨w6.heap.size, 0, none⟩) 0 0, .bool false]) (by simp [results, Try.results34, go_sem]) rfl ?_
              exact ⟨_, by rw [HU.out], by rw [HU.out]; exact HE.out.1, HE.out.2⟩
        · have hki : ¬ (k : Int) < (n : Int) := by omega
          obtain rfl : k = n := by omega
          have HU := Lib.hid (fvs_yes HV.out HN.out HL.out)
          go_wp2_with fail
          refine bodyPost_ret (v := .tuple #[u8, .bool true]) (by simp [results, Try.results34, go_sem]) rfl ?_
          exact ⟨_, by rw [HU.out], by rw [HU.out]; exact HQ3.out.own.wide (by omega), HQ3.out.bel⟩

end Go.Proofs.Ytjmofmdcegefgaa

