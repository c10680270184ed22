/-
  TableChanges, of the program and of the reference.
-/
import Derived.Test.YthpcgdkhipcieaaTbv
namespace Go.Proofs.Ythpcgdkhipcieaa
open Go.RowKit

theorem pre_len {t : List (List Int)} (hv : tabVal t = true) {f p : Nat} (hf : f < t.length) (hp : p ≤ 6) : (pre t f p).length = f * 6 + p := by
  have h6 := (tabVal_iff.1 hv).2.1
  unfold pre
  rw [List.length_append, flat_len (fun l hl => h6 l (List.mem_of_mem_take hl)), getD_at hf, List.length_take, List.length_take, tab_row hv hf]
  omega
theorem tdif_le (a b : List Int) : tdif a b ≤ a.length := by
  unfold tdif
  have h1 := List.countP_le_length (p := fun q : Int × Int => !(q.1 == q.2)) (l := a.zip b)
  have h2 : (a.zip b).length ≤ a.length := by rw [List.length_zip]; omega
  omega
theorem tdif_pre {a b : List (List Int)} (ha : tabVal a = true) (hb : tabVal b = true) {f p : Nat} (hfa : f < a.length) (hfb : f < b.length) (hpa : p < a[f].length) (hpb : p < b[f].length) :
    tdif (pre a f (p + 1)) (pre b f (p + 1)) = tdif (pre a f p) (pre b f p) + if a[f][p] = b[f][p] then 0 else 1 := by
  have h6 := tab_row ha hfa
  rw [pre_succ hfa hpa, pre_succ hfb hpb, tdif_snoc]
  rw [pre_len ha hfa (by omega), pre_len hb hfb (by omega)]
theorem tdif_bd {a b : List (List Int)} (ha : tabVal a = true) {f p : Nat} (hfa : f < a.length) (hp : p ≤ 6) : tdif (pre a f p) (pre b f p) ≤ 48 := by
  have h1 := tdif_le (pre a f p) (pre b f p)
  rw [pre_len ha hfa hp] at h1
  have := tab_len ha
  omega
theorem tchg_yes {a b : List (List Int)} (ha : tabVal a = true) (hb : tabVal b = true) : tchg a b = tdif ((a.take 8).flatten) ((b.take 8).flatten) := by
  rw [tchg, if_pos ⟨ha, hb⟩, List.take_of_length_le (by rw [tab_len ha]; omega), List.take_of_length_le (by rw [tab_len hb]; omega)]
theorem tchg_no {a b : List (List Int)} (h : tabVal a = false ∨ tabVal b = false) : tchg a b = -1 := by
  rw [tchg, if_neg]
  rintro ⟨h1, h2⟩
  rcases h with h | h
  · rw [h1] at h; cases h
  · rw [h2] at h; cases h
theorem two_new {w w2 : World} (o1 o2 : Obj) (h : Below ((w.alloc o1).alloc o2).heap.size ((w.alloc o1).alloc o2) w2) :
    w2.heap[w.heap.size]? = some o1 ∧ w2.heap[w.heap.size + 1]? = some o2 := by
  have e1 : ((w.alloc o1).alloc o2).heap[w.heap.size]? = some o1 := by
    rw [Below.heap_alloc _ _ _ (by simp)]; exact heap_alloc_new w o1
  have e2 : ((w.alloc o1).alloc o2).heap[w.heap.size + 1]? = some o2 := by
    have := heap_alloc_new (w.alloc o1) o2
    simpa using this
  exact ⟨(h.block _ (by simp; omega)).trans e1, (h.block _ (by simp)).trans e2⟩
theorem two_below (w : World) (o1 o2 : Obj) : Below w.heap.size w ((w.alloc o1).alloc o2) := (balloc w o1).trans ((balloc (w.alloc o1) o2).mono (by simp))

set_option maxHeartbeats 2000000 in
theorem implTch_any (va vb : Value) (a b : List (List Int)) (lo hi lo2 hi2 : Nat) (w : World) (h : RT w lo hi va a) (h2 : RT w lo2 hi2 vb b) :
    Calls Try.prog 24 #[.agg #[va], .agg #[vb]] w fun e w' => e = .returned (.int .i64 (tchg a b)) ∧ Below w.heap.size w w' := by
  obtain ⟨aa, capa, ba, offa, rfl, q1, q2, q3, q4⟩ := h.open
  obtain ⟨ab, capb, bb, offb, rfl, r1, r2, r3, r4⟩ := h2.open
  have hb0 := two_below w (.cells #[.slice aa a.length capa] 27) (.cells #[.slice ab b.length capb] 27)
  have HA := Lib.hid (h.below hb0)
  have HT := Lib.hid (h2.below hb0)
  have HB0 := Lib.hid hb0
  have Q4 := Lib.hid q4
  have R4 := Lib.hid r4
  clear h h2 q4 r4 hb0
  cases hva : tabVal a
  · rw [tchg_no (.inl hva)]
    have HV := Lib.hid hva
    clear hva
    go_enter Try.func24, Try.ntmps24
    go_wp2_with fail
    refine (implTbv_any _ a lo hi _ HA.out).mono ?_
    rintro e w1 ⟨rfl, b1⟩
    have HB1 := Lib.hid (HB0.out.trans (b1.mono (by simp; omega)))
    have hv' : tabVal a = false := HV.out
    clear b1
    go_wp2_with fail
    all_goals (go_ret; exact ⟨rfl, HB1.out⟩)
  · cases hvb : tabVal b
    · rw [tchg_no (.inr hvb)]
      have HV := Lib.hid (And.intro hva hvb)
      clear hva hvb
      go_enter Try.func24, Try.ntmps24
      go_wp2_with fail
      refine (implTbv_any _ a lo hi _ HA.out).mono ?_
      rintro e w1 ⟨rfl, b1⟩
      obtain ⟨x0, x1⟩ := two_new _ _ b1
      obtain ⟨hb1, -⟩ := one_at x1
      have HB1 := Lib.hid b1
      have hv' : tabVal a = true := HV.out.1
      clear b1 x0 x1
      go_wp2_with fail
      refine (implTbv_any _ b lo2 hi2 _ (HT.out.below HB1.out)).mono ?_
      rintro e w2 ⟨rfl, b2⟩
      have HB2 := Lib.hid (HB0.out.trans ((bup2 HB1.out b2).mono (by simp; omega)))
      have hv2' : tabVal b = false := HV.out.2
      clear b2 hb1
      go_wp2_with fail
      all_goals (go_ret; exact ⟨rfl, HB2.out⟩)
    · have HV := Lib.hid (And.intro hva hvb)
      generalize hR : tchg a b = R
      have HR := Lib.hid (show ((tdif ((a.take 8).flatten) ((b.take 8).flatten) : Nat) : Int) = R by rw [← hR, tchg_yes hva hvb])
      have hla := tab_len hva
      have hlb := tab_len hvb
      obtain rfl := q3 (by omega)
      obtain rfl := r3 (by omega)
      have HL := Lib.hid (And.intro hla hlb)
      have ga : a.length ≤ 8 := by omega
      have gb : 8 ≤ a.length := by omega
      have gc : b.length ≤ 8 := by omega
      have gd : 8 ≤ b.length := by omega
      clear hva hvb hR q3 r3 hla hlb
      go_enter Try.func24, Try.ntmps24
      go_wp2_with fail
      refine (implTbv_any _ a lo hi _ HA.out).mono ?_
      rintro e w1 ⟨rfl, b1⟩
      obtain ⟨x0, x1⟩ := two_new _ _ b1
      obtain ⟨hb1, -⟩ := one_at x1
      have HB1 := Lib.hid b1
      have hv' : tabVal a = true := HV.out.1
      clear b1 x0 x1
      go_wp2_with fail
      refine (implTbv_any _ b lo2 hi2 _ (HT.out.below HB1.out)).mono ?_
      rintro e w2 ⟨rfl, b2⟩
      have b02 := bup2 HB1.out b2
      obtain ⟨x0, x1⟩ := two_new _ _ b02
      obtain ⟨hb0', -⟩ := one_at x0
      obtain ⟨hb1', -⟩ := one_at x1
      have HB2 := Lib.hid (HB0.out.trans (b02.mono (by simp; omega)))
      have hv2' : tabVal b = true := HV.out.2
      clear b2 b02 x0 x1 hb1
      go_wp2_with fail
      go_loop [5, 6, 7, 8, 9, 21] (fun c _ _ _ _ i => ∃ f : Nat, f ≤ 8 ∧ i = .int .i64 f ∧ c = .int .i64 ((tdif ((a.take f).flatten) ((b.take f).flatten) : Nat) : Int)) (fun _ _ _ _ _ i => 8 - (intOf i).toNat)
      case atStart => exact ⟨0, Nat.zero_le _, rfl, rfl⟩
      case round =>
        obtain ⟨f, hf, rfl, rfl⟩ := hrel
        by_cases hlt : f < 8
        · have hfa : f < a.length := by omega
          have hfb : f < b.length := by omega
          obtain ⟨u, hcu, hu⟩ := Q4.out f hfa
          obtain ⟨u', hcu', hu'⟩ := R4.out f hfb
          obtain ⟨a3, cap3, b3, off3, rfl, s1, s2, s3, s4⟩ := hu.open
          obtain ⟨a5, cap5, b5, off5, rfl, t1, t2, t3, t4⟩ := hu'.open
          have ha6 := tab_row HV.out.1 hfa
          have hb6 := tab_row HV.out.2 hfb
          obtain rfl := s3 (by omega)
          obtain rfl := t3 (by omega)
          have c1 := cell_later HB2.out hcu
          have c2 := cell_later HB2.out hcu'
          have S4 := Lib.hid s4
          have T4 := Lib.hid t4
          have H6 := Lib.hid (And.intro ha6 hb6)
          have g1 : a[f].length ≤ 6 := by omega
          have g2 : 6 ≤ a[f].length := by omega
          have g3 : b[f].length ≤ 6 := by omega
          have g4 : 6 ≤ b[f].length := by omega
          clear hcu hcu' hu hu' s3 t3 s4 t4 ha6 hb6
          go_wp2_with fail
          go_loop [5, 8, 9, 28] (fun c _ _ i => ∃ p : Nat, p ≤ 6 ∧ i = .int .i64 p ∧ c = .int .i64 ((tdif (pre a f p) (pre b f p) : Nat) : Int)) (fun _ _ _ i => 6 - (intOf i).toNat)
          case atStart => exact ⟨0, Nat.zero_le _, rfl, by rw [pre_zero, pre_zero]⟩
          case round =>
            obtain ⟨p, hp, rfl, rfl⟩ := hrel
            by_cases hpl : p < 6
            · have hpa : p < a[f].length := by omega
              have hpb : p < b[f].length := by omega
              have d1 := cell_later HB2.out (S4.out p hpa)
              have d2 := cell_later HB2.out (T4.out p hpb)
              have HD := Lib.hid (tdif_pre HV.out.1 HV.out.2 hfa hfb hpa hpb)
              have hbd := tdif_bd (b := b) HV.out.1 hfa (p := p) (by omega)
              by_cases he : a[f][p] = b[f][p]
              · have hne : (a[f][p] != b[f][p]) = false := by simp [he]
                have HE := Lib.hid he
                clear he
                go_wp2_with fail
                go_round
                case rel => exact ⟨p + 1, by omega, by go_num, by rw [HD.out, if_pos HE.out]; rfl⟩
                case measure => simp [intOf]; omega
              · have hne : (a[f][p] != b[f][p]) = true := by simp [he]
                have HE := Lib.hid he
                clear he
                go_wp2_with fail
                go_round
                case rel => exact ⟨p + 1, by omega, by go_num, by rw [HD.out, if_neg HE.out]; go_num⟩
                case measure => simp [intOf]; omega
            · have HP := Lib.hid (show tdif (pre a f p) (pre b f p) = tdif ((a.take (f + 1)).flatten) ((b.take (f + 1)).flatten) by rw [pre_row hfa p (by omega), pre_row hfb p (by omega)])
              go_wp2_with fail
              go_round
              case rel => exact ⟨f + 1, by omega, by go_num, by rw [HP.out]⟩
              case measure => simp [intOf]; omega
        · have HP := Lib.hid (show ((tdif ((a.take f).flatten) ((b.take f).flatten) : Nat) : Int) = R by rw [show f = 8 by omega]; exact HR.out)
          go_wp2_with fail
          go_ret
          exact ⟨ret_int (by rw [← HP.out]), HB2.out⟩

set_option maxHeartbeats 2000000 in
theorem specTch_any (va vb : Value) (a b : List (List Int)) (lo hi lo2 hi2 : Nat) (w : World) (h : RT w lo hi va a) (h2 : RT w lo2 hi2 vb b) :
    Calls Try.prog 23 #[.agg #[va], .agg #[vb]] w fun e w' => e = .returned (.int .i64 (tchg a b)) ∧ Below w.heap.size w w' := by
  obtain ⟨aa, capa, ba, offa, rfl, q1, q2, q3, q4⟩ := h.open
  obtain ⟨ab, capb, bb, offb, rfl, r1, r2, r3, r4⟩ := h2.open
  have hb0 := two_below w (.cells #[.slice aa a.length capa] 27) (.cells #[.slice ab b.length capb] 27)
  have HA := Lib.hid (h.below hb0)
  have HT := Lib.hid (h2.below hb0)
  have HB0 := Lib.hid hb0
  have Q4 := Lib.hid q4
  have R4 := Lib.hid r4
  clear h h2 q4 r4 hb0
  cases hva : tabVal a
  · rw [tchg_no (.inl hva)]
    have HV := Lib.hid hva
    clear hva
    go_enter Try.func23, Try.ntmps23
    go_wp2_with fail
    refine (specTbv_any _ a lo hi _ HA.out).mono ?_
    rintro e w1 ⟨rfl, b1⟩
    have HB1 := Lib.hid (HB0.out.trans (b1.mono (by simp; omega)))
    have hv' : tabVal a = false := HV.out
    clear b1
    go_wp2_with fail
    all_goals (go_ret; exact ⟨rfl, HB1.out⟩)
  · cases hvb : tabVal b
    · rw [tchg_no (.inr hvb)]
      have HV := Lib.hid (And.intro hva hvb)
      clear hva hvb
      go_enter Try.func23, Try.ntmps23
      go_wp2_with fail
      refine (specTbv_any _ a lo hi _ HA.out).mono ?_
      rintro e w1 ⟨rfl, b1⟩
      obtain ⟨x0, x1⟩ := two_new _ _ b1
      obtain ⟨hb1, -⟩ := one_at x1
      have HB1 := Lib.hid b1
      have hv' : tabVal a = true := HV.out.1
      clear b1 x0 x1
      go_wp2_with fail
      refine (specTbv_any _ b lo2 hi2 _ (HT.out.below HB1.out)).mono ?_
      rintro e w2 ⟨rfl, b2⟩
      have HB2 := Lib.hid (HB0.out.trans ((bup2 HB1.out b2).mono (by simp; omega)))
      have hv2' : tabVal b = false := HV.out.2
      clear b2 hb1
      go_wp2_with fail
      all_goals (go_ret; exact ⟨rfl, HB2.out⟩)
    · have HV := Lib.hid (And.intro hva hvb)
      generalize hR : tchg a b = R
      have HR := Lib.hid (show ((tdif ((a.take 8).flatten) ((b.take 8).flatten) : Nat) : Int) = R by rw [← hR, tchg_yes hva hvb])
      have hla := tab_len hva
      have hlb := tab_len hvb
      obtain rfl := q3 (by omega)
      obtain rfl := r3 (by omega)
      have HL := Lib.hid (And.intro hla hlb)
      have ga : a.length ≤ 8 := by omega
      have gb : 8 ≤ a.length := by omega
      have gc : b.length ≤ 8 := by omega
      have gd : 8 ≤ b.length := by omega
      clear hva hvb hR q3 r3 hla hlb
      go_enter Try.func23, Try.ntmps23
      go_wp2_with fail
      refine (specTbv_any _ a lo hi _ HA.out).mono ?_
      rintro e w1 ⟨rfl, b1⟩
      obtain ⟨x0, x1⟩ := two_new _ _ b1
      obtain ⟨hb1, -⟩ := one_at x1
      have HB1 := Lib.hid b1
      have hv' : tabVal a = true := HV.out.1
      clear b1 x0 x1
      go_wp2_with fail
      refine (specTbv_any _ b lo2 hi2 _ (HT.out.below HB1.out)).mono ?_
      rintro e w2 ⟨rfl, b2⟩
      have b02 := bup2 HB1.out b2
      obtain ⟨x0, x1⟩ := two_new _ _ b02
      obtain ⟨hb0', -⟩ := one_at x0
      obtain ⟨hb1', -⟩ := one_at x1
      have HB2 := Lib.hid (HB0.out.trans (b02.mono (by simp; omega)))
      have hv2' : tabVal b = true := HV.out.2
      clear b2 b02 x0 x1 hb1
      go_wp2_with fail
      go_loopw [5, 6, 7] (fun c i _ wr => ∃ (f n : Nat), f ≤ 8 ∧ i = .int .i64 f ∧ c = .int .i64 ((tdif ((a.take f).flatten) ((b.take f).flatten) : Nat) : Int) ∧ wr = w2.drewN n) (fun _ i _ _ => 8 - (intOf i).toNat)
      case atStart => exact ⟨0, 0, Nat.zero_le _, rfl, rfl, rfl⟩
      case round =>
        obtain ⟨f, n, hf, rfl, rfl, rfl⟩ := hrel
        by_cases hlt : f < 8
        · have hfa : f < a.length := by omega
          have hfb : f < b.length := by omega
          obtain ⟨u, hcu, hu⟩ := Q4.out f hfa
          obtain ⟨u', hcu', hu'⟩ := R4.out f hfb
          obtain ⟨a3, cap3, b3, off3, rfl, s1, s2, s3, s4⟩ := hu.open
          obtain ⟨a5, cap5, b5, off5, rfl, t1, t2, t3, t4⟩ := hu'.open
          have ha6 := tab_row HV.out.1 hfa
          have hb6 := tab_row HV.out.2 hfb
          obtain rfl := s3 (by omega)
          obtain rfl := t3 (by omega)
          have c1 := cell_later HB2.out hcu
          have c2 := cell_later HB2.out hcu'
          have S4 := Lib.hid s4
          have T4 := Lib.hid t4
          have H6 := Lib.hid (And.intro ha6 hb6)
          have g1 : a[f].length ≤ 6 := by omega
          have g2 : 6 ≤ a[f].length := by omega
          have g3 : b[f].length ≤ 6 := by omega
          have g4 : 6 ≤ b[f].length := by omega
          clear hcu hcu' hu hu' s3 t3 s4 t4 ha6 hb6
          go_wp2_with fail
          go_loopw [5, 7] (fun c i wr => ∃ (p n : Nat), p ≤ 6 ∧ i = .int .i64 p ∧ c = .int .i64 ((tdif (pre a f p) (pre b f p) : Nat) : Int) ∧ wr = w2.drewN n) (fun _ i _ => 6 - (intOf i).toNat)
          case atStart => exact ⟨0, n, Nat.zero_le _, rfl, by rw [pre_zero, pre_zero], rfl⟩
          case round =>
            obtain ⟨p, n, hp, rfl, rfl, rfl⟩ := hrel
            by_cases hpl : p < 6
            · have hpa : p < a[f].length := by omega
              have hpb : p < b[f].length := by omega
              have d1 := cell_later HB2.out (S4.out p hpa)
              have d2 := cell_later HB2.out (T4.out p hpb)
              have HD := Lib.hid (tdif_pre HV.out.1 HV.out.2 hfa hfb hpa hpb)
              have hbd := tdif_bd (b := b) HV.out.1 hfa (p := p) (by omega)
              by_cases he : a[f][p] = b[f][p]
              · have hne : (a[f][p] != b[f][p]) = false := by simp [he]
                have HE := Lib.hid he
                clear he
                go_wp2_with fail
                go_quiet (fail)
                go_wp2_with fail
                go_roundw
                case rel => exact ⟨p + 1, n + nq, by omega, by go_num, by rw [HD.out, if_pos HE.out]; rfl, by simp⟩
                case measure => simp [intOf]; omega
              · have hne : (a[f][p] != b[f][p]) = true := by simp [he]
                have HE := Lib.hid he
                clear he
                go_wp2_with fail
                go_quiet (fail)
                go_wp2_with fail
                go_roundw
                case rel => exact ⟨p + 1, n + nq, by omega, by go_num, by rw [HD.out, if_neg HE.out]; go_num, by simp⟩
                case measure => simp [intOf]; omega
            · have HP := Lib.hid (show tdif (pre a f p) (pre b f p) = tdif ((a.take (f + 1)).flatten) ((b.take (f + 1)).flatten) by rw [pre_row hfa p (by omega), pre_row hfb p (by omega)])
              go_wp2_with fail
              go_roundw
              case rel => exact ⟨f + 1, n, by omega, by go_num, by rw [HP.out], rfl⟩
              case measure => simp [intOf]; omega
        · have HP := Lib.hid (show ((tdif ((a.take f).flatten) ((b.take f).flatten) : Nat) : Int) = R by rw [show f = 8 by omega]; exact HR.out)
          go_wp2_with fail
          go_ret
          exact ⟨ret_int (by rw [← HP.out]), HB2.out.drewN _⟩

end Go.Proofs.Ythpcgdkhipcieaa
