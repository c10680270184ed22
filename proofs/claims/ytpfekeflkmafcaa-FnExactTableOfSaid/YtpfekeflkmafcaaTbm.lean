/-
  The walks of the laws' helpers over tables: mark, held.
-/
import Derived.Test.YtpfekeflkmafcaaTbh
namespace Go.Proofs.Ytpfekeflkmafcaa
open Go.RowKit

theorem OT.inner {w : World} {lo hi : Nat} {v : Value} {xss : List (List Int)} (h : OT w lo hi v xss) (f : Nat) (hf : f < xss.length) :
    ∃ (a cap : Nat) (u : Value), v = .slice (some ⟨a, 0, none⟩) xss.length cap ∧ xss.length ≤ cap ∧ w.cell? ⟨a, f, none⟩ = some u ∧ OI w lo u xss[f] ∧ (∀ b, u.ownBlock = some b → lo ≤ b ∧ b < hi) ∧
      ∀ w' x', Chg (fun b => u.ownBlock = some b) w w' → OI w' lo u x' → OT w' lo hi v (xss.set f x') := by
  obtain ⟨vs, h1, h2, h3⟩ := h
  obtain ⟨u, hu, ho, hb⟩ := h3.get f hf
  have ho' : OI w lo u xss[f] := ho
  obtain ⟨a, cap, rfl, ha1, ha2, ha3⟩  := own_shape1 h1 (show 0 < xss.length by omega)
  refine ⟨a, cap, u, rfl, ha3, by rw [h1.cellAt f (by omega)]; exact hu, ho', fun b hb' => ⟨(ho'.lt b hb').1, hb b hb'⟩, fun w' x' hc ho2 => ?_⟩
  have hap := own_apart ho'.1 h1 (by decide)
  refine ⟨vs, ?_, h2, h3.one hu hc ho2⟩
  rw [List.length_set]
  exact own_chg h1 hc fun b _ hb1 hb2 => hap b hb2 hb1

/-- Every number its own, from k on. -/
def mrk : Int → List (List Int) → List (List Int)
  | _, [] => []
  | k, x :: xs => upN k x.length :: mrk (k + x.length) xs
def toff (xss : List (List Int)) (j : Nat) : Nat := ((xss.take j).map List.length).sum
theorem mrk_len (k : Int) (xss : List (List Int)) : (mrk k xss).length = xss.length := by
  induction xss generalizing k with
  | nil => rfl
  | cons x xs ih => simp [mrk, ih]
theorem toff_zero (xss : List (List Int)) : toff xss 0 = 0 := rfl
theorem toff_succ (xss : List (List Int)) (j : Nat) (hj : j < xss.length) : toff xss (j + 1) = toff xss j + xss[j].length := by
  unfold toff; rw [List.take_succ_eq_append_getElem hj, List.map_append, List.sum_append]; rfl
theorem mrk_at (k : Int) (xss : List (List Int)) (j : Nat) (hj : j < xss.length) : (mrk k xss)[j]'(by rw [mrk_len]; exact hj) = upN (k + toff xss j) xss[j].length := by
  induction xss generalizing k j with
  | nil => simp at hj
  | cons x xs ih =>
    cases j with
    | zero => simp [mrk, toff]
    | succ j =>
      have := ih (k + x.length) j (by simpa using hj)
      simp only [mrk, List.getElem_cons_succ, this]
      congr 1
      simp [toff]; omega
theorem toff_le (xss : List (List Int)) (j : Nat) : toff xss j ≤ tsz xss := by
  unfold toff tsz
  have : ∀ (l : List Nat) j, (l.take j).sum ≤ l.sum := by
    intro l
    induction l with
    | nil => intro j; simp
    | cons a l ih => intro j; cases j with
      | zero => simp
      | succ j => have := ih j; simp only [List.take_succ_cons, List.sum_cons]; omega
  have := this (xss.map List.length) j
  rw [List.map_take] at *
  omega
theorem toff_all (xss : List (List Int)) : toff xss xss.length = (xss.map List.length).sum := by simp [toff]
/-- The first i lists turned. -/
def mix (k : Int) (xss : List (List Int)) (i : Nat) : List (List Int) := (mrk k xss).take i ++ xss.drop i
theorem mix_len (k : Int) (xss : List (List Int)) (i : Nat) (hi : i ≤ xss.length) : (mix k xss i).length = xss.length := by
  have := mrk_len k xss
  simp only [mix, List.length_append, List.length_take, List.length_drop]; omega
theorem mix_at (k : Int) (xss : List (List Int)) (i : Nat) (hi : i < xss.length) : (mix k xss i)[i]? = some xss[i] := by
  have := mrk_len k xss
  unfold mix
  rw [List.getElem?_append_right (by simp; omega)]
  have e : i - ((mrk k xss).take i).length = 0 := by simp; omega
  rw [e, drop_cons xss i hi]; rfl
theorem mix_set (k : Int) (xss : List (List Int)) (i : Nat) (hi : i < xss.length) : (mix k xss i).set i (upN (k + toff xss i) xss[i].length) = mix k xss (i + 1) := by
  have hl := mrk_len k xss
  unfold mix
  rw [List.set_append_right _ _ (by simp; omega)]
  have e : i - ((mrk k xss).take i).length = 0 := by simp; omega
  rw [e, drop_cons xss i hi, List.set_cons_zero, List.take_succ_eq_append_getElem (by omega), mrk_at k xss i hi]
  simp
theorem mix_zero (k : Int) (xss : List (List Int)) : mix k xss 0 = xss := by simp [mix]
theorem mix_end (k : Int) (xss : List (List Int)) (i : Nat) (hi : ¬ i < xss.length) : mix k xss i = mrk k xss := by
  have := mrk_len k xss
  rw [mix, List.take_of_length_le (by omega), List.drop_of_length_le (by omega)]; simp
theorem upN_i64 (k : Int) (n : Nat) (h0 : 0 ≤ k) (h1 : k ≤ 4503599627370496) (hn : n ≤ 1048576) : I64s (upN k n) := by
  intro x hx
  obtain ⟨i, hi, rfl⟩ := List.mem_map.1 hx
  have := List.mem_range.1 hi
  unfold I64; omega

/-- Numbers laid in lo .. hi. -/
def MarkTPost (v : Value) (lo hi : Nat) (xss : List (List Int)) (k : Int) (w : World) (e : Ending) (w' : World) : Prop :=
  e = .returned (.int .i64 (k + toff xss xss.length)) ∧ OT w' lo hi v (mrk k xss) ∧ Chg (fun b => lo ≤ b ∧ b < hi) w w' ∧ w'.heap.size = w.heap.size

set_option maxHeartbeats 1000000 in
theorem markIntSS_any (v : Value) (xs : List (List Int)) (lo hi : Nat) (k : Int) (w : World) (h : OT w lo hi v xs) (hx : tsz xs ≤ 1048576) (hk0 : 0 ≤ k) (hk1 : k ≤ 4503599626321920) :
    Calls Try.prog 33 #[v, .int .i64 k] w (MarkTPost v lo hi xs k w) := by
  obtain ⟨a, cap, b, off, rfl, q1, q2, -, -⟩ := h.rt.open
  have H := Lib.hid h
  have HX := Lib.hid hx
  have HL := Lib.hid (fun j => toff_le xs j)
  obtain ⟨hx1, hx2⟩ := tsz_row hx
  have HX2 := Lib.hid hx2
  clear h hx hx2
  go_enter Try.func33, Try.ntmps33
  go_wp2_with fail
  go_loopw [1, 5] (fun q i wr => ∃ (j : Nat), j ≤ xs.length ∧ i = .int .i64 j ∧ q = .int .i64 (k + toff xs j) ∧ OT wr lo hi (.slice a xs.length cap) (mix k xs j) ∧ Chg (fun b => lo ≤ b ∧ b < hi) w wr ∧ wr.heap.size = w.heap.size)
    (fun _ i _ => xs.length - (intOf i).toNat)
  case atStart => exact ⟨0, Nat.zero_le _, rfl, by simp [toff_zero], by rw [mix_zero]; exact H.out, Chg.refl _ _, rfl⟩
  case round =>
    obtain ⟨j, hj, rfl, rfl, hown, hbr, hsz⟩ := hrel
    have HO := Lib.hid (And.intro hown (And.intro hbr hsz))
    clear hown hbr hsz
    have hof := HL.out j
    have hxx := HX.out
    by_cases hlt : j < xs.length
    · obtain ⟨a1, cap1, u, he1, -, hc, ho, hb, hput⟩ := HO.out.1.inner j (by rw [mix_len _ _ _ hj]; exact hlt)
      simp only [Value.slice.injEq] at he1
      obtain ⟨rfl, -, -⟩ := he1
      have hm := mix_at k xs j hlt
      have hm' : (mix k xs j)[j]'(by rw [mix_len _ _ _ hj]; exact hlt) = xs[j] := by
        rw [List.getElem?_eq_getElem (by rw [mix_len _ _ _ hj]; exact hlt)] at hm
        exact Option.some.inj hm
      rw [hm'] at ho
      have HP := Lib.hid (And.intro hput (And.intro ho hb))
      have hxj := HX2.out j hlt
      have hs := toff_succ xs j hlt
      have HS := Lib.hid hs
      clear hput ho hb hm hm' hs
      go_wp2_with fail
      refine (markIntS_any u _ lo xs[j].length (k + toff xs j) wr HP.out.2.1.1 hxj (by omega) (by omega)).mono ?_
      rintro e w2 ⟨rfl, o2, c2, s2⟩
      have hot := HP.out.1 w2 (upN (k + toff xs j) xs[j].length) c2 ⟨by rw [upN_len]; exact o2, upN_i64 _ _ (by omega) (by omega) hxj⟩
      rw [mix_set k xs j hlt] at hot
      have HF := Lib.hid (And.intro hot (And.intro (HO.out.2.1.trans (c2.mono fun b _ he => HP.out.2.2 b he)) (s2.trans HO.out.2.2)))
      clear hot c2 s2 o2
      go_wp2_with fail
      go_roundw
      case rel => exact ⟨j + 1, by omega, by go_num, by rw [HS.out]; go_num, HF.out.1, HF.out.2.1, HF.out.2.2⟩
      case measure => simp [intOf]; omega
    · obtain rfl : j = xs.length := by omega
      have HF := HO.out
      rw [mix_end k xs _ hlt] at HF
      have HF' := Lib.hid HF
      clear HF
      go_wp2_with fail
      go_ret
      exact ⟨rfl, HF'.out⟩

set_option maxHeartbeats 1000000 in
theorem heldIntSS_any (v : Value) (xs : List (List Int)) (lo hi : Nat) (k : Int) (w : World) (h : RT w lo hi v (mrk k xs)) (hx : tsz xs ≤ 1048576) (hk0 : 0 ≤ k) (hk1 : k ≤ 4503599626321920) :
    Calls Try.prog 34 #[v, .int .i64 k] w fun e w' => e = .returned (.int .i64 (k + toff xs xs.length)) ∧ w = w' := by
  obtain ⟨a, cap, b, off, rfl, q1, q2, q3, q4⟩ := h.open
  rw [mrk_len] at q1 q3 
  have Q4 := Lib.hid q4
  have HX := Lib.hid hx
  have HL := Lib.hid (fun j => toff_le xs j)
  obtain ⟨hx1, hx2⟩ := tsz_row hx
  have HX2 := Lib.hid hx2
  clear h hx hx2 q4
  rw [mrk_len]
  go_enter Try.func34, Try.ntmps34
  go_wp2_with fail
  go_loop [1, 5] (fun q i => ∃ (j : Nat), j ≤ xs.length ∧ i = .int .i64 j ∧ q = .int .i64 (k + toff xs j)) (fun _ i => xs.length - (intOf i).toNat)
  case atStart => exact ⟨0, Nat.zero_le _, rfl, by simp [toff_zero]⟩
  case round =>
    obtain ⟨j, hj, rfl, rfl⟩ := hrel
    have hof := HL.out j
    have hxx := HX.out
    by_cases hlt : j < xs.length
    · obtain rfl := q3 (by omega)
      obtain ⟨u, hcu, hu⟩ := Q4.out j (by rw [mrk_len]; exact hlt)
      rw [mrk_at k xs j hlt] at hu
      have h1 := hu.1
      rw [upN_len] at h1
      have HU := Lib.hid h1
      have hxj := HX2.out j hlt
      have HS := Lib.hid (toff_succ xs j hlt)
      clear q3 hu h1
      go_wp2_with fail
      refine (heldIntS_any u lo hi xs[j].length (k + toff xs j) w HU.out hxj (by omega) (by omega)).mono ?_
      rintro e w2 ⟨rfl, rfl⟩
      go_wp2_with fail
      go_round
      case rel => exact ⟨j + 1, by omega, by go_num, by rw [HS.out]; go_num⟩
      case measure => simp [intOf]; omega
    · obtain rfl : j = xs.length := by omega
      go_wp2_with fail
      go_ret
      exact ⟨rfl, rfl⟩

/-- As markIntSS; for a table. -/
def MarkTab (v : Value) (lo hi : Nat) (xss : List (List Int)) (k : Int) (w : World) (e : Ending) (w' : World) : Prop :=
  e = .returned (.int .i64 (k + toff xss xss.length)) ∧ OT w' lo hi v (mrk k xss) ∧ Chg (fun b => lo ≤ b ∧ b < hi) w w'

theorem markTable_any (v : Value) (xs : List (List Int)) (lo hi : Nat) (k : Int) (w : World) (h : OT w lo hi v xs) (hx : tsz xs ≤ 1048576) (hk0 : 0 ≤ k) (hk1 : k ≤ 4503599626321920) :
    Calls Try.prog 12 #[.agg #[v], .int .i64 k] w (MarkTab v lo hi xs k w) := by
  have H := Lib.hid h
  obtain ⟨a, cap, b, off, rfl, -⟩ := h.rt.open
  have hb0 := (Below.refl w.heap.size w).alloc (Nat.le_refl _) (.cells #[.slice a xs.length cap] 26)
  have HB := Lib.hid hb0
  clear h hb0
  go_enter Try.func12, Try.ntmps12
  go_wp2_with fail
  refine (markIntSS_any _ xs lo hi k _ (H.out.below HB.out) hx hk0 hk1).mono ?_
  rintro e w2 ⟨rfl, o2, c2, -⟩
  have HF := Lib.hid (And.intro o2 (((Chg.refl _ w).alloc _).trans c2))
  clear o2 c2
  go_wp2_with fail
  go_ret
  exact ⟨rfl, HF.out⟩

theorem heldTable_any (v : Value) (xs : List (List Int)) (lo hi : Nat) (k : Int) (w : World) (h : RT w lo hi v (mrk k xs)) (hx : tsz xs ≤ 1048576) (hk0 : 0 ≤ k) (hk1 : k ≤ 4503599626321920) :
    Calls Try.prog 13 #[.agg #[v], .int .i64 k] w fun e w' => e = .returned (.int .i64 (k + toff xs xs.length)) ∧ Below w.heap.size w w' := by
  have H := Lib.hid h
  obtain ⟨a, cap, b, off, rfl, -⟩ := h.open
  have hb0 := (Below.refl w.heap.size w).alloc (Nat.le_refl _) (.cells #[.slice a (mrk k xs).length cap] 26)
  have HB := Lib.hid hb0
  clear h hb0
  go_enter Try.func13, Try.ntmps13
  go_wp2_with fail
  refine (heldIntSS_any _ xs lo hi k _ (H.out.below HB.out) hx hk0 hk1).mono ?_
  rintro e w2 ⟨rfl, rfl⟩
  go_wp2_with fail
  all_goals (go_ret; exact ⟨rfl, HB.out⟩)

end Go.Proofs.Ytpfekeflkmafcaa
