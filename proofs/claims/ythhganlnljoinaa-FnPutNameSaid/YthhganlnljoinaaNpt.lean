/-
  PutName of the program.
-/
import Derived.Test.YthhganlnljoinaaNmf
import Derived.OwnWalk
import Derived.Lib.SliceRun
namespace Go.Proofs.Ythhganlnljoinaa
open Go.RowKit

theorem add_plain (b off k : Nat) : (⟨b, off, none⟩ : Addr).add k = ⟨b, off + k, none⟩ := by
  unfold Addr.add; split <;> rename_i h0
  · subst h0; rfl
  · rfl
theorem nc_take (xs : List (ByteArray × Int)) (m : Nat) : nc (xs.take m) = (nc xs).take (m * 2) := by
  have h : nc xs = nc (xs.take m) ++ nc (xs.drop m) := by rw [← nc_append, List.take_append_drop]
  by_cases hm : m ≤ xs.length
  · rw [h, List.take_left' (by rw [nc_len]; simp; omega)]
  · rw [List.take_of_length_le (by omega), List.take_of_length_le (by rw [nc_len]; omega)]
theorem nc_drop (xs : List (ByteArray × Int)) (m : Nat) : nc (xs.drop m) = (nc xs).drop (m * 2) := by
  have h : nc xs = nc (xs.take m) ++ nc (xs.drop m) := by rw [← nc_append, List.take_append_drop]
  by_cases hm : m ≤ xs.length
  · conv => rhs; rw [h]
    rw [List.drop_left' (by rw [nc_len]; simp; omega)]
  · rw [List.drop_of_length_le (by omega), List.drop_of_length_le (by rw [nc_len]; omega)]; rfl
/-- The cells of the first names; of the last. -/
theorem rn_take {w : World} {lo hi b off cap : Nat} {xs : List (ByteArray × Int)} (h : RN w lo hi (.slice (some ⟨b, off, none⟩) xs.length cap) xs) (m : Nat) :
    ∀ j u, (nc (xs.take m))[j]? = some u → w.cell? ((⟨b, off, none⟩ : Addr).add j) = some u := by
  obtain ⟨⟨hl, a, cap', b', off', he, h1, h2, h3, h4⟩, -⟩ := h
  intro j u hj
  have hjl : j < (nc (xs.take m)).length := (List.getElem?_eq_some_iff.1 hj).1
  rw [nc_len] at hjl
  simp only [List.length_take] at hjl
  simp only [Value.slice.injEq] at he
  have := h3 (by omega)
  rw [← he.1] at this
  simp only [Option.some.injEq, Addr.mk.injEq, and_true] at this
  obtain ⟨⟨rfl, rfl⟩, -, -⟩ := this
  rw [add_plain, h4 j (by omega)]
  rw [nc_take, List.getElem?_take] at hj
  split at hj
  · exact hj
  · cases hj
theorem rn_drop {w : World} {lo hi b off cap : Nat} {xs : List (ByteArray × Int)} (h : RN w lo hi (.slice (some ⟨b, off, none⟩) xs.length cap) xs) (m : Nat) :
    ∀ j u, (nc (xs.drop m))[j]? = some u → w.cell? ((⟨b, off + m * 2, none⟩ : Addr).add j) = some u := by
  obtain ⟨⟨hl, a, cap', b', off', he, h1, h2, h3, h4⟩, -⟩ := h
  intro j u hj
  have hjl : j < (nc (xs.drop m)).length := (List.getElem?_eq_some_iff.1 hj).1
  rw [nc_len] at hjl
  simp only [List.length_drop] at hjl
  simp only [Value.slice.injEq] at he
  have := h3 (by omega)
  rw [← he.1] at this
  simp only [Option.some.injEq, Addr.mk.injEq, and_true] at this
  obtain ⟨⟨rfl, rfl⟩, -, -⟩ := this
  rw [add_plain, Nat.add_assoc, h4 (m * 2 + j) (by omega)]
  rw [nc_drop, List.getElem?_drop] at hj
  exact hj

/-- 'append(out, list...)'. -/
theorem ap_names {w : World} {ops : Array Oper} {rest : List Oper} {o : Oper} {a : Act} {Q : Exit → Act → World → Prop} (hgd : o.guard = none) (s x : Operand)
    (ho : o.op = .call { callee := .builtin .append, args := #[s, x], argTypes := #[25, 25] }) (lo : Nat) (v : Value) (xs : List (ByteArray × Int)) (hs : a.eval s = v) (hown : ON w lo v xs)
    (ad : Addr) (m c : Nat) (ys : List (ByteArray × Int)) (hx : a.eval x = .slice (some ad) m c) (hm : ys.length = m) (hr : ∀ j u, (nc ys)[j]? = some u → w.cell? (ad.add j) = some u) (hy : N64s ys)
    (hn : xs.length + m ≤ 1000000000) (hbase : lo ≤ w.heap.size)
    (h : ∀ v' w', ON w' lo v' (xs ++ ys) ∧ (v ≠ .slice none 0 0 → v' ≠ .slice none 0 0) → Chg (fun k => lo ≤ k) w w' → wpList Try.prog ops Q rest (a.put o.dst v') w') :
    wpList Try.prog ops Q (o :: rest) a w := by
  subst hm
  obtain ⟨i0, hi0, hz0, hz1, hz2⟩ := info_parts Try.infoN
  refine wpList_append_own w hgd s x 25 ho lo 33 i0 (.agg #[.string ByteArray.empty, .int .i64 0]) 2 24 Try.underlying25 hi0 hz0 hz1 hz2 rfl (by decide) v xs.length (nc xs) hs hown.1 ad ys.length c
    (nc ys) hx (nc_len ys) hr (nc_one ys) (by simp [maxLen]; omega) (by omega) hbase fun v' w' h1 h2 h3 => ?_
  refine h v' w' ⟨⟨?_, ?_⟩, fun hv hv' => hv ((h3.1 hv').1)⟩ ?_
  · rw [nc_append, List.length_append]; exact h1
  · intro e he
    rcases List.mem_append.1 he with he | he
    · exact hown.2 e he
    · exact hy e he
  · exact (Chg.refl _ w).grown h2 (fun k hk => .inr (hown.1.lt k hk).1)

set_option maxHeartbeats 400000 in
theorem clone_any (b off cap : Nat) (xs : List (ByteArray × Int)) (lo hi : Nat) (w : World) (h : RN w lo hi (.slice (some ⟨b, off, none⟩) xs.length cap) xs) (hx : xs.length ≤ 1048576) :
    Calls Try.prog 43 #[.slice (some ⟨b, off, none⟩) xs.length cap] w (NewN xs w) := by
  have hc := rn_take h xs.length
  rw [List.take_length] at hc
  have HC := Lib.hid (fun (o : Obj) j u hj => cell_later (w := w) ((Below.refl _ _).alloc (Nat.le_refl _) o) (hc j u hj))
  have HW := Lib.hid h.2
  clear h hc
  have hnil : ∀ W : World, (binOp .eql 25 (.slice (some ⟨b, off, none⟩) xs.length cap) (.slice none 0 0)).run Try.prog W = .ok (.bool false) W := fun W => Lib.run_eql_slice_nil W 25 33 _ _ _ _ _ Try.underlying25
  go_enter Try.func43, Try.ntmps43
  go_wp2_with (at_builtin; refine ap_names rfl _ _ rfl w.heap.size (.slice (some ⟨w.heap.size, 0, none⟩) 0 0) [] rfl ⟨World.ownsRow_lit w #[] 0 (Nat.le_refl _) (by decide) rfl, fun _ h => by simp at h⟩ ⟨b, off, none⟩ xs.length cap xs rfl rfl (HC.out _) HW.out (by simp; omega) (by simp) ?_; intro v' w2 o2 d2)
  have HF := Lib.hid (And.intro o2.1 (below_own ((Below.refl _ _).alloc (Nat.le_refl _) _) (by simp) d2))
  clear o2 d2
  go_ret
  exact ⟨_, rfl, HF.out⟩

theorem box_at {w : World} {B : Nat} {u0 u1 : Value} {t : TypeId} (h : w.heap[B]? = some (.cells #[u0, u1] t (0, 0))) : w.cell? ⟨B, 0, none⟩ = some u0 ∧ w.cell? ⟨B, 1, none⟩ = some u1 := by
  simp [World.cell?, h]

theorem nmPl_at {xs : List (ByteArray × Int)} {n : ByteArray} {k : Nat} (hk : k < xs.length) (h : bef n xs[k].1 = true) (hj : ∀ j (hj : j < xs.length), j < k → bef n xs[j].1 = false) : nmPl xs n = k := by
  rw [nmPl, List.findIdx_eq hk]
  exact ⟨h, fun j hjk => by simpa using hj j (by omega) hjk⟩
theorem nmPl_end {xs : List (ByteArray × Int)} {n : ByteArray} (hj : ∀ j (hj : j < xs.length), bef n xs[j].1 = false) : nmPl xs n = xs.length := by
  rw [nmPl, List.findIdx_eq_length]
  intro x hx
  obtain ⟨j, hj', rfl⟩ := List.getElem_of_mem hx
  simpa using hj j hj'
def PutPost (xs : List (ByteArray × Int)) (n : ByteArray × Int) (w : World) (e : Ending) (w' : World) : Prop := ∃ v, e = .returned (.tuple #[v, .bool (nmPut xs n).2]) ∧ ON w' w.heap.size v (nmPut xs n).1 ∧ Below w.heap.size w w'

set_option maxHeartbeats 4000000 in
theorem implPut_any (b off cap : Nat) (xs : List (ByteArray × Int)) (n : ByteArray × Int) (hn : N64 n) (lo hi : Nat) (w : World) (h : RN w lo hi (.slice (some ⟨b, off, none⟩) xs.length cap) xs) (hx : xs.length ≤ 1048576) :
    Calls Try.prog 30 #[.slice (some ⟨b, off, none⟩) xs.length cap, .agg #[.string n.1, .int .i64 n.2]] w (PutPost xs n w) := by
  obtain ⟨s, f⟩ := n
  obtain ⟨a', cap', b', off', he', q1, q2, q3, q4⟩ := h.open
  simp only [Value.slice.injEq] at he'
  obtain ⟨rfl, -, rfl⟩ := he'
  have H := Lib.hid h
  have HW := Lib.hid h.2
  have HN := Lib.hid hn
  have hs9 : s.size ≤ 9223372036854775807 := hn.1
  have Q4 := Lib.hid (show ∀ k (hk : k < xs.length), w.cell? ⟨b, off + k * 2, none⟩ = some (.string xs[k].1) ∧ w.cell? ⟨b, off + k * 2 + 1, none⟩ = some (.int .i64 xs[k].2) from fun k hk => by
    have := q3 (by omega)
    simp only [Option.some.injEq, Addr.mk.injEq, and_true] at this
    obtain ⟨rfl, rfl⟩ := this
    exact q4 k hk)
  obtain ⟨i0, hi0, hz0, hz1, hz2⟩ := info_parts Try.infoN
  have HI := Lib.hid (And.intro hi0 (And.intro hz0 (And.intro hz1 hz2)))
  clear h q3 q4 hn hi0 hz0 hz1 hz2
  unfold PutPost
  simp only
  by_cases hv : nmVal xs = true
  · have hd : nmPut xs (s, f) = (if nmVal (nmIns xs (nmPl xs s) (s, f)) = true then (nmIns xs (nmPl xs s) (s, f), true) else (xs, false)) := by
      rw [nmPut, if_pos hv, ← nmPut_eq]
    rw [hd]
    clear hd
    generalize hR : (if nmVal (nmIns xs (nmPl xs s) (s, f)) = true then (nmIns xs (nmPl xs s) (s, f), true) else (xs, false)) = R
    have HR := Lib.hid hR
    clear hR
    have hb0 : Below w.heap.size w (w.alloc (.cells #[.string s, .int .i64 f] 33)) := (Below.refl _ _).alloc (Nat.le_refl _) _
    have HB0 := Lib.hid hb0
    clear hb0
    go_enter Try.func30, Try.ntmps30
    go_wp2_with fail
    refine (implNmv_any _ xs _ _ _ (H.out.below HB0.out)).mono ?_
    rintro e w1 ⟨rfl, b1⟩
    have HS : Hid (Below w.heap.size w w1 ∧ w1.heap[w.heap.size]? = some (.cells #[.string s, .int .i64 f] 33 (0, 0)) ∧ w.heap.size < w1.heap.size) := Lib.hid ⟨bup HB0.out (by simp) b1, by rw [b1.block w.heap.size (by simp)]; exact heap_alloc_new _ _, by have := b1.size; simp at this; omega⟩
    clear b1 HB0
    go_wp2_with fail
    go_loopw [6, 7, 8, 17] (fun pl _ _ i wr => ∃ k : Nat, k ≤ xs.length ∧ i = .int .i64 k ∧ pl = .int .i64 xs.length ∧ Hid (Below w.heap.size w wr ∧ wr.heap[w.heap.size]? = some (.cells #[.string s, .int .i64 f] 33 (0, 0)) ∧ w.heap.size < wr.heap.size) ∧ Hid (∀ j (hj : j < xs.length), j < k → bef s xs[j].1 = false)) (fun _ _ _ i _ => xs.length - (intOf i).toNat)
    case atStart => exact ⟨0, Nat.zero_le _, rfl, rfl, HS, Lib.hid (fun j _ h => absurd h (Nat.not_lt_zero _))⟩
    case round =>
      obtain ⟨k, hk, rfl, rfl, HK, HJ⟩ := hrel
      clear HS
      by_cases hlt : k < xs.length
      · have c1 := cell_later HK.out.1 (Q4.out k hlt).1
        have c2 := cell_later HK.out.1 (Q4.out k hlt).2
        have hx9 := (HW.out _ (List.getElem_mem hlt)).1
        have HA := Lib.hid (fun hq => nmPl_at (n := s) hlt hq HJ.out)
        have HJ2 : Hid (bef s xs[k].1 = false → ∀ j (hj : j < xs.length), j < k + 1 → bef s xs[j].1 = false) := Lib.hid fun hq j hj h => by
          by_cases e : j = k
          · subst e; exact hq
          · exact HJ.out j hj (by omega)
        have hbx : wr.cell? ⟨w.heap.size, 0, none⟩ = some (.string s) := by simp [World.cell?, HK.out.2.1]
        obtain ⟨⟨x, y⟩, hxy⟩ : ∃ e, e = xs[k] := ⟨_, rfl⟩
        rw [← hxy] at c1 c2 hx9 HA HJ2
        clear hxy
        simp only at c1 c2 hx9 HA HJ2
        have hbx' := cell_later (w := wr) ((Below.refl _ _).alloc (Nat.le_refl _) (.cells #[.string x, .int .i64 y] 33)) hbx
        have HK2 : Hid (Below w.heap.size w (wr.alloc (.cells #[.string x, .int .i64 y] 33)) ∧ (wr.alloc (.cells #[.string x, .int .i64 y] 33)).heap[w.heap.size]? = some (.cells #[.string s, .int .i64 f] 33 (0, 0)) ∧ w.heap.size < (wr.alloc (.cells #[.string x, .int .i64 y] 33)).heap.size) :=
          Lib.hid ⟨HK.out.1.alloc (by have := HK.out.2.2; omega) _, by rw [Below.heap_alloc _ _ _ HK.out.2.2]; exact HK.out.2.1, by have := HK.out.2.2; simp; omega⟩
        cases hq : bef s x
        · have HJ3 := Lib.hid (HJ2.out hq)
          go_wp2_with fail
          refine (nameBefore_any s x hs9 hx9 _).mono ?_
          rintro e w2 ⟨rfl, rfl⟩
          go_wp2_with fail
          go_roundw
          case rel => exact ⟨k + 1, by omega, by go_num, rfl, HK2, HJ3⟩
          case measure => simp [intOf]; omega
        · have HPL := Lib.hid (HA.out hq)
          clear HA HJ2
          go_wp2_with fail
          refine (nameBefore_any s x hs9 hx9 _).mono ?_
          rintro e w2 ⟨rfl, rfl⟩
          obtain ⟨wt, hwt⟩ : ∃ wt : World, wt = wr.alloc (.cells #[.string x, .int .i64 y] 33) := ⟨_, rfl⟩
          rw [← hwt] at HK2
          rw [← hwt]
          clear hwt c1 c2 hbx hbx' HK HJ
          have hplc : k ≤ cap := by omega
          have hp0i : (0 : Int) ≤ ((k : Nat) : Int) := by omega
          have hpci : ((k : Nat) : Int) ≤ (cap : Int) := by omega
          have hpli : ((k : Nat) : Int) ≤ ((xs.length : Nat) : Int) := by omega
          have hzL := (HK2.out.1).size
          have hzB : w.heap.size < wt.heap.size := HK2.out.2.2
          have hcp' : ¬ k = cap := by omega
          go_wp2_with (first
            | (at_make; refine wpList_make_own _ rfl _ _ 25 rfl wt.heap.size 33 i0 (.agg #[.string ByteArray.empty, .int .i64 0]) 2 Try.underlying25 HI.out.1 HI.out.2.1 HI.out.2.2.1 .i64 .i64 _ (xs.length + 1) rfl rfl (by omega) (by rw [HI.out.2.2.2]; omega) (by unfold maxLen; omega) (Nat.le_refl _) ?_; intro w5 hown5 hgrow5; have b5 : Below wt.heap.size wt w5 := (Below.refl _ _).grown hgrow5 (Nat.le_refl _) (by simp); have O5 : Hid (ON w5 wt.heap.size (.slice (some ⟨wt.heap.size, 0, none⟩) 0 (xs.length + 1)) [] ∧ Below wt.heap.size wt w5) := Lib.hid ⟨⟨hown5, fun _ h => by simp at h⟩, b5⟩; have hz5 := b5.size; have HB5 := Lib.hid (bup (HK2.out.1) (by omega) b5); have HT5 := Lib.hid (rn_take (H.out.below HB5.out) k); clear hown5 hgrow5 b5)
            | (at_builtin; refine ap_names rfl (.tmp 33) (.tmp 36) rfl wt.heap.size (.slice (some ⟨wt.heap.size, 0, none⟩) 0 (xs.length + 1)) [] rfl O5.out.1 ⟨b, off, none⟩ k cap (xs.take k) rfl (by rw [List.length_take]; omega) HT5.out (fun e he => HW.out e (List.mem_of_mem_take he)) (by simp; omega) hz5 ?_; intro v6 w6 o6 d6; have O6 : Hid (ON w6 wt.heap.size v6 (xs.take k) ∧ Below wt.heap.size wt w6) := Lib.hid ⟨by have := o6.1; rwa [List.nil_append] at this, below_own O5.out.2 hz5 d6⟩; have hz6 := O6.out.2.size; obtain ⟨hbx60, hbx61⟩ := box_at ((O6.out.2.block w.heap.size HK2.out.2.2).trans HK2.out.2.1); clear o6 d6)
            | (at_builtin; refine ap1_name rfl (.tmp 38) (.tmp 40) rfl wt.heap.size v6 (xs.take k) (s, f) rfl O6.out.1 w6.heap.size rfl rfl (by rw [List.length_take]; omega) hz6 HN.out ?_; intro v7 w7 o7 d7; have O7 : Hid (ON w7 wt.heap.size v7 (xs.take k ++ [(s, f)]) ∧ Below wt.heap.size wt w7) := Lib.hid ⟨o7.1, below_own O6.out.2 hz6 d7⟩; have hz7 := O7.out.2.size; have HB7 := Lib.hid (bup (HK2.out.1) (by omega) O7.out.2); have HD7 := Lib.hid (rn_drop (H.out.below HB7.out) k); clear o7 d7 hbx60 hbx61)
            | (at_builtin; refine ap_names rfl (.tmp 42) (.tmp 45) rfl wt.heap.size v7 (xs.take k ++ [(s, f)]) rfl O7.out.1 ⟨b, off + k * 2, none⟩ (xs.length - k) (cap - k) (xs.drop k) rfl List.length_drop HD7.out (fun e he => HW.out e (List.mem_of_mem_drop he)) (by rw [List.length_append, List.length_take]; simp; omega) hz7 ?_; intro v8 w8 o8 d8; have O8 : Hid (ON w8 wt.heap.size v8 (nmIns xs k (s, f)) ∧ Below w.heap.size w w8) := Lib.hid ⟨o8.1, bup (HK2.out.1) (by omega) (below_own O7.out.2 hz7 d8)⟩; clear o8 d8))
          refine (implNmv_any v8 (nmIns xs k (s, f)) _ _ _ O8.out.1.rn).mono ?_
          rintro e w9 ⟨rfl, b9⟩
          have O9 := Lib.hid (And.intro (O8.out.1.below b9) (bup O8.out.2 (Nat.le_refl _) b9))
          clear b9
          by_cases hval : nmVal (nmIns xs k (s, f)) = true
          · have HR1 := Lib.hid (show R = (nmIns xs k (s, f), true) by rw [← HR.out, HPL.out, if_pos hval])
            go_wp2_with fail
            go_ret2
            exact ⟨_, by rw [HR1.out]; rfl, by rw [HR1.out]; exact O9.out.1.wide (by omega), O9.out.2⟩
          · have HR1 := Lib.hid (show R = (xs, false) by rw [← HR.out, HPL.out, if_neg hval])
            have hval' : nmVal (nmIns xs k (s, f)) = false := by simpa using hval
            clear hval
            go_wp2_with fail
            refine (clone_any b off cap xs _ _ _ (H.out.below O9.out.2) hx).mono ?_
            rintro e w10 ⟨v10, rfl, o10, b10⟩
            have O10 := Lib.hid (And.intro (o10.wide (show w.heap.size ≤ w9.heap.size by have := O9.out.2.size; omega)) (bup O9.out.2 (Nat.le_refl _) b10))
            clear o10 b10
            go_wp2_with fail
            go_ret2
            exact ⟨_, by rw [HR1.out]; rfl, by rw [HR1.out]; exact O10.out.1, O10.out.2⟩
      · obtain rfl : k = xs.length := by omega
        have HPL := Lib.hid (nmPl_end (xs := xs) (n := s) (fun j hj => HJ.out j hj hj))
        clear HJ
        have hplc : xs.length ≤ cap := by omega
        have hp0i : (0 : Int) ≤ ((xs.length : Nat) : Int) := by omega
        have hpci : ((xs.length : Nat) : Int) ≤ (cap : Int) := by omega
        have hpli : ((xs.length : Nat) : Int) ≤ ((xs.length : Nat) : Int) := by omega
        have hzL := (HK.out.1).size
        have hzB : w.heap.size < wr.heap.size := HK.out.2.2
        by_cases hcp : cap = xs.length
        · obtain rfl : cap = xs.length := hcp
          have HE := Lib.hid (show xs.drop xs.length = [] from List.drop_of_length_le (by omega))
          go_wp2_with (first
            | (at_make; refine wpList_make_own _ rfl _ _ 25 rfl wr.heap.size 33 i0 (.agg #[.string ByteArray.empty, .int .i64 0]) 2 Try.underlying25 HI.out.1 HI.out.2.1 HI.out.2.2.1 .i64 .i64 _ (xs.length + 1) rfl rfl (by omega) (by rw [HI.out.2.2.2]; omega) (by unfold maxLen; omega) (Nat.le_refl _) ?_; intro w5 hown5 hgrow5; have b5 : Below wr.heap.size wr w5 := (Below.refl _ _).grown hgrow5 (Nat.le_refl _) (by simp); have O5 : Hid (ON w5 wr.heap.size (.slice (some ⟨wr.heap.size, 0, none⟩) 0 (xs.length + 1)) [] ∧ Below wr.heap.size wr w5) := Lib.hid ⟨⟨hown5, fun _ h => by simp at h⟩, b5⟩; have hz5 := b5.size; have HB5 := Lib.hid (bup (HK.out.1) (by omega) b5); have HT5 := Lib.hid (rn_take (H.out.below HB5.out) xs.length); clear hown5 hgrow5 b5)
            | (at_builtin; refine ap_names rfl (.tmp 33) (.tmp 36) rfl wr.heap.size (.slice (some ⟨wr.heap.size, 0, none⟩) 0 (xs.length + 1)) [] rfl O5.out.1 ⟨b, off, none⟩ xs.length xs.length (xs.take xs.length) rfl (by rw [List.length_take]; omega) HT5.out (fun e he => HW.out e (List.mem_of_mem_take he)) (by simp; omega) hz5 ?_; intro v6 w6 o6 d6; have O6 : Hid (ON w6 wr.heap.size v6 (xs.take xs.length) ∧ Below wr.heap.size wr w6) := Lib.hid ⟨by have := o6.1; rwa [List.nil_append] at this, below_own O5.out.2 hz5 d6⟩; have hz6 := O6.out.2.size; obtain ⟨hbx60, hbx61⟩ := box_at ((O6.out.2.block w.heap.size HK.out.2.2).trans HK.out.2.1); clear o6 d6)
            | (at_builtin; refine ap1_name rfl (.tmp 38) (.tmp 40) rfl wr.heap.size v6 (xs.take xs.length) (s, f) rfl O6.out.1 w6.heap.size rfl rfl (by rw [List.length_take]; omega) hz6 HN.out ?_; intro v7 w7 o7 d7; have O7 : Hid (ON w7 wr.heap.size v7 (xs.take xs.length ++ [(s, f)]) ∧ Below wr.heap.size wr w7) := Lib.hid ⟨o7.1, below_own O6.out.2 hz6 d7⟩; have hz7 := O7.out.2.size; have HB7 := Lib.hid (bup (HK.out.1) (by omega) O7.out.2); have HD7 := Lib.hid (rn_drop (H.out.below HB7.out) xs.length); clear o7 d7 hbx60 hbx61)
            | (at_builtin; refine ap_names rfl (.tmp 42) (.tmp 45) rfl wr.heap.size v7 (xs.take xs.length ++ [(s, f)]) rfl O7.out.1 ⟨b, off, none⟩ 0 0 [] rfl rfl (by intro j u hj; simp [nc] at hj) (fun e he => by simp at he) (by rw [List.length_append, List.length_take]; simp; omega) hz7 ?_; intro v8 w8 o8 d8; have O8 : Hid (ON w8 wr.heap.size v8 (nmIns xs xs.length (s, f)) ∧ Below w.heap.size w w8) := Lib.hid ⟨by have := o8.1; unfold nmIns; rw [HE.out]; exact this, bup (HK.out.1) (by omega) (below_own O7.out.2 hz7 d8)⟩; clear o8 d8))
          refine (implNmv_any v8 (nmIns xs xs.length (s, f)) _ _ _ O8.out.1.rn).mono ?_
          rintro e w9 ⟨rfl, b9⟩
          have O9 := Lib.hid (And.intro (O8.out.1.below b9) (bup O8.out.2 (Nat.le_refl _) b9))
          clear b9
          by_cases hval : nmVal (nmIns xs xs.length (s, f)) = true
          · have HR1 := Lib.hid (show R = (nmIns xs xs.length (s, f), true) by rw [← HR.out, HPL.out, if_pos hval])
            go_wp2_with fail
            go_ret2
            exact ⟨_, by rw [HR1.out]; rfl, by rw [HR1.out]; exact O9.out.1.wide (by omega), O9.out.2⟩
          · have HR1 := Lib.hid (show R = (xs, false) by rw [← HR.out, HPL.out, if_neg hval])
            have hval' : nmVal (nmIns xs xs.length (s, f)) = false := by simpa using hval
            clear hval
            go_wp2_with fail
            refine (clone_any b off xs.length xs _ _ _ (H.out.below O9.out.2) hx).mono ?_
            rintro e w10 ⟨v10, rfl, o10, b10⟩
            have O10 := Lib.hid (And.intro (o10.wide (show w.heap.size ≤ w9.heap.size by have := O9.out.2.size; omega)) (bup O9.out.2 (Nat.le_refl _) b10))
            clear o10 b10
            go_wp2_with fail
            go_ret2
            exact ⟨_, by rw [HR1.out]; rfl, by rw [HR1.out]; exact O10.out.1, O10.out.2⟩
        · have hcp' : ¬ xs.length = cap := fun h => hcp h.symm
          have HE := Lib.hid (show xs.drop xs.length = [] from List.drop_of_length_le (by omega))
          go_wp2_with (first
            | (at_make; refine wpList_make_own _ rfl _ _ 25 rfl wr.heap.size 33 i0 (.agg #[.string ByteArray.empty, .int .i64 0]) 2 Try.underlying25 HI.out.1 HI.out.2.1 HI.out.2.2.1 .i64 .i64 _ (xs.length + 1) rfl rfl (by omega) (by rw [HI.out.2.2.2]; omega) (by unfold maxLen; omega) (Nat.le_refl _) ?_; intro w5 hown5 hgrow5; have b5 : Below wr.heap.size wr w5 := (Below.refl _ _).grown hgrow5 (Nat.le_refl _) (by simp); have O5 : Hid (ON w5 wr.heap.size (.slice (some ⟨wr.heap.size, 0, none⟩) 0 (xs.length + 1)) [] ∧ Below wr.heap.size wr w5) := Lib.hid ⟨⟨hown5, fun _ h => by simp at h⟩, b5⟩; have hz5 := b5.size; have HB5 := Lib.hid (bup (HK.out.1) (by omega) b5); have HT5 := Lib.hid (rn_take (H.out.below HB5.out) xs.length); clear hown5 hgrow5 b5)
            | (at_builtin; refine ap_names rfl (.tmp 33) (.tmp 36) rfl wr.heap.size (.slice (some ⟨wr.heap.size, 0, none⟩) 0 (xs.length + 1)) [] rfl O5.out.1 ⟨b, off, none⟩ xs.length cap (xs.take xs.length) rfl (by rw [List.length_take]; omega) HT5.out (fun e he => HW.out e (List.mem_of_mem_take he)) (by simp; omega) hz5 ?_; intro v6 w6 o6 d6; have O6 : Hid (ON w6 wr.heap.size v6 (xs.take xs.length) ∧ Below wr.heap.size wr w6) := Lib.hid ⟨by have := o6.1; rwa [List.nil_append] at this, below_own O5.out.2 hz5 d6⟩; have hz6 := O6.out.2.size; obtain ⟨hbx60, hbx61⟩ := box_at ((O6.out.2.block w.heap.size HK.out.2.2).trans HK.out.2.1); clear o6 d6)
            | (at_builtin; refine ap1_name rfl (.tmp 38) (.tmp 40) rfl wr.heap.size v6 (xs.take xs.length) (s, f) rfl O6.out.1 w6.heap.size rfl rfl (by rw [List.length_take]; omega) hz6 HN.out ?_; intro v7 w7 o7 d7; have O7 : Hid (ON w7 wr.heap.size v7 (xs.take xs.length ++ [(s, f)]) ∧ Below wr.heap.size wr w7) := Lib.hid ⟨o7.1, below_own O6.out.2 hz6 d7⟩; have hz7 := O7.out.2.size; have HB7 := Lib.hid (bup (HK.out.1) (by omega) O7.out.2); have HD7 := Lib.hid (rn_drop (H.out.below HB7.out) xs.length); clear o7 d7 hbx60 hbx61)
            | (at_builtin; refine ap_names rfl (.tmp 42) (.tmp 45) rfl wr.heap.size v7 (xs.take xs.length ++ [(s, f)]) rfl O7.out.1 ⟨b, off + xs.length * 2, none⟩ 0 (cap - xs.length) [] rfl rfl (by intro j u hj; simp [nc] at hj) (fun e he => by simp at he) (by rw [List.length_append, List.length_take]; simp; omega) hz7 ?_; intro v8 w8 o8 d8; have O8 : Hid (ON w8 wr.heap.size v8 (nmIns xs xs.length (s, f)) ∧ Below w.heap.size w w8) := Lib.hid ⟨by have := o8.1; unfold nmIns; rw [HE.out]; exact this, bup (HK.out.1) (by omega) (below_own O7.out.2 hz7 d8)⟩; clear o8 d8))
          refine (implNmv_any v8 (nmIns xs xs.length (s, f)) _ _ _ O8.out.1.rn).mono ?_
          rintro e w9 ⟨rfl, b9⟩
          have O9 := Lib.hid (And.intro (O8.out.1.below b9) (bup O8.out.2 (Nat.le_refl _) b9))
          clear b9
          by_cases hval : nmVal (nmIns xs xs.length (s, f)) = true
          · have HR1 := Lib.hid (show R = (nmIns xs xs.length (s, f), true) by rw [← HR.out, HPL.out, if_pos hval])
            go_wp2_with fail
            go_ret2
            exact ⟨_, by rw [HR1.out]; rfl, by rw [HR1.out]; exact O9.out.1.wide (by omega), O9.out.2⟩
          · have HR1 := Lib.hid (show R = (xs, false) by rw [← HR.out, HPL.out, if_neg hval])
            have hval' : nmVal (nmIns xs xs.length (s, f)) = false := by simpa using hval
            clear hval
            go_wp2_with fail
            refine (clone_any b off cap xs _ _ _ (H.out.below O9.out.2) hx).mono ?_
            rintro e w10 ⟨v10, rfl, o10, b10⟩
            have O10 := Lib.hid (And.intro (o10.wide (show w.heap.size ≤ w9.heap.size by have := O9.out.2.size; omega)) (bup O9.out.2 (Nat.le_refl _) b10))
            clear o10 b10
            go_wp2_with fail
            go_ret2
            exact ⟨_, by rw [HR1.out]; rfl, by rw [HR1.out]; exact O10.out.1, O10.out.2⟩
  · have hv' : nmVal xs = false := by simpa using hv
    have hd : nmPut xs (s, f) = ([], false) := by rw [nmPut, if_neg hv]
    rw [hd]
    clear hd hv
    have hb0 : Below w.heap.size w (w.alloc (.cells #[.string s, .int .i64 f] 33)) := (Below.refl _ _).alloc (Nat.le_refl _) _
    have HB0 := Lib.hid hb0
    clear hb0
    go_enter Try.func30, Try.ntmps30
    go_wp2_with fail
    refine (implNmv_any _ xs _ _ _ (H.out.below HB0.out)).mono ?_
    rintro e w1 ⟨rfl, b1⟩
    have B1 := Lib.hid (bup HB0.out (by simp) b1)
    clear b1
    go_wp2_with fail
    go_ret2
    exact ⟨_, rfl, on_nil _ _, B1.out⟩

end Go.Proofs.Ythhganlnljoinaa
