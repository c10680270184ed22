/-
  PutName of the reference.
-/
import Derived.Test.YthhganlnljoinaaNpt
import Derived.Test.YthhganlnljoinaaUse
namespace Go.Proofs.Ythhganlnljoinaa
open Go.RowKit

theorem nmPs_at {xs : List (ByteArray × Int)} {n : ByteArray} {k : Nat} (hk : k < xs.length) (h : bef xs[k].1 n = false) (hj : ∀ j (hj : j < xs.length), j < k → bef xs[j].1 n = true) : nmPs xs n = k := by
  rw [nmPs, List.findIdx_eq hk]
  exact ⟨by simp [h], fun j hjk => by simpa using hj j (by omega) hjk⟩
theorem nmPs_end {xs : List (ByteArray × Int)} {n : ByteArray} (hj : ∀ j (hj : j < xs.length), bef xs[j].1 n = true) : nmPs xs n = xs.length := by
  rw [nmPs, List.findIdx_eq_length]
  intro x hx
  obtain ⟨j, hj', rfl⟩ := List.getElem_of_mem hx
  simpa using hj j hj'
/-- The region that builds the new names: who uses up what; what an operation turns; what its value is. -/
def PutC : Nat → Option Nat
  | 0 => some 4
  | 4 => some 7
  | 6 => some 7
  | 7 => some 11
  | _ => none
def PutS (L : Nat) (j : Nat) (w w' : World) : Prop :=
  match j with
  | 4 => Chg (fun b => ∃ fr, w.heap[b]? = some (.cells #[] 33 fr)) w w'
  | 7 => Chg (fun b => L ≤ b) w w'
  | 11 => Chg (fun b => L ≤ b) w w'
  | _ => Below w.heap.size w w'
def PutPhi (L : Nat) (xs : List (ByteArray × Int)) (s : ByteArray) (f : Int) (k b off cap : Nat) (sl : Value) (i : Nat) (v : Value) (w : World) : Prop :=
  match i with
  | 0 => w.ownsRow L 33 2 v 0 [] ∧ ∃ g, v = .slice (some ⟨g, 0, none⟩) 0 0 ∧ ∃ fr, w.heap[g]? = some (.cells #[] 33 fr)
  | 1 => v = .slice (some ⟨b, off, none⟩) xs.length cap
  | 2 => v = .int .i64 k
  | 3 => v = .slice (some ⟨b, off, none⟩) k cap
  | 4 => ON w L v (xs.take k)
  | 5 => v = .agg #[.string s, .int .i64 f]
  | 6 => ∃ g, v = .slice (some ⟨g, 0, none⟩) 1 1 ∧ w.heap[g]? = some (.cells #[.string s, .int .i64 f] 33 (0, 0))
  | 7 => ON w L v (xs.take k ++ [(s, f)]) ∧ v ≠ .slice none 0 0
  | 8 => v = .slice (some ⟨b, off, none⟩) xs.length cap
  | 9 => v = .int .i64 k
  | 10 => v = sl
  | 11 => ON w L v (nmIns xs k (s, f)) ∧ v ≠ .slice none 0 0
  | 12 => ON w L v (nmIns xs k (s, f)) ∧ v ≠ .slice none 0 0
  | _ => True
def PutBad (i j : Nat) : Bool := (j == 4 || j == 7 || j == 11) && (i == 0 || i == 4 || (i == 6 && j != 4) || i == 7 || i == 11 || i == 12)
theorem put_stable {L : Nat} {xs : List (ByteArray × Int)} {s : ByteArray} {f : Int} {k b off cap : Nat} {sl : Value} {i j : Nat} {v : Value} {w w' : World} (hij : i ≠ j) (hb : PutBad i j = true → i = j) (hS : PutS L j w w') (h : PutPhi L xs s f k b off cap sl i v w) : PutPhi L xs s f k b off cap sl i v w' := by
  have hb' : PutBad i j = false := by
    cases hv : PutBad i j with
    | false => rfl
    | true => exact absurd (hb hv) hij
  clear hb hij
  by_cases hj : j = 4 ∨ j = 7 ∨ j = 11
  · unfold PutPhi at *
    split at h
    all_goals first
      | exact h
      | (exfalso; rcases hj with rfl | rfl | rfl <;> simp [PutBad] at hb'; done)
      | (rcases hj with rfl | rfl | rfl
         · obtain ⟨g, hg1, hg2⟩ := h
           refine ⟨g, hg1, ?_⟩
           have hc : Chg (fun b => ∃ fr, w.heap[b]? = some (.cells #[] 33 fr)) w w' := hS
           rw [hc.block g (Array.getElem?_eq_some_iff.1 hg2).1 (fun ⟨fr, h⟩ => by rw [hg2] at h; simp at h)]
           exact hg2
         · simp [PutBad] at hb'
         · simp [PutBad] at hb')
  · have hB : Below w.heap.size w w' := by
      unfold PutS at hS
      split at hS
      · exact absurd (.inl rfl) hj
      · exact absurd (.inr (.inl rfl)) hj
      · exact absurd (.inr (.inr rfl)) hj
      · exact hS
    unfold PutPhi at *
    split at h
    all_goals first
      | exact h
      | exact h.below hB
      | exact ⟨h.1.below hB, h.2⟩
      | (obtain ⟨g, hg1, hg2⟩ := h
         exact ⟨g, hg1, by rw [hB.block g (Array.getElem?_eq_some_iff.1 hg2).1]; exact hg2⟩)
      | (obtain ⟨h1, g, hg1, fr, hg2⟩ := h
         exact ⟨own_chg h1 (below_chg hB fun _ => False) (fun _ _ _ h => h), g, hg1, fr, by rw [hB.block g (Array.getElem?_eq_some_iff.1 hg2).1]; exact hg2⟩)
theorem put_bad_lt {i j : Nat} (h : PutBad i j = true) : i < 13 ∧ j < 13 := by
  simp only [PutBad, Bool.and_eq_true, Bool.or_eq_true, beq_iff_eq] at h
  omega
theorem put_gone {l : List Oper} (hl : ((List.range 13).all fun i => (List.range 13).all fun j => !PutBad i j || i == j || gone l PutC i j) = true) {i j : Nat} (hb : PutBad i j = true) (hg : gone l PutC i j = false) : i = j := by
  obtain ⟨hi, hj⟩ := put_bad_lt hb
  have h1 := List.all_eq_true.1 hl i (List.mem_range.2 hi)
  have h2 := List.all_eq_true.1 h1 j (List.mem_range.2 hj)
  rw [hb, hg] at h2
  simpa using h2
def PutPostN (xs : List (ByteArray × Int)) (n : ByteArray × Int) (w : World) (e : Ending) (w' : World) : Prop := ∃ v, e = .returned (.tuple #[v, .bool (nmPut xs n).2]) ∧ (ON w' w.heap.size v (nmPut xs n).1 ∧ v ≠ .slice none 0 0) ∧ Below w.heap.size w w'

set_option maxHeartbeats 4000000 in
theorem specPut_any (b off cap : Nat) (xs : List (ByteArray × Int)) (n : ByteArray × Int) (hn : N64 n) (lo hi : Nat) (w : World) (h : RN w lo hi (.slice (some ⟨b, off, none⟩) xs.length cap) xs) (hx : xs.length ≤ 1048576) :
    Calls Try.prog 28 #[.slice (some ⟨b, off, none⟩) xs.length cap, .agg #[.string n.1, .int .i64 n.2]] w (PutPostN xs n w) := by
  obtain ⟨s, f⟩ := n
  obtain ⟨a', cap', b', off', he', q1, q2, q3, q4⟩ := h.open
  simp only [Value.slice.injEq] at he'
  obtain ⟨rfl, -, rfl⟩ := he'
  have H := Lib.hid h
  have HW := Lib.hid h.2
  have HN := Lib.hid hn
  have hs9 : s.size ≤ 9223372036854775807 := hn.1
  have Q4 := Lib.hid (show ∀ k (hk : k < xs.length), w.cell? ⟨b, off + k * 2, none⟩ = some (.string xs[k].1) ∧ w.cell? ⟨b, off + k * 2 + 1, none⟩ = some (.int .i64 xs[k].2) from fun k hk => by
    have := q3 (by omega)
    simp only [Option.some.injEq, Addr.mk.injEq, and_true] at this
    obtain ⟨rfl, rfl⟩ := this
    exact q4 k hk)
  obtain ⟨i0, hi0, hz0, hz1, hz2⟩ := info_parts Try.infoN
  have HI := Lib.hid (And.intro hi0 (And.intro hz0 (And.intro hz1 hz2)))
  clear h q3 q4 hn hi0 hz0 hz1 hz2
  unfold PutPostN
  simp only
  by_cases hv : nmVal xs = true
  · have hd : nmPut xs (s, f) = (if nmVal (nmIns xs (nmPs xs s) (s, f)) = true then (nmIns xs (nmPs xs s) (s, f), true) else (xs, false)) := by
      rw [nmPut, if_pos hv]
    rw [hd]
    clear hd
    generalize hR : (if nmVal (nmIns xs (nmPs xs s) (s, f)) = true then (nmIns xs (nmPs xs s) (s, f), true) else (xs, false)) = R
    have HR := Lib.hid hR
    clear hR
    have hb0 : Below w.heap.size w (w.alloc (.cells #[.string s, .int .i64 f] 33)) := (Below.refl _ _).alloc (Nat.le_refl _) _
    have HB0 := Lib.hid hb0
    clear hb0
    go_enter Try.func28, Try.ntmps28
    go_wp2_with fail
    refine (specNmv_any _ xs _ _ _ (H.out.below HB0.out)).mono ?_
    rintro e w1 ⟨rfl, b1⟩
    have HS : Hid (Below w.heap.size w w1 ∧ w1.heap[w.heap.size]? = some (.cells #[.string s, .int .i64 f] 33 (0, 0)) ∧ w.heap.size < w1.heap.size) := Lib.hid ⟨bup HB0.out (by simp) b1, by rw [b1.block w.heap.size (by simp)]; exact heap_alloc_new _ _, by have := b1.size; simp at this; omega⟩
    obtain ⟨hbx, -⟩ := box_at HS.out.2.1
    clear b1 HB0
    go_wp2_with fail
    refine (specBkt s hs9 _).mono ?_
    rintro e w2 ⟨rfl, rfl⟩
    clear hbx
    go_wp2_with fail
    go_loopw [6] (fun i wr => ∃ k : Nat, k ≤ xs.length ∧ i = .int .i64 k ∧ Hid (Below w.heap.size w wr ∧ wr.heap[w.heap.size]? = some (.cells #[.string s, .int .i64 f] 33 (0, 0)) ∧ w.heap.size < wr.heap.size) ∧ Hid (∀ j (hj : j < xs.length), j < k → bef xs[j].1 s = true)) (fun i _ => xs.length - (intOf i).toNat)
    case atStart => exact ⟨0, Nat.zero_le _, rfl, HS, Lib.hid (fun j _ h => absurd h (Nat.not_lt_zero _))⟩
    case round =>
      obtain ⟨k, hk, rfl, HK, HJ⟩ := hrel
      clear HS
      obtain ⟨hbx, -⟩ := box_at HK.out.2.1
      have HKn : ∀ nq, Hid (Below w.heap.size w (wr.drewN nq) ∧ (wr.drewN nq).heap[w.heap.size]? = some (.cells #[.string s, .int .i64 f] 33 (0, 0)) ∧ w.heap.size < (wr.drewN nq).heap.size) := fun nq => Lib.hid ⟨HK.out.1.drewN nq, HK.out.2.1, HK.out.2.2⟩
      have HKN := Lib.hid HKn
      clear HKn
      by_cases hlt : k < xs.length
      · have c1 := cell_later HK.out.1 (Q4.out k hlt).1
        have hx9 := (HW.out _ (List.getElem_mem hlt)).1
        have HA := Lib.hid (fun hq => nmPs_at (n := s) hlt hq HJ.out)
        have HJ2 : Hid (bef xs[k].1 s = true → ∀ j (hj : j < xs.length), j < k + 1 → bef xs[j].1 s = true) := Lib.hid fun hq j hj h => by
          by_cases e : j = k
          · subst e; exact hq
          · exact HJ.out j hj (by omega)
        obtain ⟨x, hxy⟩ : ∃ x, x = xs[k].1 := ⟨_, rfl⟩
        rw [← hxy] at c1 hx9 HA HJ2
        clear hxy
        rcases Int.lt_trichotomy (bkt x) (bkt s) with h1 | h1 | h1
        · have HT := Lib.hid (HJ2.out (by unfold bef; rw [if_neg (by omega)]; simpa using h1))
          clear HA HJ2
          go_wp2_with fail
          go_quiet ((go_at_call 32; exact Calls.quiet_of_same (specBkt_q _ (by assumption) _)))
          go_wp2_with fail
          go_roundw
          case rel => exact ⟨k + 1, by omega, by go_num, HKN.out _, HT⟩
          case measure => simp [intOf]; omega
        · have h1' : decide (bkt x < bkt s) = false := by simp; omega
          have h2 : (bkt x == bkt s) = true := by simpa using h1
          cases hq : sLt x s
          · have hq' : Op.bytesLess x.toList s.toList = false := hq
            have HP := Lib.hid (HA.out (by unfold bef; rw [if_pos h1]; exact hq))
            clear HA HJ2 h1 hq
            go_wp2_with fail
            go_quiet ((go_at_call 32; exact Calls.quiet_of_same (specBkt_q _ (by assumption) _)))
            go_wp2_with fail
            have hz0 := HK.out.1.size
            have hplc : k ≤ cap := by omega
            have hp0i : (0 : Int) ≤ ((k : Nat) : Int) := by omega
            have hpci : ((k : Nat) : Int) ≤ (cap : Int) := by omega
            have hpli : ((k : Nat) : Int) ≤ ((xs.length : Nat) : Int) := by omega
            have HW0 : Hid (Below w.heap.size w (wr.drewN nq) ∧ (wr.drewN nq).heap[w.heap.size]? = some (.cells #[.string s, .int .i64 f] 33 (0, 0)) ∧ w.heap.size < (wr.drewN nq).heap.size) := HKN.out nq
            obtain ⟨W0, hW0⟩ : ∃ W0, W0 = wr.drewN nq := ⟨_, rfl⟩
            rw [← hW0] at HW0 ⊢
            have hz0' : w.heap.size ≤ W0.heap.size := HW0.out.1.size
            clear hW0
            refine wp_region_use (fun _ w' => Below W0.heap.size W0 w') (PutS W0.heap.size) (PutPhi W0.heap.size xs s f k b off cap (if cap = k then .slice (some ⟨b, off, none⟩) (xs.length - k) (cap - k) else .slice (some ⟨b, off + k * 2, none⟩) (xs.length - k) (cap - k))) PutC (by kernel_rfl) (by kernel_rfl) ?hS ?h0 ?hop ?hend
            case hS => exact fun i j v w w' hij hg => put_stable hij fun hb => put_gone (by kernel_rfl) hb hg
            case h0 => exact (Below.refl _ _).drew
            case hop =>
              intro i o hi V n w' hn hJ hd
              simp only [List.length_cons, List.length_nil] at hn
              have hi' : i = 0 ∨ i = 1 ∨ i = 2 ∨ i = 3 ∨ i = 4 ∨ i = 5 ∨ i = 6 ∨ i = 7 ∨ i = 8 ∨ i = 9 ∨ i = 10 ∨ i = 11 ∨ i = 12 := by
                have := (List.getElem?_eq_some_iff.1 hi).1
                simp at this
                omega
              have hz := hJ.size
              rcases hi' with rfl | rfl | rfl | rfl | rfl | rfl | rfl | rfl | rfl | rfl | rfl | rfl | rfl
              all_goals
                simp at hi
                subst hi
                simp [Region.binds, PutC, PutPhi] at hd
              · simp [Frees, frameOf, go_sem]
                exact ⟨⟨World.ownsRow_lit w' #[] 0 hz (by decide) rfl, w'.heap.size, rfl, (0, 0), heap_alloc_new _ _⟩, (Below.refl _ _).alloc (Nat.le_refl _) _, hJ.alloc hz _⟩
              · simp [Frees, frameOf, go_sem]
                exact ⟨rfl, Below.refl _ _, hJ⟩
              · simp [Frees, frameOf, go_sem]
                exact ⟨rfl, Below.refl _ _, hJ⟩
              · obtain ⟨e1, e2⟩ := hd
                simp [Frees, frameOf, go_sem, e1, e2, hpci]
                exact ⟨rfl, Below.refl _ _, hJ⟩
              · obtain ⟨⟨e0, g, e1, fr, fr2, e2⟩, e3⟩ := hd
                refine frees_append (.tmp 52) (.tmp 55) 25 rfl W0.heap.size 33 i0 (.agg #[.string ByteArray.empty, .int .i64 0]) 2 24 Try.underlying25 HI.out.1 HI.out.2.1 HI.out.2.2.1 HI.out.2.2.2 rfl (by decide) (V 0) 0 [] (by simp [frameOf, Act.put, Act.eval]) e0 ⟨b, off, none⟩ k cap (nc (xs.take k)) (by simp [frameOf, Act.put, Act.eval, e3]) (by rw [nc_len, List.length_take]; omega) (rn_take (H.out.below (bup HW0.out.1 (Nat.le_refl _) hJ)) k) (nc_one _) (by simp [maxLen]; omega) (by omega) hz fun v' w'' h1 h2 _ => ⟨?_, ?_, ?_⟩
                · refine ⟨?_, fun e he => HW.out e (List.mem_of_mem_take he)⟩
                  have hl : (xs.take k).length = 0 + k := by rw [List.length_take]; omega
                  rw [hl]; simpa using h1
                · exact (Chg.refl _ w').grown h2 (fun k hk => .inr ⟨(fr, fr2), by rw [e1] at hk; have : g = k := Option.some.inj hk; rw [← this]; exact e2⟩)
                · exact hJ.grown h2 hz (fun k hk => (e0.lt k hk).1)
              · obtain ⟨hb0, hb1⟩ := box_at ((hJ.block w.heap.size HW0.out.2.2).trans HW0.out.2.1)
                simp [Frees, frameOf, go_sem, hb0, hb1]
                exact ⟨rfl, Below.refl _ _, hJ⟩
              · simp [Frees, frameOf, go_sem, hd]
                exact ⟨⟨w'.heap.size, rfl, heap_alloc_new _ _⟩, (Below.refl _ _).alloc (Nat.le_refl _) _, hJ.alloc hz _⟩
              · obtain ⟨e0, ⟨g, e1, e2⟩, -⟩ := hd
                obtain ⟨hg0, hg1⟩ := box_at e2
                refine frees_append (.tmp 56) (.tmp 58) 25 rfl W0.heap.size 33 i0 (.agg #[.string ByteArray.empty, .int .i64 0]) 2 24 Try.underlying25 HI.out.1 HI.out.2.1 HI.out.2.2.1 HI.out.2.2.2 rfl (by decide) (V 4) (xs.take k).length (nc (xs.take k)) (by simp [frameOf, Act.put, Act.eval]) e0.1 ⟨g, 0, none⟩ 1 1 [.string s, .int .i64 f] (by simp [frameOf, Act.put, Act.eval, e1]) rfl ?_ (by simp [Value.oneCell']) (by rw [List.length_take]; simp [maxLen]; omega) (by rw [List.length_take]; omega) hz fun v' w'' h1 h2 h3 => ⟨⟨⟨?_, ?_⟩, ?_⟩, ?_, ?_⟩
                · intro j u hj
                  rw [add_plain, Nat.zero_add]
                  match j, hj with
                  | 0, hj => simp at hj; subst hj; exact hg0
                  | 1, hj => simp at hj; subst hj; exact hg1
                  | j + 2, hj => simp at hj
                · rw [nc_append, List.length_append]; exact h1
                · intro e he
                  rcases List.mem_append.1 he with he | he
                  · exact HW.out e (List.mem_of_mem_take he)
                  · simp only [List.mem_singleton] at he; subst he; exact HN.out
                · intro e; have := h3.1 e; omega
                · exact (Chg.refl _ w').grown h2 (fun k hk => .inr (e0.1.lt k hk).1)
                · exact hJ.grown h2 hz (fun k hk => (e0.1.lt k hk).1)
              · simp [Frees, frameOf, go_sem]
                exact ⟨rfl, Below.refl _ _, hJ⟩
              · simp [Frees, frameOf, go_sem]
                exact ⟨rfl, Below.refl _ _, hJ⟩
              · obtain ⟨e1, e2⟩ := hd
                by_cases hcp : cap = k
                · simp [Frees, frameOf, go_sem, e1, e2, hpli, hcp]
                  exact ⟨by show _ = _; simp, Below.refl _ _, hJ⟩
                · simp [Frees, frameOf, go_sem, e1, e2, hpli, hcp]
                  exact ⟨by show _ = _; simp, Below.refl _ _, hJ⟩
              · obtain ⟨⟨e0, en⟩, e1, -⟩ := hd
                have hy : ∃ ad : Addr, (if cap = k then Value.slice (some ⟨b, off, none⟩) (xs.length - k) (cap - k) else Value.slice (some ⟨b, off + k * 2, none⟩) (xs.length - k) (cap - k)) = .slice (some ad) (xs.length - k) (cap - k) ∧ ∀ j u, (nc (xs.drop k))[j]? = some u → w'.cell? (ad.add j) = some u := by
                  by_cases hcp : cap = k
                  · rw [if_pos hcp]
                    refine ⟨_, rfl, fun j u hj => ?_⟩
                    rw [List.drop_of_length_le (by omega)] at hj
                    simp [nc] at hj
                  · rw [if_neg hcp]
                    exact ⟨_, rfl, rn_drop (H.out.below (bup HW0.out.1 (Nat.le_refl _) hJ)) k⟩
                obtain ⟨ad, had, hcell⟩ := hy
                rw [had] at e1
                refine frees_append (.tmp 59) (.tmp 62) 25 rfl W0.heap.size 33 i0 (.agg #[.string ByteArray.empty, .int .i64 0]) 2 24 Try.underlying25 HI.out.1 HI.out.2.1 HI.out.2.2.1 HI.out.2.2.2 rfl (by decide) (V 7) (xs.take k ++ [(s, f)]).length (nc (xs.take k ++ [(s, f)])) (by simp [frameOf, Act.put, Act.eval]) e0.1 ad (xs.length - k) (cap - k) (nc (xs.drop k)) (by simp [frameOf, Act.put, Act.eval, e1]) (by rw [nc_len, List.length_drop]) hcell (nc_one _) (by rw [List.length_append, List.length_take]; simp [maxLen]; omega) (by rw [List.length_append, List.length_take]; simp; omega) hz fun v' w'' h1 h2 h3 => ⟨⟨⟨?_, ?_⟩, ?_⟩, ?_, ?_⟩
                · have hl : (nmIns xs k (s, f)).length = (xs.take k ++ [(s, f)]).length + (xs.length - k) := by unfold nmIns; simp; omega
                  rw [hl]; unfold nmIns; rw [nc_append (xs.take k ++ [(s, f)])]; exact h1
                · intro e he
                  rcases nmIns_mem.1 he with rfl | he
                  · exact HN.out
                  · exact HW.out e he
                · intro e; exact en (h3.1 e).1
                · exact (Chg.refl _ w').grown h2 (fun k hk => .inr (e0.1.lt k hk).1)
                · exact hJ.grown h2 hz (fun k hk => (e0.1.lt k hk).1)
              · have e11 : ON w' W0.heap.size (V 11) (nmIns xs k (s, f)) ∧ V 11 ≠ .slice none 0 0 := hd.1
                simp [Frees, frameOf, go_sem]
                exact ⟨e11, Below.refl _ _, hJ⟩
            case hend =>
              intro V n w' hn hJ hφ
              have e12 : ON w' W0.heap.size (V 12) (nmIns xs k (s, f)) ∧ V 12 ≠ .slice none 0 0 := hφ 12 (by decide) rfl
              have O8 : Hid (ON w' W0.heap.size (V 12) (nmIns xs k (s, f)) ∧ Below w.heap.size w w') := Lib.hid ⟨e12.1, bup HW0.out.1 (Nat.le_refl _) hJ⟩
              have HNN := Lib.hid e12.2
              clear hφ hJ e12
              simp [frameOf, Act.put]
              go_wp2_with fail
              refine (specNmv_any (V 12) (nmIns xs k (s, f)) _ _ _ O8.out.1.rn).mono ?_
              rintro e w9 ⟨rfl, b9⟩
              have O9 := Lib.hid (And.intro (O8.out.1.below b9) (bup O8.out.2 (Nat.le_refl _) b9))
              clear b9
              by_cases hval : nmVal (nmIns xs k (s, f)) = true
              · have HR1 := Lib.hid (show R = (nmIns xs k (s, f), true) by rw [← HR.out, HP.out, if_pos hval])
                go_wp2_with fail
                go_ret2
                exact ⟨_, by rw [HR1.out]; rfl, ⟨by rw [HR1.out]; exact O9.out.1.wide hz0', HNN.out⟩, O9.out.2⟩
              · have HR1 := Lib.hid (show R = (xs, false) by rw [← HR.out, HP.out, if_neg hval])
                have hval' : nmVal (nmIns xs k (s, f)) = false := by simpa using hval
                clear hval
                have hc := rn_take (H.out.below O9.out.2) xs.length
                rw [List.take_length] at hc
                have HC := Lib.hid (fun (o : Obj) j u hj => cell_later (w := w9) ((Below.refl _ _).alloc (Nat.le_refl _) o) (hc j u hj))
                clear hc
                go_wp2_with (at_builtin; refine ap_names rfl _ _ rfl w9.heap.size (.slice (some ⟨w9.heap.size, 0, none⟩) 0 0) [] rfl ⟨World.ownsRow_lit w9 #[] 0 (Nat.le_refl _) (by decide) rfl, fun _ h => by simp at h⟩ ⟨b, off, none⟩ xs.length cap xs rfl rfl (HC.out _) HW.out (by simp; omega) (by simp) ?_; intro v' w10 o10 d10; have hb10 : Below w9.heap.size w9 w10 := below_own ((Below.refl _ _).alloc (Nat.le_refl _) _) (by simp) d10; have O10 : Hid ((ON w10 w.heap.size v' xs ∧ v' ≠ .slice none 0 0) ∧ Below w.heap.size w w10) := Lib.hid ⟨⟨o10.1.wide (show w.heap.size ≤ w9.heap.size by have := O9.out.2.size; omega), o10.2 (by simp)⟩, bup O9.out.2 (Nat.le_refl _) hb10⟩; clear o10 d10 hb10)
                go_ret2
                exact ⟨_, by rw [HR1.out]; rfl, by rw [HR1.out]; exact O10.out.1, O10.out.2⟩
          · have hq' : Op.bytesLess x.toList s.toList = true := hq
            have HT := Lib.hid (HJ2.out (by unfold bef; rw [if_pos h1]; exact hq))
            clear HA HJ2 h1 hq
            go_wp2_with fail
            go_quiet ((go_at_call 32; exact Calls.quiet_of_same (specBkt_q _ (by assumption) _)))
            go_wp2_with fail
            go_roundw
            case rel => exact ⟨k + 1, by omega, by go_num, HKN.out _, HT⟩
            case measure => simp [intOf]; omega
        · have h1' : decide (bkt x < bkt s) = false := by simp; omega
          have h2 : (bkt x == bkt s) = false := by simp; omega
          have HP := Lib.hid (HA.out (by unfold bef; rw [if_neg (by omega)]; simp; omega))
          clear HA HJ2 h1
          go_wp2_with fail
          go_quiet ((go_at_call 32; exact Calls.quiet_of_same (specBkt_q _ (by assumption) _)))
          go_wp2_with fail
          have hz0 := HK.out.1.size
          have hplc : k ≤ cap := by omega
          have hp0i : (0 : Int) ≤ ((k : Nat) : Int) := by omega
          have hpci : ((k : Nat) : Int) ≤ (cap : Int) := by omega
          have hpli : ((k : Nat) : Int) ≤ ((xs.length : Nat) : Int) := by omega
          have HW0 : Hid (Below w.heap.size w (wr.drewN nq) ∧ (wr.drewN nq).heap[w.heap.size]? = some (.cells #[.string s, .int .i64 f] 33 (0, 0)) ∧ w.heap.size < (wr.drewN nq).heap.size) := HKN.out nq
          obtain ⟨W0, hW0⟩ : ∃ W0, W0 = wr.drewN nq := ⟨_, rfl⟩
          rw [← hW0] at HW0 ⊢
          have hz0' : w.heap.size ≤ W0.heap.size := HW0.out.1.size
          clear hW0
          refine wp_region_use (fun _ w' => Below W0.heap.size W0 w') (PutS W0.heap.size) (PutPhi W0.heap.size xs s f k b off cap (if cap = k then .slice (some ⟨b, off, none⟩) (xs.length - k) (cap - k) else .slice (some ⟨b, off + k * 2, none⟩) (xs.length - k) (cap - k))) PutC (by kernel_rfl) (by kernel_rfl) ?hS ?h0 ?hop ?hend
          case hS => exact fun i j v w w' hij hg => put_stable hij fun hb => put_gone (by kernel_rfl) hb hg
          case h0 => exact (Below.refl _ _).drew
          case hop =>
            intro i o hi V n w' hn hJ hd
            simp only [List.length_cons, List.length_nil] at hn
            have hi' : i = 0 ∨ i = 1 ∨ i = 2 ∨ i = 3 ∨ i = 4 ∨ i = 5 ∨ i = 6 ∨ i = 7 ∨ i = 8 ∨ i = 9 ∨ i = 10 ∨ i = 11 ∨ i = 12 := by
              have := (List.getElem?_eq_some_iff.1 hi).1
              simp at this
              omega
            have hz := hJ.size
            rcases hi' with rfl | rfl | rfl | rfl | rfl | rfl | rfl | rfl | rfl | rfl | rfl | rfl | rfl
            all_goals
              simp at hi
              subst hi
              simp [Region.binds, PutC, PutPhi] at hd
            · simp [Frees, frameOf, go_sem]
              exact ⟨⟨World.ownsRow_lit w' #[] 0 hz (by decide) rfl, w'.heap.size, rfl, (0, 0), heap_alloc_new _ _⟩, (Below.refl _ _).alloc (Nat.le_refl _) _, hJ.alloc hz _⟩
            · simp [Frees, frameOf, go_sem]
              exact ⟨rfl, Below.refl _ _, hJ⟩
            · simp [Frees, frameOf, go_sem]
              exact ⟨rfl, Below.refl _ _, hJ⟩
            · obtain ⟨e1, e2⟩ := hd
              simp [Frees, frameOf, go_sem, e1, e2, hpci]
              exact ⟨rfl, Below.refl _ _, hJ⟩
            · obtain ⟨⟨e0, g, e1, fr, fr2, e2⟩, e3⟩ := hd
              refine frees_append (.tmp 52) (.tmp 55) 25 rfl W0.heap.size 33 i0 (.agg #[.string ByteArray.empty, .int .i64 0]) 2 24 Try.underlying25 HI.out.1 HI.out.2.1 HI.out.2.2.1 HI.out.2.2.2 rfl (by decide) (V 0) 0 [] (by simp [frameOf, Act.put, Act.eval]) e0 ⟨b, off, none⟩ k cap (nc (xs.take k)) (by simp [frameOf, Act.put, Act.eval, e3]) (by rw [nc_len, List.length_take]; omega) (rn_take (H.out.below (bup HW0.out.1 (Nat.le_refl _) hJ)) k) (nc_one _) (by simp [maxLen]; omega) (by omega) hz fun v' w'' h1 h2 _ => ⟨?_, ?_, ?_⟩
              · refine ⟨?_, fun e he => HW.out e (List.mem_of_mem_take he)⟩
                have hl : (xs.take k).length = 0 + k := by rw [List.length_take]; omega
                rw [hl]; simpa using h1
              · exact (Chg.refl _ w').grown h2 (fun k hk => .inr ⟨(fr, fr2), by rw [e1] at hk; have : g = k := Option.some.inj hk; rw [← this]; exact e2⟩)
              · exact hJ.grown h2 hz (fun k hk => (e0.lt k hk).1)
            · obtain ⟨hb0, hb1⟩ := box_at ((hJ.block w.heap.size HW0.out.2.2).trans HW0.out.2.1)
              simp [Frees, frameOf, go_sem, hb0, hb1]
              exact ⟨rfl, Below.refl _ _, hJ⟩
            · simp [Frees, frameOf, go_sem, hd]
              exact ⟨⟨w'.heap.size, rfl, heap_alloc_new _ _⟩, (Below.refl _ _).alloc (Nat.le_refl _) _, hJ.alloc hz _⟩
            · obtain ⟨e0, ⟨g, e1, e2⟩, -⟩ := hd
              obtain ⟨hg0, hg1⟩ := box_at e2
              refine frees_append (.tmp 56) (.tmp 58) 25 rfl W0.heap.size 33 i0 (.agg #[.string ByteArray.empty, .int .i64 0]) 2 24 Try.underlying25 HI.out.1 HI.out.2.1 HI.out.2.2.1 HI.out.2.2.2 rfl (by decide) (V 4) (xs.take k).length (nc (xs.take k)) (by simp [frameOf, Act.put, Act.eval]) e0.1 ⟨g, 0, none⟩ 1 1 [.string s, .int .i64 f] (by simp [frameOf, Act.put, Act.eval, e1]) rfl ?_ (by simp [Value.oneCell']) (by rw [List.length_take]; simp [maxLen]; omega) (by rw [List.length_take]; omega) hz fun v' w'' h1 h2 h3 => ⟨⟨⟨?_, ?_⟩, ?_⟩, ?_, ?_⟩
              · intro j u hj
                rw [add_plain, Nat.zero_add]
                match j, hj with
                | 0, hj => simp at hj; subst hj; exact hg0
                | 1, hj => simp at hj; subst hj; exact hg1
                | j + 2, hj => simp at hj
              · rw [nc_append, List.length_append]; exact h1
              · intro e he
                rcases List.mem_append.1 he with he | he
                · exact HW.out e (List.mem_of_mem_take he)
                · simp only [List.mem_singleton] at he; subst he; exact HN.out
              · intro e; have := h3.1 e; omega
              · exact (Chg.refl _ w').grown h2 (fun k hk => .inr (e0.1.lt k hk).1)
              · exact hJ.grown h2 hz (fun k hk => (e0.1.lt k hk).1)
            · simp [Frees, frameOf, go_sem]
              exact ⟨rfl, Below.refl _ _, hJ⟩
            · simp [Frees, frameOf, go_sem]
              exact ⟨rfl, Below.refl _ _, hJ⟩
            · obtain ⟨e1, e2⟩ := hd
              by_cases hcp : cap = k
              · simp [Frees, frameOf, go_sem, e1, e2, hpli, hcp]
                exact ⟨by show _ = _; simp, Below.refl _ _, hJ⟩
              · simp [Frees, frameOf, go_sem, e1, e2, hpli, hcp]
                exact ⟨by show _ = _; simp, Below.refl _ _, hJ⟩
            · obtain ⟨⟨e0, en⟩, e1, -⟩ := hd
              have hy : ∃ ad : Addr, (if cap = k then Value.slice (some ⟨b, off, none⟩) (xs.length - k) (cap - k) else Value.slice (some ⟨b, off + k * 2, none⟩) (xs.length - k) (cap - k)) = .slice (some ad) (xs.length - k) (cap - k) ∧ ∀ j u, (nc (xs.drop k))[j]? = some u → w'.cell? (ad.add j) = some u := by
                by_cases hcp : cap = k
                · rw [if_pos hcp]
                  refine ⟨_, rfl, fun j u hj => ?_⟩
                  rw [List.drop_of_length_le (by omega)] at hj
                  simp [nc] at hj
                · rw [if_neg hcp]
                  exact ⟨_, rfl, rn_drop (H.out.below (bup HW0.out.1 (Nat.le_refl _) hJ)) k⟩
              obtain ⟨ad, had, hcell⟩ := hy
              rw [had] at e1
              refine frees_append (.tmp 59) (.tmp 62) 25 rfl W0.heap.size 33 i0 (.agg #[.string ByteArray.empty, .int .i64 0]) 2 24 Try.underlying25 HI.out.1 HI.out.2.1 HI.out.2.2.1 HI.out.2.2.2 rfl (by decide) (V 7) (xs.take k ++ [(s, f)]).length (nc (xs.take k ++ [(s, f)])) (by simp [frameOf, Act.put, Act.eval]) e0.1 ad (xs.length - k) (cap - k) (nc (xs.drop k)) (by simp [frameOf, Act.put, Act.eval, e1]) (by rw [nc_len, List.length_drop]) hcell (nc_one _) (by rw [List.length_append, List.length_take]; simp [maxLen]; omega) (by rw [List.length_append, List.length_take]; simp; omega) hz fun v' w'' h1 h2 h3 => ⟨⟨⟨?_, ?_⟩, ?_⟩, ?_, ?_⟩
              · have hl : (nmIns xs k (s, f)).length = (xs.take k ++ [(s, f)]).length + (xs.length - k) := by unfold nmIns; simp; omega
                rw [hl]; unfold nmIns; rw [nc_append (xs.take k ++ [(s, f)])]; exact h1
              · intro e he
                rcases nmIns_mem.1 he with rfl | he
                · exact HN.out
                · exact HW.out e he
              · intro e; exact en (h3.1 e).1
              · exact (Chg.refl _ w').grown h2 (fun k hk => .inr (e0.1.lt k hk).1)
              · exact hJ.grown h2 hz (fun k hk => (e0.1.lt k hk).1)
            · have e11 : ON w' W0.heap.size (V 11) (nmIns xs k (s, f)) ∧ V 11 ≠ .slice none 0 0 := hd.1
              simp [Frees, frameOf, go_sem]
              exact ⟨e11, Below.refl _ _, hJ⟩
          case hend =>
            intro V n w' hn hJ hφ
            have e12 : ON w' W0.heap.size (V 12) (nmIns xs k (s, f)) ∧ V 12 ≠ .slice none 0 0 := hφ 12 (by decide) rfl
            have O8 : Hid (ON w' W0.heap.size (V 12) (nmIns xs k (s, f)) ∧ Below w.heap.size w w') := Lib.hid ⟨e12.1, bup HW0.out.1 (Nat.le_refl _) hJ⟩
            have HNN := Lib.hid e12.2
            clear hφ hJ e12
            simp [frameOf, Act.put]
            go_wp2_with fail
            refine (specNmv_any (V 12) (nmIns xs k (s, f)) _ _ _ O8.out.1.rn).mono ?_
            rintro e w9 ⟨rfl, b9⟩
            have O9 := Lib.hid (And.intro (O8.out.1.below b9) (bup O8.out.2 (Nat.le_refl _) b9))
            clear b9
            by_cases hval : nmVal (nmIns xs k (s, f)) = true
            · have HR1 := Lib.hid (show R = (nmIns xs k (s, f), true) by rw [← HR.out, HP.out, if_pos hval])
              go_wp2_with fail
              go_ret2
              exact ⟨_, by rw [HR1.out]; rfl, ⟨by rw [HR1.out]; exact O9.out.1.wide hz0', HNN.out⟩, O9.out.2⟩
            · have HR1 := Lib.hid (show R = (xs, false) by rw [← HR.out, HP.out, if_neg hval])
              have hval' : nmVal (nmIns xs k (s, f)) = false := by simpa using hval
              clear hval
              have hc := rn_take (H.out.below O9.out.2) xs.length
              rw [List.take_length] at hc
              have HC := Lib.hid (fun (o : Obj) j u hj => cell_later (w := w9) ((Below.refl _ _).alloc (Nat.le_refl _) o) (hc j u hj))
              clear hc
              go_wp2_with (at_builtin; refine ap_names rfl _ _ rfl w9.heap.size (.slice (some ⟨w9.heap.size, 0, none⟩) 0 0) [] rfl ⟨World.ownsRow_lit w9 #[] 0 (Nat.le_refl _) (by decide) rfl, fun _ h => by simp at h⟩ ⟨b, off, none⟩ xs.length cap xs rfl rfl (HC.out _) HW.out (by simp; omega) (by simp) ?_; intro v' w10 o10 d10; have hb10 : Below w9.heap.size w9 w10 := below_own ((Below.refl _ _).alloc (Nat.le_refl _) _) (by simp) d10; have O10 : Hid ((ON w10 w.heap.size v' xs ∧ v' ≠ .slice none 0 0) ∧ Below w.heap.size w w10) := Lib.hid ⟨⟨o10.1.wide (show w.heap.size ≤ w9.heap.size by have := O9.out.2.size; omega), o10.2 (by simp)⟩, bup O9.out.2 (Nat.le_refl _) hb10⟩; clear o10 d10 hb10)
              go_ret2
              exact ⟨_, by rw [HR1.out]; rfl, by rw [HR1.out]; exact O10.out.1, O10.out.2⟩
      · have hlt' : decide (k < xs.length) = false := by simp; omega
        have HP := Lib.hid (show nmPs xs s = k by rw [nmPs_end (xs := xs) (n := s) (fun j hj => HJ.out j hj (by omega))]; omega)
        clear HJ
        go_wp2_with fail
        go_quiet ((go_at_call 32; exact Calls.quiet_of_same (specBkt_q _ (by assumption) _)))
        go_wp2_with fail
        have hz0 := HK.out.1.size
        have hplc : k ≤ cap := by omega
        have hp0i : (0 : Int) ≤ ((k : Nat) : Int) := by omega
        have hpci : ((k : Nat) : Int) ≤ (cap : Int) := by omega
        have hpli : ((k : Nat) : Int) ≤ ((xs.length : Nat) : Int) := by omega
        have HW0 : Hid (Below w.heap.size w (wr.drewN nq) ∧ (wr.drewN nq).heap[w.heap.size]? = some (.cells #[.string s, .int .i64 f] 33 (0, 0)) ∧ w.heap.size < (wr.drewN nq).heap.size) := HKN.out nq
        obtain ⟨W0, hW0⟩ : ∃ W0, W0 = wr.drewN nq := ⟨_, rfl⟩
        rw [← hW0] at HW0 ⊢
        have hz0' : w.heap.size ≤ W0.heap.size := HW0.out.1.size
        clear hW0
        refine wp_region_use (fun _ w' => Below W0.heap.size W0 w') (PutS W0.heap.size) (PutPhi W0.heap.size xs s f k b off cap (if cap = k then .slice (some ⟨b, off, none⟩) (xs.length - k) (cap - k) else .slice (some ⟨b, off + k * 2, none⟩) (xs.length - k) (cap - k))) PutC (by kernel_rfl) (by kernel_rfl) ?hS ?h0 ?hop ?hend
        case hS => exact fun i j v w w' hij hg => put_stable hij fun hb => put_gone (by kernel_rfl) hb hg
        case h0 => exact (Below.refl _ _).drew
        case hop =>
          intro i o hi V n w' hn hJ hd
          simp only [List.length_cons, List.length_nil] at hn
          have hi' : i = 0 ∨ i = 1 ∨ i = 2 ∨ i = 3 ∨ i = 4 ∨ i = 5 ∨ i = 6 ∨ i = 7 ∨ i = 8 ∨ i = 9 ∨ i = 10 ∨ i = 11 ∨ i = 12 := by
            have := (List.getElem?_eq_some_iff.1 hi).1
            simp at this
            omega
          have hz := hJ.size
          rcases hi' with rfl | rfl | rfl | rfl | rfl | rfl | rfl | rfl | rfl | rfl | rfl | rfl | rfl
          all_goals
            simp at hi
            subst hi
            simp [Region.binds, PutC, PutPhi] at hd
          · simp [Frees, frameOf, go_sem]
            exact ⟨⟨World.ownsRow_lit w' #[] 0 hz (by decide) rfl, w'.heap.size, rfl, (0, 0), heap_alloc_new _ _⟩, (Below.refl _ _).alloc (Nat.le_refl _) _, hJ.alloc hz _⟩
          · simp [Frees, frameOf, go_sem]
            exact ⟨rfl, Below.refl _ _, hJ⟩
          · simp [Frees, frameOf, go_sem]
            exact ⟨rfl, Below.refl _ _, hJ⟩
          · obtain ⟨e1, e2⟩ := hd
            simp [Frees, frameOf, go_sem, e1, e2, hpci]
            exact ⟨rfl, Below.refl _ _, hJ⟩
          · obtain ⟨⟨e0, g, e1, fr, fr2, e2⟩, e3⟩ := hd
            refine frees_append (.tmp 52) (.tmp 55) 25 rfl W0.heap.size 33 i0 (.agg #[.string ByteArray.empty, .int .i64 0]) 2 24 Try.underlying25 HI.out.1 HI.out.2.1 HI.out.2.2.1 HI.out.2.2.2 rfl (by decide) (V 0) 0 [] (by simp [frameOf, Act.put, Act.eval]) e0 ⟨b, off, none⟩ k cap (nc (xs.take k)) (by simp [frameOf, Act.put, Act.eval, e3]) (by rw [nc_len, List.length_take]; omega) (rn_take (H.out.below (bup HW0.out.1 (Nat.le_refl _) hJ)) k) (nc_one _) (by simp [maxLen]; omega) (by omega) hz fun v' w'' h1 h2 _ => ⟨?_, ?_, ?_⟩
            · refine ⟨?_, fun e he => HW.out e (List.mem_of_mem_take he)⟩
              have hl : (xs.take k).length = 0 + k := by rw [List.length_take]; omega
              rw [hl]; simpa using h1
            · exact (Chg.refl _ w').grown h2 (fun k hk => .inr ⟨(fr, fr2), by rw [e1] at hk; have : g = k := Option.some.inj hk; rw [← this]; exact e2⟩)
            · exact hJ.grown h2 hz (fun k hk => (e0.lt k hk).1)
          · obtain ⟨hb0, hb1⟩ := box_at ((hJ.block w.heap.size HW0.out.2.2).trans HW0.out.2.1)
            simp [Frees, frameOf, go_sem, hb0, hb1]
            exact ⟨rfl, Below.refl _ _, hJ⟩
          · simp [Frees, frameOf, go_sem, hd]
            exact ⟨⟨w'.heap.size, rfl, heap_alloc_new _ _⟩, (Below.refl _ _).alloc (Nat.le_refl _) _, hJ.alloc hz _⟩
          · obtain ⟨e0, ⟨g, e1, e2⟩, -⟩ := hd
            obtain ⟨hg0, hg1⟩ := box_at e2
            refine frees_append (.tmp 56) (.tmp 58) 25 rfl W0.heap.size 33 i0 (.agg #[.string ByteArray.empty, .int .i64 0]) 2 24 Try.underlying25 HI.out.1 HI.out.2.1 HI.out.2.2.1 HI.out.2.2.2 rfl (by decide) (V 4) (xs.take k).length (nc (xs.take k)) (by simp [frameOf, Act.put, Act.eval]) e0.1 ⟨g, 0, none⟩ 1 1 [.string s, .int .i64 f] (by simp [frameOf, Act.put, Act.eval, e1]) rfl ?_ (by simp [Value.oneCell']) (by rw [List.length_take]; simp [maxLen]; omega) (by rw [List.length_take]; omega) hz fun v' w'' h1 h2 h3 => ⟨⟨⟨?_, ?_⟩, ?_⟩, ?_, ?_⟩
            · intro j u hj
              rw [add_plain, Nat.zero_add]
              match j, hj with
              | 0, hj => simp at hj; subst hj; exact hg0
              | 1, hj => simp at hj; subst hj; exact hg1
              | j + 2, hj => simp at hj
            · rw [nc_append, List.length_append]; exact h1
            · intro e he
              rcases List.mem_append.1 he with he | he
              · exact HW.out e (List.mem_of_mem_take he)
              · simp only [List.mem_singleton] at he; subst he; exact HN.out
            · intro e; have := h3.1 e; omega
            · exact (Chg.refl _ w').grown h2 (fun k hk => .inr (e0.1.lt k hk).1)
            · exact hJ.grown h2 hz (fun k hk => (e0.1.lt k hk).1)
          · simp [Frees, frameOf, go_sem]
            exact ⟨rfl, Below.refl _ _, hJ⟩
          · simp [Frees, frameOf, go_sem]
            exact ⟨rfl, Below.refl _ _, hJ⟩
          · obtain ⟨e1, e2⟩ := hd
            by_cases hcp : cap = k
            · simp [Frees, frameOf, go_sem, e1, e2, hpli, hcp]
              exact ⟨by show _ = _; simp, Below.refl _ _, hJ⟩
            · simp [Frees, frameOf, go_sem, e1, e2, hpli, hcp]
              exact ⟨by show _ = _; simp, Below.refl _ _, hJ⟩
          · obtain ⟨⟨e0, en⟩, e1, -⟩ := hd
            have hy : ∃ ad : Addr, (if cap = k then Value.slice (some ⟨b, off, none⟩) (xs.length - k) (cap - k) else Value.slice (some ⟨b, off + k * 2, none⟩) (xs.length - k) (cap - k)) = .slice (some ad) (xs.length - k) (cap - k) ∧ ∀ j u, (nc (xs.drop k))[j]? = some u → w'.cell? (ad.add j) = some u := by
              by_cases hcp : cap = k
              · rw [if_pos hcp]
                refine ⟨_, rfl, fun j u hj => ?_⟩
                rw [List.drop_of_length_le (by omega)] at hj
                simp [nc] at hj
              · rw [if_neg hcp]
                exact ⟨_, rfl, rn_drop (H.out.below (bup HW0.out.1 (Nat.le_refl _) hJ)) k⟩
            obtain ⟨ad, had, hcell⟩ := hy
            rw [had] at e1
            refine frees_append (.tmp 59) (.tmp 62) 25 rfl W0.heap.size 33 i0 (.agg #[.string ByteArray.empty, .int .i64 0]) 2 24 Try.underlying25 HI.out.1 HI.out.2.1 HI.out.2.2.1 HI.out.2.2.2 rfl (by decide) (V 7) (xs.take k ++ [(s, f)]).length (nc (xs.take k ++ [(s, f)])) (by simp [frameOf, Act.put, Act.eval]) e0.1 ad (xs.length - k) (cap - k) (nc (xs.drop k)) (by simp [frameOf, Act.put, Act.eval, e1]) (by rw [nc_len, List.length_drop]) hcell (nc_one _) (by rw [List.length_append, List.length_take]; simp [maxLen]; omega) (by rw [List.length_append, List.length_take]; simp; omega) hz fun v' w'' h1 h2 h3 => ⟨⟨⟨?_, ?_⟩, ?_⟩, ?_, ?_⟩
            · have hl : (nmIns xs k (s, f)).length = (xs.take k ++ [(s, f)]).length + (xs.length - k) := by unfold nmIns; simp; omega
              rw [hl]; unfold nmIns; rw [nc_append (xs.take k ++ [(s, f)])]; exact h1
            · intro e he
              rcases nmIns_mem.1 he with rfl | he
              · exact HN.out
              · exact HW.out e he
            · intro e; exact en (h3.1 e).1
            · exact (Chg.refl _ w').grown h2 (fun k hk => .inr (e0.1.lt k hk).1)
            · exact hJ.grown h2 hz (fun k hk => (e0.1.lt k hk).1)
          · have e11 : ON w' W0.heap.size (V 11) (nmIns xs k (s, f)) ∧ V 11 ≠ .slice none 0 0 := hd.1
            simp [Frees, frameOf, go_sem]
            exact ⟨e11, Below.refl _ _, hJ⟩
        case hend =>
          intro V n w' hn hJ hφ
          have e12 : ON w' W0.heap.size (V 12) (nmIns xs k (s, f)) ∧ V 12 ≠ .slice none 0 0 := hφ 12 (by decide) rfl
          have O8 : Hid (ON w' W0.heap.size (V 12) (nmIns xs k (s, f)) ∧ Below w.heap.size w w') := Lib.hid ⟨e12.1, bup HW0.out.1 (Nat.le_refl _) hJ⟩
          have HNN := Lib.hid e12.2
          clear hφ hJ e12
          simp [frameOf, Act.put]
          go_wp2_with fail
          refine (specNmv_any (V 12) (nmIns xs k (s, f)) _ _ _ O8.out.1.rn).mono ?_
          rintro e w9 ⟨rfl, b9⟩
          have O9 := Lib.hid (And.intro (O8.out.1.below b9) (bup O8.out.2 (Nat.le_refl _) b9))
          clear b9
          by_cases hval : nmVal (nmIns xs k (s, f)) = true
          · have HR1 := Lib.hid (show R = (nmIns xs k (s, f), true) by rw [← HR.out, HP.out, if_pos hval])
            go_wp2_with fail
            go_ret2
            exact ⟨_, by rw [HR1.out]; rfl, ⟨by rw [HR1.out]; exact O9.out.1.wide hz0', HNN.out⟩, O9.out.2⟩
          · have HR1 := Lib.hid (show R = (xs, false) by rw [← HR.out, HP.out, if_neg hval])
            have hval' : nmVal (nmIns xs k (s, f)) = false := by simpa using hval
            clear hval
            have hc := rn_take (H.out.below O9.out.2) xs.length
            rw [List.take_length] at hc
            have HC := Lib.hid (fun (o : Obj) j u hj => cell_later (w := w9) ((Below.refl _ _).alloc (Nat.le_refl _) o) (hc j u hj))
            clear hc
            go_wp2_with (at_builtin; refine ap_names rfl _ _ rfl w9.heap.size (.slice (some ⟨w9.heap.size, 0, none⟩) 0 0) [] rfl ⟨World.ownsRow_lit w9 #[] 0 (Nat.le_refl _) (by decide) rfl, fun _ h => by simp at h⟩ ⟨b, off, none⟩ xs.length cap xs rfl rfl (HC.out _) HW.out (by simp; omega) (by simp) ?_; intro v' w10 o10 d10; have hb10 : Below w9.heap.size w9 w10 := below_own ((Below.refl _ _).alloc (Nat.le_refl _) _) (by simp) d10; have O10 : Hid ((ON w10 w.heap.size v' xs ∧ v' ≠ .slice none 0 0) ∧ Below w.heap.size w w10) := Lib.hid ⟨⟨o10.1.wide (show w.heap.size ≤ w9.heap.size by have := O9.out.2.size; omega), o10.2 (by simp)⟩, bup O9.out.2 (Nat.le_refl _) hb10⟩; clear o10 d10 hb10)
            go_ret2
            exact ⟨_, by rw [HR1.out]; rfl, by rw [HR1.out]; exact O10.out.1, O10.out.2⟩
  · have hv' : nmVal xs = false := by simpa using hv
    have hd : nmPut xs (s, f) = ([], false) := by rw [nmPut, if_neg hv]
    rw [hd]
    clear hd hv
    have hb0 : Below w.heap.size w (w.alloc (.cells #[.string s, .int .i64 f] 33)) := (Below.refl _ _).alloc (Nat.le_refl _) _
    have HB0 := Lib.hid hb0
    clear hb0
    go_enter Try.func28, Try.ntmps28
    go_wp2_with fail
    refine (specNmv_any _ xs _ _ _ (H.out.below HB0.out)).mono ?_
    rintro e w1 ⟨rfl, b1⟩
    have B1 := Lib.hid (bup HB0.out (by simp) b1)
    have hz1 := B1.out.size
    clear b1
    go_wp2_with fail
    go_ret2
    exact ⟨_, rfl, ⟨⟨World.ownsRow_lit w1 #[] 0 hz1 (by decide) rfl, fun _ h => by simp at h⟩, by simp⟩, B1.out.alloc hz1 _⟩

end Go.Proofs.Ythhganlnljoinaa
